/- The abstract machine and its walks (a verified interpreter of the model's code: plain definitions and lemmas, no condition). Printed by a program from longer texts: names made short. -/
import Derived.Test.YthemdhlheglhoaaGreatDoorM3
import Derived.IntWalk
import Derived.Carry
import Derived.OpenShut
import Derived.ChangeSame
import Derived.Lib.Bytealg
import Derived.Lib.IndexMore
import Derived.Handed
import Derived.HandedShaped
import Derived.ChangeArms
import Derived.DataReads
import Derived.ChangeBears
set_option linter.unusedSectionVars false
set_option linter.unusedSimpArgs false
set_option linter.unusedVariables false
set_option maxHeartbeats 64000000
noncomputable section
namespace Go.Proofs.YthemdhlheglhoaaGreatDoor.aY
section
open Go Go.RowKit
variable [Lay]
def gI (P:Program) (f:FuncId) (args:List V) (h:ah) (v:V) (ab:ah):Prop:=
 f≠dt/\(((∃fn,P.funcs[f]? =some fn/\fn.body.isSome=true)/\∀(ay:Fr) E w xs,bh E args xs->bf ay E h w->
  Calls P f xs.toArray w fun e w'=>∃aw x,e=.returned x/\E.le aw/\Rel aw v x/\bf ay aw ab w')\/
 ∀(ay:Fr) E w xs,bh E args xs->bf ay E h w->∃aw x w',(callFunc f xs.toArray).run P w=.ok (.value x) w'/\E.le aw/\Rel aw v x/\bf ay aw ab w')
def OV (P:Program) (args:List V) (b:aO) (h:ah) (v:V) (ab:ah):Prop:=
 ∀(ay:Fr) E w xs p,bh E args xs->bf ay E h w->E b=some p->
  ∃f tmps assign body,(Instr.yield p.aW xs.toArray).run P w=.ok (.round p.aW f tmps assign body) w/\
   RoundIn (ct none) 0 P p.aW f tmps assign body w fun e w'=>∃aw x,e=.returned x/\E.le aw/\Rel aw v x/\bf ay aw ab w'
theorem gI.calls {P:Program} (bH:eF P) {f:FuncId} {args:List V} {h ab:ah} {v:V} (H:gI P f args h v ab) (ae:∃fn,P.funcs[f]? =some fn/\fn.body.isSome=true) (ay:Fr) (E:Env) (w:World) (xs:List Value) (ai:bh E args xs) (s:bf ay E h w):
 Calls P f xs.toArray w fun e w'=>∃aw x,e=.returned x/\E.le aw/\Rel aw v x/\bf ay aw ab w':=by
 rcases H.2 with ⟨_,H⟩ | H
 . exact H ay E w xs ai s
 . obtain ⟨aw,x,w',aG,_⟩:=H ay E w xs ai s;obtain ⟨fn,aa,ad⟩:=ae;rw [uN bH aa ad] at aG;cases aG
def c4 (P:Program) (f:FuncId) (args:List V) (h:ah) (K:V->ah->Prop):Prop:=∃v ab,gI P f args h v ab/\K v ab
def DA (P:Program) (args:List V) (b:aO) (h:ah) (K:V->ah->Prop):Prop:=∃v ab,OV P args b h v ab/\K v ab
def OW (P:Program) (xs:List V) (h:ah) (K:V->ah->Prop):Prop:=∃cT b,xs=cT++[.ptr b 0]/\DA P cT b h K
def NX (P:Program) (g:FuncId) (xs:List V) (h:ah) (K:V->ah->Prop):Prop:=if g=dt then OW P xs h K else c4 P g xs h K
def V.target (v:V) (args:List V):Option (FuncId × List V):=
 match v with
 | .func g cs=>some (g,args++cs)
 | .ob g cs=>some (g,cs++args)
 | _=>none
theorem U5 {v:V} {args xs:List V} {g:FuncId} (h:v.target args=some (g,xs)) (F:FuncId->List V->a7):v.zx args F=F g xs:=by
 cases v<;>simp only [V.target] at h<;>try (cases h;done)
 all_goals (simp only [Option.some.injEq,Prod.mk.injEq] at h;obtain ⟨rfl,rfl⟩:=h;rfl)
theorem c4.mono {P:Program} {f:FuncId} {args:List V} {h:ah} {K nB:V->ah->Prop} (c:c4 P f args h K) (aD:∀v ab,K v ab->nB v ab):c4 P f args h nB:=by obtain ⟨v,ab,ao,ax⟩:=c;exact ⟨v,ab,ao,aD v ab ax⟩
def k_:dJ:=fun _ _ _=>.fail
theorem F' (P:Program):gW P k_/\hb P k_:=
 ⟨⟨fun _ f args h v ab _ he=>by simp [k_] at he,fun _ f args h v ab _ he=>by simp [k_] at he,fun _ args b h v ab he=>by simp [k_] at he,fun args h v ab he=>by simp [k_] at he⟩,fun f args h v ab he=>by simp [k_] at he⟩
open Classical in
def ng (f:FuncId) (args:List V) (h:ah) (v:V) (ab:ah):dJ:=
 fun f1 bN aa=>if f1=f/\bN=args/\aa=h then .val v ab else .fail
theorem U_ {P:Program} {f:FuncId} {args:List V} {h ab:ah} {v:V} (H:gI P f args h v ab):gW P (ng f args h v ab)/\hb P (ng f args h v ab):=by
 refine ⟨⟨fun ay f1 bN aa v1 il _ he=>?_,fun ay f1 bN aa v1 il _ he=>?_,fun ay bN b aa v1 il he=>?_,fun bN aa v1 il he=>?_⟩,fun f1 bN aa v1 il he=>?_⟩
 . unfold ng at he
   split at he
   . rename_i aC;obtain ⟨rfl,rfl,rfl⟩:=aC;simp only [a7.val.injEq] at he;obtain ⟨rfl,rfl⟩:=he;intro E w xs ai s;rcases H.2 with H | H
     . exact .inl ⟨H.1,H.2 ay E w xs ai s⟩
     . exact .inr (H ay E w xs ai s)
   . cases he
 . unfold ng at he
   split at he<;>cases he
 . unfold ng at he
   split at he
   . rename_i aC;exact absurd aC.1.symm H.1
   . cases he
 . unfold ng at he
   split at he<;>cases he
 . trivial
theorem am9 {xs cT:List V} {x y:V} (h:xs++[x]=cT++[y]):xs=cT/\x=y:=by have:=List.append_inj' h rfl;exact ⟨this.1,by simpa using this.2⟩
theorem alA {P:Program} {args:List V} {b:aO} {h ab:ah} {v:V} (H:OV P args b h v ab):gW P (ng dt (args++[.ptr b 0]) h v ab)/\hb P (ng dt (args++[.ptr b 0]) h v ab):=by
 refine ⟨⟨fun ay f1 bN aa v1 il cR he=>?_,fun ay f1 bN aa v1 il _ he=>?_,fun ay bN cn aa v1 il he=>?_,fun bN aa v1 il he=>?_⟩,fun f1 bN aa v1 il he=>?_⟩
 . unfold ng at he
   split at he
   . rename_i aC;exact absurd aC.1 cR
   . cases he
 . unfold ng at he
   split at he<;>cases he
 . unfold ng at he
   split at he
   . rename_i aC;obtain ⟨_,aC,rfl⟩:=aC;obtain ⟨rfl,ae⟩:=am9 aC;simp only [V.ptr.injEq,and_true] at ae;subst ae;simp only [a7.val.injEq] at he;obtain ⟨rfl,rfl⟩:=he;exact fun E w xs p ai s af=>H ay E w xs p ai s af
   . cases he
 . unfold ng at he
   split at he<;>cases he
 . trivial
theorem Mc {f:FuncId} {args:List V} {h ab:ah} {v:V}:ng f args h v ab f args h=.val v ab:=by unfold ng;rw [if_pos ⟨rfl,rfl,rfl⟩]
def bc.set (r:bc) (d:Option Nat) (v:V):bc:=
 match d with
 | none=>r
 | some d=>fun t=>if t=d then v else r t
def bc.trim (r:bc):List Nat->bc
 | [],_=>.bad
 | u::us,t=>if t=u then r t else bc.trim r us t
def bc.bx:List V->bc
 | [],_=>.bad
 | v::ag,t=>if t=0 then v else bc.bx ag (t-1)
def CM (r:bc):List Nat->bB
 | []=>.e
 | t::cJ=>T.put .bad (r t) (aj t) (CM r cJ)
theorem Xi (r:bc):∀cJ:List Nat,d' (CM r cJ)=bc.trim r cJ
 | []=>by funext t;simp [d',CM,bc.trim]
 | u::cJ=>by
   funext t;have bd:=congrFun (Xi r cJ) t;simp only [d'] at bd;simp only [d',CM,bc.trim,T.h5];by_cases h:t=u
   . subst h;simp
   . rw [if_neg (fun e=>h (ed e).symm),if_neg h];exact bd
theorem CN (b_:bB):∀cJ:List Nat,d' (dq b_ cJ)=bc.trim (d' b_) cJ
 | []=>by funext t;simp [d',dq,bc.trim]
 | u::cJ=>by
   funext t;have bd:=congrFun (CN b_ cJ) t;simp only [d'] at bd;simp only [d',dq,bc.trim,T.h5];by_cases h:t=u
   . subst h;simp
   . rw [if_neg (fun e=>h (ed e).symm),if_neg h];exact bd
theorem No {r:bc}:∀{cJ:List Nat} {t:Nat},t ∈ cJ->bc.trim r cJ t=r t
 | [],t,h=>by simp at h
 | u::cJ,t,h=>by
   simp only [bc.trim];by_cases hu:t=u
   . rw [if_pos hu]
   . rw [if_neg hu];simp only [List.mem_cons] at h;exact No (h.resolve_left hu)
theorem Xj {r:bc}:∀{cJ:List Nat} {t:Nat},t ∉ cJ->bc.trim r cJ t=.bad
 | [],t,_=>rfl
 | u::cJ,t,h=>by simp only [List.mem_cons,not_or] at h;simp only [bc.trim];rw [if_neg h.1];exact Xj h.2
theorem Gw (d:Option Nat) (b_:bB) (v:V):d' ((fK d).run b_ v)=(d' b_).set d v:=by
 cases d with
 | none=>rfl
 | some d=>
   funext t;simp only [d',fK,bc.set,T.h5];by_cases h:t=d
   . subst h;simp
   . rw [if_neg (fun e=>h (ed e).symm),if_neg h]
abbrev et:Nat:=17179869185
def Out (ar:Nat) (r:bc):Prop:=∀t,ar<=t->t≠et->r t=.bad
theorem Es {ar:Nat} {r:bc} (aX:Out ar r):∃b_,d' b_=r:=by
 refine ⟨CM r (et::List.range ar),?_⟩;rw [Xi];funext t;by_cases h:t<ar
 . exact No (List.mem_cons_of_mem _ (List.mem_range.2 h))
 . by_cases ad:t=et
   . exact No (by rw [ad];exact List.mem_cons_self)
   . rw [Xj (by simp only [List.mem_cons,List.mem_range,not_or];exact ⟨ad,h⟩),aX t (by omega) ad]
theorem Out.set {ar:Nat} {r:bc} (aX:Out ar r) {d:Option Nat} (bb:eW ar d=true) (v:V):Out ar (r.set d v):=by
 intro t au aM;cases d with
 | none=>exact aX t au aM
 | some d=>
   simp only [eW,Bool.and_eq_true,Nat.blt_eq] at bb;simp only [bc.set];rw [if_neg (by omega)];exact aX t au aM
theorem M0 {ar:Nat} {r:bc} {d:Option Nat} (bb:eW ar d=true) (v:V):r.set d v et=r et:=by
 cases d with
 | none=>rfl
 | some d=>
   simp only [eW,Bool.and_eq_true,Nat.blt_eq,Nat.ble_eq] at bb;simp only [bc.set];rw [if_neg (by have:=bb.2;unfold top at this;unfold et;omega)]
structure kd (E:Env) (ar:Nat) (r:bc) (a:Act):Prop where
 size:a.tmps.size=ar
 defers:lo E (r et) a.defers
 av:∀t,t≠et->Rel E (r t) (a.tmps.getD t undef)
theorem wU {t:Nat} (h:t<=top):t≠et:=by unfold top at h;unfold et;omega
theorem kd.mono {E aw:Env} (h:E.le aw) {ar:Nat} {r:bc} {a:Act} (k:kd E ar r a):kd aw ar r a:=
 ⟨k.size,k.defers.mono h,fun t au=>Rel.mono h _ _ (k.av t au)⟩
theorem kd.put {E aw:Env} (h:E.le aw) {ar:Nat} {r:bc} {a:Act} (k:kd E ar r a) {d:Option Nat} (bb:eW ar d=true) {v:V} {x:Value} (ai:Rel aw v x):kd aw ar (r.set d v) (a.put d x):=by
 cases d with
 | none=>exact k.mono h
 | some d=>
   have aM:=M0 (r:=r) bb v;simp only [eW,Bool.and_eq_true,Nat.blt_eq] at bb;refine ⟨by simp [Act.put,k.size],by rw [aM];exact k.defers.mono h,fun t fx=>?_⟩;simp only [bc.set,Act.put];rw [Array.getD_eq_getD_getElem?,Array.getElem?_setIfInBounds];by_cases au:t=d
   . subst au;rw [if_pos rfl,if_pos rfl,if_pos (by rw [k.size];exact bb.1)];exact ai
   . rw [if_neg au,if_neg (fun e=>au e.symm),<-Array.getD_eq_getD_getElem?];exact Rel.mono h _ _ (k.av t fx)
def G.wp (P:Program) (g:G) (r:bc) (h:ah) (K:V->ah->Prop):Prop:=
 match g with
 | .call f args=>c4 P f (aU.fN r args) h K
 | .pL f args=>∃g xs,(f.aR r).target (aU.fN r args)=some (g,xs)/\NX P g xs h K
 | g=>∃v ab,g.run P k_ r h=.val v ab/\K v ab
theorem G.zY {P:Program} {g:G} {r:bc} {h:ah} {K:V->ah->Prop} (H:g.wp P r h K):∃call v ab,(gW P call/\hb P call)/\g.run P call r h=.val v ab/\K v ab:=by
 cases g
 case call f args=>
  obtain ⟨v,ab,ao,ax⟩:=H;exact ⟨_,v,ab,U_ ao,Mc,ax⟩
 case pL f args=>
  obtain ⟨g,xs,aB,H⟩:=H;unfold NX at H
  split at H
  rotate_left
  . obtain ⟨v,ab,ao,ax⟩:=H;refine ⟨_,v,ab,U_ ao,?_,ax⟩;simp only [G.run];rw [U5 aB];exact Mc
  . rename_i aF;subst aF;obtain ⟨cT,b,rfl,v,ab,ao,ax⟩:=H;refine ⟨_,v,ab,alA ao,?_,ax⟩;simp only [G.run];rw [U5 aB];exact Mc
 all_goals
  obtain ⟨v,ab,ao,ax⟩:=H;exact ⟨k_,v,ab,F' P,ao,ax⟩
structure bG where
 dst:Option Nat
 g:G
 JP:Option (Nat × Bool)
 rs:List Nat
def bG.bad:bG:=⟨none,.bad,none,[]⟩
def gate (v:V) (want:Bool) (A B:Prop):Prop:=
 match v with
 | .bool b=>(b=want->A)/\(b=!want->B)
 | .tuple _=>B
 | _=>False
def bG.wp (P:Program) (o:bG) (r:bc) (h:ah) (K:bc->V->ah->Prop):Prop:=
 match o.JP with
 | none=>o.g.wp P (r.trim o.rs) h fun v ab=>K (r.set o.dst v) v ab
 | some (d,want)=>gate (r.trim o.rs d) want (o.g.wp P (r.trim o.rs) h fun v ab=>K (r.set o.dst v) v ab) (K (r.set o.dst (.tuple [])) (.tuple []) h)
def uL (P:Program) (ar:Nat) (all:Array Oper) (o:Oper):bG:=
 bif eW ar o.dst&&jN (b2 all o) then
  match o.guard with
  | none=>⟨o.dst,GC P o.op,none,b2 all o⟩
  | some (j,want)=>match all[j]? with
    | some g=>match g.dst with
      | some d=>bif Nat.blt d ar&&Nat.ble d top then ⟨o.dst,GC P o.op,some (d,want),b2 all o⟩ else bG.bad
      | none=>bG.bad
    | none=>bG.bad
 else bG.bad
def zK (P:Program) (ar:Nat) (all:Array Oper):List Oper->List bG
 | []=>[]
 | o::os=>uL P ar all o::zK P ar all os
theorem Wh (P:Program) (ar:Nat) (all:Array Oper):∀l:List Oper,zK P ar all l=l.map (uL P ar all)
 | []=>rfl
 | o::os=>by simp [zK,Wh P ar all os]
def aU.isNil:aU->Bool
 | .c .dX=>true
 | _=>false
def CB (P:Program) (ar:Nat) (all:Array Oper) (o:Oper):bG:=
 match o.op,o.guard with
 | .binOp op t x y _,none=>match w6 P op t with
   | some neg=>bif !((rx x).isNil||(rx y).isNil)&&(eW ar o.dst&&jN (b2 all o)) then ⟨o.dst,.peq neg (rx x) (rx y),none,b2 all o⟩ else uL P ar all o
   | none=>uL P ar all o
 | _,_=>uL P ar all o
def GD (P:Program) (ar:Nat) (all:Array Oper):List Oper->List bG
 | []=>[]
 | o::os=>CB P ar all o::GD P ar all os
theorem bG.DQ {P:Program} {r:bc} {h:ah} {K:bc->V->ah->Prop}:¬bG.bad.wp P r h K:=by rintro ⟨v,ab,q,_⟩;cases q
theorem bG.zY {P:Program} {ar:Nat} {all:Array Oper} {o:Oper} {r:bc} {h:ah} {K:bc->V->ah->Prop} (H:(uL P ar all o).wp P r h K):
 ∃call v ab,(gW P call/\hb P call)/\eW ar o.dst=true/\K (r.set o.dst v) v ab/\∀b_,d' b_=r->(cB P ar all o).run call b_ h=.val v ab:=by
 unfold uL at H;cases aC:(eW ar o.dst&&jN (b2 all o)) with
 | false=>rw [aC] at H;exact absurd H bG.DQ
 | true=>
   have bb:eW ar o.dst=true:=by simp only [Bool.and_eq_true] at aC;exact aC.1
   rw [aC] at H;simp only [cond_true] at H;cases aF:o.guard with
   | none=>
     rw [aF] at H;obtain ⟨call,v,ab,ao,ax,aL⟩:=G.zY H;refine ⟨call,v,ab,ao,bb,aL,fun b_ cK=>?_⟩;unfold cB;rw [aC];simp only [cond_true,aF,ja];refine Wg ?_;rw [CN,cK];exact ax
   | some p3=>
     obtain ⟨j,want⟩:=p3;rw [aF] at H;simp only at H;cases a6:all[j]? with
     | none=>rw [a6] at H;exact absurd H bG.DQ
     | some g=>
       rw [a6] at H;simp only at H;cases kF:g.dst with
       | none=>rw [kF] at H;exact absurd H bG.DQ
       | some d=>
         rw [kF] at H;simp only at H;cases ae:(Nat.blt d ar&&Nat.ble d top) with
         | false=>rw [ae] at H;exact absurd H bG.DQ
         | true=>
           rw [ae] at H;simp only [cond_true,bG.wp] at H;have key:cB P ar all o=⟨ja (some (oN (aj d),want)) (fi P o) (b2 all o)⟩:=by unfold cB;rw [aC];simp only [cond_true,aF,a6,kF,ae]
           have Kk:∀b_,d' b_=r->(oN (aj d)).run (dq b_ (b2 all o))=r.trim (b2 all o) d:=by intro b_ cK;rw [<-cK,<-CN];rfl
           cases ba:r.trim (b2 all o) d<;>rw [ba] at H<;>simp only [gate] at H
           case bool b=>
            by_cases Sk:b=want
            . obtain ⟨call,v,ab,ao,ax,aL⟩:=G.zY (H.1 Sk);refine ⟨call,v,ab,ao,bb,aL,fun b_ cK=>?_⟩;rw [key];simp only [ja,Kk b_ cK,ba];rw [show (bif want then b else !b)=true from by subst Sk;cases b<;>rfl];simp only [cond_true];refine Wg ?_;rw [CN,cK];exact ax
            . have Si:b=!want:=by cases b<;>cases want<;>simp_all
              refine ⟨k_,.tuple [],h,F' P,bb,H.2 Si,fun b_ cK=>?_⟩;rw [key];simp only [ja,Kk b_ cK,ba];rw [show (bif want then b else !b)=false from by subst Si;cases want<;>rfl];rfl
           case tuple ag=>
            refine ⟨k_,.tuple [],h,F' P,bb,H,fun b_ cK=>?_⟩;rw [key];simp only [ja,Kk b_ cK,ba]
def ta (P:Program):List bG->bc->ah->(bc->ah->Prop)->Prop
 | [],r,h,K=>K r h
 | o::os,r,h,K=>o.wp P r h fun bu _ ab=>ta P os bu ab K
structure gv where
 r:bc
 h:ah
 v:V
def lk (P:Program):List bG->bc->ah->(List gv->bc->ah->Prop)->Prop
 | [],r,h,K=>K [] r h
 | o::os,r,h,K=>o.wp P r h fun bu v ab=>lk P os bu ab fun es cZ aB=>K (⟨r,h,v⟩::es) cZ aB
def yH (es:List gv) (aB:ah) (i:Nat):ah:=
 match es[i]? with
 | some e=>e.h
 | none=>aB
def rW (P:Program) (o:Option bG) (e:Option gv) (es:List gv) (aB:ah):List Nat->Prop
 | []=>True
 | s::e2=>(match o,e with
   | some o,some e=>o.wp P e.r (yH es aB s) fun _ c1 _=>c1=e.v
   | _,_=>False)/\rW P o e es aB e2
def pH (P:Program) (ops:List bG) (es:List gv) (aB:ah):List (Nat × List Nat)->Prop
 | []=>True
 | (p,e2)::rest=>rW P ops[p]? es[p]? es aB e2/\pH P ops es aB rest
inductive aS where
 | bad
 | skip
 | av (ops:List bG)
 | draw (ops:List bG) (asks:List (Nat × List Nat))
 | seq (a b:aS)
 | cond (c:aU) (a b:aS)
 | block (id:Nat) (b:aS)
 | loop (b:aS)
 | exit (id:Nat)
 | ret
 | range (f:aU) (bj:List Nat) (ar:Nat) (a b:aS)
def x5 (P:Program) (ops:List Oper) (dS aE eu:List Nat):Nat->List Oper->List (Nat × List Nat)
 | _,[]=>[]
 | i,o::os=>bif looks o.op&&!e0 P o.op then
    (posOf aE i,eu.filter (sK P dS ops aE i ((dS[i]?).getD 0)))::x5 P ops dS aE eu (i+1) os
   else x5 P ops dS aE eu (i+1) os
def MR (P:Program) (ar:Nat) (ops:Array Oper) (order aE:List Nat):aS:=
 bif lT ops.size order aE&&yc P ops aE then
  .draw (zK P ar ops (hs ops order)) (bif rU P ops.toList then x5 P ops.toList (eI [] ops.toList) aE (hG P aE 0 ops.toList) 0 ops.toList else [])
 else .bad
def gj (P:Program) (ar:Nat):Code->aS
 | .skip=>.skip
 | .label _=>.skip
 | .region _ ops draw=>bif draw then MR P ar ops (Cm P ops) (Gu (Cm P ops) 0 ops.toList) else .av (GD P ar ops ops.toList)
 | .seq a b=>.seq (gj P ar a) (gj P ar b)
 | .cond c a b=>.cond (rx c) (gj P ar a) (gj P ar b)
 | .block id b=>.block id (gj P ar b)
 | .loop b=>.loop (gj P ar b)
 | .exit id=>.exit id
 | .ret=>.ret
 | .scope b=>gj P ar b
 | .rangeFunc f bj a b=>bif pe ar bj.toList&&(noMark a&&noMark b) then .range (rx f) bj.toList ar (gj P ar a) (gj P ar b) else .bad
 | _=>.bad
structure As (P:Program) (l:kQ) (ar:Nat) (r:bc) (bj:List Nat) (sV iD:aS):Prop where
 aQ:l.ar=ar
 aG:d' l.r=r
 af:l.bj=bj
 aV:gj P ar l.assign=sV
 ae:gj P ar l.body=iD
 kC:pe ar bj=true
 aqF:noMark l.assign=true
 b4:noMark l.body=true
 out:Out ar r
def kQ.go (l:kQ) (st:Nat) (d_:Option db):kQ:=⟨st,d_,l.d,l.ar,l.r,l.bj,l.assign,l.body⟩
def bc.uy:List Nat->List V->bc->bc
 | p::bj,v::ag,r=>bc.uy bj ag (r.set (some p) v)
 | _,_,r=>r
def nm (bj:List Nat) (ag:List V) (r:bc):bc:=(bc.uy bj ag r).set (some et) .bad
def db.andThen:db->Prop->Prop->Prop
 | .normal,A,_=>A
 | _,_,B=>B
def db.leave (id:Nat):db->db
 | .exit i=>if i=id then .normal else .exit i
 | e=>e
def fZ (P:Program):aS->bc->ah->(db->bc->ah->Prop)->Prop
 | .bad,_,_,_=>False
 | .skip,r,h,Q=>Q .normal r h
 | .av ops,r,h,Q=>ta P ops r h (Q .normal)
 | .draw ops asks,r,h,Q=>lk P ops r h fun es cZ aB=>pH P ops es aB asks/\Q .normal cZ aB
 | .seq a b,r,h,Q=>fZ P a r h fun e bu ab=>e.andThen (fZ P b bu ab Q) (Q e bu ab)
 | .cond c a b,r,h,Q=>match c.aR r with
   | .bool t=>(t=true->fZ P a r h Q)/\(t=false->fZ P b r h Q)
   | _=>False
 | .block id b,r,h,Q=>fZ P b r h fun e bu ab=>Q (e.leave id) bu ab
 | .loop b,r,h,Q=>∃(I:bc->ah->Prop) (μ:bc->ah->Nat),I r h/\∀r h,I r h->fZ P b r h fun e bu ab=>e.andThen (I bu ab/\μ bu ab<μ r h) (Q e bu ab)
 | .exit id,r,h,Q=>Q (.exit id) r h
 | .ret,r,h,Q=>Q .ret r h
 | .range f bj ar a b,r,h,Q=>∃g cs,f.aR r=.func g cs/\g≠dt/\(∃fn,P.funcs[g]? =some fn/\fn.body.isSome=true)/\∀l,As P l ar r bj a b->l.st=0->l.d_=none->
    c4 P g (.func dt [.ptr (aj (h.next+1)) 0]::cs) ((h.new .fj).new (.df l)) fun _ ab=>
     ∃cG,ab.get (aj (h.next+1))=.df cG/\cG.st≠1/\Q (cG.d_.getD .normal) (r.set (some et) (.tuple (.ptr (aj h.next) 0::(r et).list))) (ab.set (aj (h.next+1)) .dead)
def aS.plain:aS->Bool
 | .seq a b=>a.plain&&b.plain
 | .cond _ a b=>a.plain&&b.plain
 | .block _ b=>b.plain
 | .loop b=>b.plain
 | .range _ _ _ _ _=>false
 | _=>true
def C4 (P:Program) (ar:Nat) (c:Code) (r:bc) (h:ah) (e:db) (bu:bc) (ab:ah):Prop:=
 ∀(rd:Option Nat) (ay:Fr) E a w,(rd=none\/noMark c=true)->kd E ar r a->bf ay E h w->∀Q:Exit->Act->World->Prop,
  (∀aw bs w',E.le aw->kd aw ar bu bs->bf ay aw ab w'->Q (toExit e) bs w')->Hk rd P c Q a w
section
variable {P:Program} {ar:Nat}
theorem amr (P:Program) (ar:Nat) (all:Array Oper) (o:Oper):CB P ar all o=uL P ar all o\/∃op t x y u neg,o.op=.binOp op t x y u/\o.guard=none/\w6 P op t=some neg/\eW ar o.dst=true/\jN (b2 all o)=true/\CB P ar all o=⟨o.dst,.peq neg (rx x) (rx y),none,b2 all o⟩:=by
 obtain ⟨dst,op,type,pos,after,guard⟩:=o;cases op<;>try (exact .inl rfl)
 rename_i op t x y u;cases guard with
 | some g=>exact .inl rfl
 | none=>
   simp only [CB];cases af:w6 P op t with
   | none=>exact .inl rfl
   | some neg=>
     simp only;cases aC:(!((rx x).isNil||(rx y).isNil)&&(eW ar dst&&jN (b2 all ⟨dst,.binOp op t x y u,type,pos,after,none⟩))) with
     | false=>exact .inl rfl
     | true=>
       simp only [Bool.and_eq_true] at aC;exact .inr ⟨op,t,x,y,u,neg,by first | rfl | trivial,by first | rfl | trivial,af,by first | exact aC.2.1 | trivial,by first | exact aC.2.2 | trivial,by first | rfl | trivial⟩
theorem bG.aoE (bH:eF P) {all:Array Oper} {o:Oper} {i:Nat} (aq:all[i]? =some o) {r:bc} {h:ah} {K:bc->V->ah->Prop} (aX:Out ar r) (H:(CB P ar all o).wp P r h K):
 ∃v ab,eW ar o.dst=true/\K (r.set o.dst v) v ab/\∀(rd:Option Nat) (ay:Fr) E a w,kd E ar r a->bf ay E h w->∀(Q:Exit->Act->World->Prop) (C:Act->World->Prop),
  (∀aw x w',E.le aw->Rel aw v x->bf ay aw ab w'->C (a.put o.dst x) w')->wpOpIn (ct rd) 0 P all Q i C a w:=by
 obtain ⟨b_,cK⟩:=Es aX;rcases amr P ar all o with e | ⟨op,t,x,y,u,neg,aN,aZ,bJ,dR,e_,hO⟩
 . rw [e] at H;obtain ⟨call,v,aa,aC,bb,H1,cV⟩:=bG.zY H;refine ⟨v,aa,bb,H1,fun rd ay E a w k s Q C JX=>?_⟩;refine qK bH aC.1 aC.2 aq (cV b_ cK) k.size (fun t au=>?_) s JX;have:=congrFun cK t;simp only [d'] at this;rw [this];exact k.av t (wU (Nat.le_of_ble_eq_true (List.all_eq_true.1 (ky (cV b_ cK)).2 t au)))
 . rw [hO] at H;simp only [bG.wp,G.wp,G.run] at H;obtain ⟨v,ab,ba,dK⟩:=H;unfold uF at ba;cases aA:g' h ((rx x).aR (r.trim (b2 all o))) ((rx y).aR (r.trim (b2 all o))) with
   | none=>rw [aA] at ba;cases ba
   | some b=>
     rw [aA] at ba;simp only [a7.of,a7.val.injEq] at ba;obtain ⟨rfl,rfl⟩:=ba;refine ⟨_,h,dR,dK,fun rd ay E a w k s Q C JX=>?_⟩;have jE:RegRel0 E ar (dq b_ (b2 all o)) a:=⟨k.size,fun t au=>by
      rw [Nn e_ au];by_cases hm:t ∈ b2 all o
      . rw [if_pos hm];have:=congrFun cK t;simp only [d'] at this;rw [this];exact k.av t (wU au)
      . rw [if_neg hm];simp [Rel]⟩
     have ex:∀z:Operand,(bQ z).run (dq b_ (b2 all o))=(rx z).aR (r.trim (b2 all o)):=fun z=>by rw [eX,CN,cK]
     rw [<-ex,<-ex] at aA;obtain ⟨dst,aqS,type,pos,after,guard⟩:=o;subst aN aZ;obtain ⟨Z,fw,cC⟩:=VI (P:=P) (fm:=x) (h_:=y) s bJ aA (dA jE x) (dA jE y);simp only [wpOpIn,aq,Region.wanted,if_true];exact gu rfl (c8.plain s fw cC) fun aw v w' ao ax aL=>JX aw _ w' ao ax aL
theorem XM (bH:eF P) {all:Array Oper}:∀(l:List Oper) (i:Nat),(∀j,l[j]? =all[i+j]?)->∀(r:bc) (h:ah) (K:bc->ah->Prop),Out ar r->ta P (GD P ar all l) r h K->
 ∃bu ab,K bu ab/\(Out ar bu/\bu et=r et)/\∀(rd:Option Nat) (ay:Fr) E a w,kd E ar r a->bf ay E h w->∀Q:Exit->Act->World->Prop,
  (∀aw bs w',E.le aw->kd aw ar bu bs->bf ay aw ab w'->Q .normal bs w')->wpOpsIn (ct rd) 0 P all Q (List.range' i l.length) a w
 | [],i,_,r,h,K,aX,H=>by refine ⟨r,h,H,⟨aX,rfl⟩,fun rd ay E a w k s Q cO=>?_⟩;simp only [List.length_nil,List.range'_zero,wpOpsIn];exact cO E a w (Env.le.refl E) k s
 | o::os,i,az,r,h,K,aX,H=>by
   have aq:all[i]? =some o:=by have:=az 0;simpa using this.symm
   simp only [GD,ta] at H;obtain ⟨v,aa,bb,H1,cV⟩:=bG.aoE bH aq aX H;obtain ⟨b3,ad,ao,ax,aL⟩:=XM bH os (i+1) (fun j=>by have:=az (j+1);simp only [List.getElem?_cons_succ] at this;rw [this];congr 1;omega) _ aa K (aX.set bb v) H1;refine ⟨b3,ad,ao,⟨ax.1,ax.2.trans (M0 bb v)⟩,fun rd ay E a w k s Q cO=>?_⟩;rw [List.length_cons,List.range'_succ,wpOpsIn_cons];refine cV rd ay E a w k s _ _ fun aw x w' b0 b1 cS=>?_;exact aL rd ay aw _ w' (k.put b0 bb b1) cS Q fun bL a2 bV b6 z2 z3=>cO bL a2 bV (b0.trans b6) z2 z3
def toF (e:eS):gv:=⟨d' e.r,e.h,e.v⟩
theorem aeR (es:List eS) (aB:ah) (i:Nat):yH (es.map toF) aB i=cg es aB i:=by unfold yH cg;rw [List.getElem?_map];cases es[i]? <;>rfl
theorem XL {all:Array Oper}:∀(l:List Oper) (mE:bB) (h:ah) (K:List gv->bc->ah->Prop),lk P (zK P ar all l) (d' mE) h K->Out ar (d' mE)->
 ∃es oE aB,K (es.map toF) (d' oE) aB/\(Out ar (d' oE)/\d' oE et=d' mE et)/\es.length=l.length/\cg es aB 0=h/\eh es oE 0=mE/\
  ∀j o,l[j]? =some o->∃e call,es[j]? =some e/\(gW P call/\hb P call)/\(cB P ar all o).run call e.r e.h=.val e.v (cg es aB (j+1))/\eh es oE (j+1)=(fK o.dst).run e.r e.v
 | [],mE,h,K,H,aX=>⟨[],mE,h,H,⟨aX,rfl⟩,rfl,rfl,rfl,fun j o a6=>by simp at a6⟩
 | o::os,mE,h,K,H,aX=>by
   simp only [zK,lk] at H;obtain ⟨call,v,aa,aC,bb,H1,cV⟩:=bG.zY H;rw [<-Gw] at H1;obtain ⟨es,oE,aB,ao,ax,aL,bY,ee,fQ⟩:=XL os _ aa _ H1 (by rw [Gw];exact aX.set bb v);refine ⟨⟨mE,h,v⟩::es,oE,aB,ao,⟨ax.1,ax.2.trans (by rw [Gw];exact M0 bb v)⟩,by simp [aL],by simp [cg],by simp [eh],fun j cb a6=>?_⟩;cases j with
   | zero=>
     simp only [List.getElem?_cons_zero,Option.some.injEq] at a6;subst a6;exact ⟨⟨mE,h,v⟩,call,rfl,aC,by rw [yG,bY];exact cV mE rfl,by rw [zI,ee]⟩
   | succ j=>
     obtain ⟨e,c,b0,b1,cS,iU⟩:=fQ j cb (by simpa using a6);exact ⟨e,c,by simpa using b0,b1,by rw [yG];exact cS,by rw [zI];exact iU⟩
theorem Pb {o:Option bG} {e:Option gv} {es:List gv} {aB:ah}:∀{e2:List Nat},rW P o e es aB e2->∀s ∈ e2,∃cb c9,o=some cb/\e=some c9/\cb.wp P c9.r (yH es aB s) fun _ c1 _=>c1=c9.v
 | [],_,s,h=>by simp at h
 | e1::e2,H,s,hm=>by
   simp only [rW] at H;simp only [List.mem_cons] at hm;rcases hm with rfl | hm
   . cases o with
     | none=>exact H.1.elim
     | some o=>
       cases e with
       | none=>exact H.1.elim
       | some e=>exact ⟨o,e,rfl,rfl,H.1⟩
   . exact Pb H.2 s hm
theorem Pe {ops:List Oper} {dS aE eu:List Nat} {gs:List bG} {es:List gv} {aB:ah}:∀{l:List Oper} {i:Nat},pH P gs es aB (x5 P ops dS aE eu i l)->∀j o,l[j]? =some o->looks o.op=true->e0 P o.op=false->
 rW P gs[posOf aE (i+j)]? es[posOf aE (i+j)]? es aB (eu.filter (sK P dS ops aE (i+j) ((dS[i+j]?).getD 0)))
 | [],i,_,j,o,h,_,_=>by simp at h
 | cb::os,i,H,j,o,h,aa,ad=>by
   simp only [x5] at H;cases j with
   | zero=>
     simp only [List.getElem?_cons_zero,Option.some.injEq] at h;subst h;rw [aa,ad] at H;simp only [Bool.not_false,Bool.and_true,cond_true,pH] at H;exact H.1
   | succ j=>
     have ku:pH P gs es aB (x5 P ops dS aE eu (i+1) os):=by
      cases aC:(looks cb.op&&!e0 P cb.op) with
      | true=>rw [aC] at H;simp only [cond_true,pH] at H;exact H.2
      | false=>rw [aC] at H;exact H
     have:=Pe ku j o (by simpa using h) aa ad;rw [show i+1+j=i + (j+1) from by omega] at this;exact this
theorem acC (hi:ar<=top) (c6:P.follows .mixedOrders=true) (bH:eF P) {id:Nat} {ops:Array Oper} {order aE:List Nat} {r:bc} {h:ah} {Q:db->bc->ah->Prop} (aX:Out ar r)
 (H:fZ P (MR P ar ops order aE) r h Q):∃bu ab,Q .normal bu ab/\(Out ar bu/\bu et=r et)/\C4 P ar (.region id ops true) r h .normal bu ab:=by
 unfold MR at H;cases aB:(lT ops.size order aE&&yc P ops aE) with
 | false=>rw [aB] at H;exact H.elim
 | true=>
   rw [aB] at H;simp only [cond_true,fZ] at H;simp only [Bool.and_eq_true] at aB;obtain ⟨gY,gm⟩:=aB;unfold lT at gY;simp only [Bool.and_eq_true,Nat.beq_eq] at gY;obtain ⟨kk,mV,sj,sk⟩:=gY;have ia:∀k,k<ops.size->posOf aE k<ops.size/\order[posOf aE k]? =some k:=by
    intro k aD;have aF:aE[k]? =some (posOf aE k):=by unfold posOf;rw [List.getElem?_eq_getElem (by omega)];rfl
    have:=uA sj aF;rw [Nat.zero_add] at this;exact ⟨by have:=(List.getElem?_eq_some_iff.1 this).1;omega,this⟩
   have la:∀p,p<ops.size->∃i,i<ops.size/\posOf aE i=p:=by intro p af;have aF:order[p]? =some (order[p]'(by omega)):=List.getElem?_eq_getElem (by omega);have:=uA sk aF;rw [Nat.zero_add] at this;refine ⟨order[p]'(by omega),by have:=(List.getElem?_eq_some_iff.1 this).1;omega,?_⟩;unfold posOf;rw [this];rfl
   obtain ⟨mE,tP⟩:=Es aX;rw [<-tP] at H aX;obtain ⟨es,oE,bk,⟨Ba,cO⟩,⟨sn,S4⟩,ao,ax,aL,bY⟩:=XL _ mE h _ H aX;refine ⟨_,bk,cO,⟨sn,by rw [<-tP];exact S4⟩,fun rd ay E a w aG k s gx J4=>?_⟩;have step:∀i:Nat,∃call,(gW P call/\hb P call)/\∀o,ops[i]? =some o->∃e,es[posOf aE i]? =some e/\(cB P ar ops o).run call e.r e.h=.val e.v (cg es bk (posOf aE i+1))/\eh es oE (posOf aE i+1)=(fK o.dst).run e.r e.v:=by
    intro i;cases aq:ops[i]? with
    | none=>exact ⟨k_,F' P,fun o h=>by cases h⟩
    | some o=>
      obtain ⟨e,call,b0,b1,cS,iU⟩:=bY _ o (nf (ia i (Array.getElem?_eq_some_iff.1 aq).1).2 aq);exact ⟨call,b1,fun cb hD=>by cases hD;exact ⟨e,b0,cS,iU⟩⟩
   obtain ⟨calls,yC⟩:=Classical.axiomOfChoice step;have tR:∀j o,ops[j]? =some o->looks o.op=true->e0 P o.op=false->∃e,es[posOf aE j]? =some e/\∀s ∈ hG P aE 0 ops.toList,
    sK P (eI [] ops.toList) ops.toList aE j (((eI [] ops.toList)[j]?).getD 0) s=true->∃c ab,(gW P c/\hb P c)/\(cB P ar ops o).run c e.r (cg es bk s)=.val e.v ab:=by
    intro j o q1 eC aeW;have a6:=(Array.getElem?_eq_some_iff.1 q1).1;obtain ⟨e,b0,b1,cS⟩:=(yC j).2 o q1;refine ⟨e,b0,fun s aM hm=>?_⟩;cases az:rU P ops.toList with
    | true=>
      rw [az] at Ba;simp only [cond_true] at Ba;have:=Pe Ba j o (by simpa using q1) eC aeW;rw [Nat.zero_add] at this;obtain ⟨cb,c9,b6,z2,z3⟩:=Pb this s (List.mem_filter.2 ⟨aM,hm⟩);rw [Wh,List.getElem?_map,nf (ia j a6).2 q1] at b6;simp only [Option.map_some,Option.some.injEq] at b6;rw [List.getElem?_map,b0] at z2;simp only [Option.map_some,Option.some.injEq] at z2;subst b6;subst z2;rw [aeR] at z3;obtain ⟨c,v,ab,dT,_,y3,y4⟩:=bG.zY z3;have XO:=y4 e.r rfl;rw [show v=e.v from y3] at XO;exact ⟨c,ab,dT,XO⟩
    | false=>
      have none:∀(l:List Oper),rU P l=false->∀(j:Nat) (o:Oper),l[j]? =some o->e0 P o.op=false:=by
       intro l
       induction l with
       | nil=>intro _ j o h;simp at h
       | cons x l bd=>
         intro h j o aX;simp only [rU,Bool.or_eq_false_iff] at h;cases j with
         | zero=>simp only [List.getElem?_cons_zero,Option.some.injEq] at aX;subst aX;exact h.1
         | succ j=>exact bd h.2 j o (by simpa using aX)
      have hp:s=ops.size:=by
       rcases uo aM with h | ⟨zf,cb,aa,ad,aH⟩
       . simpa using h
       . have:=none _ az zf cb aa;unfold ec at ad;rw [this] at ad;cases ad
      have flat:∀d,d<=ops.size->cg es bk d=cg es bk 0:=by
       intro d
       induction d with
       | zero=>intro _;rfl
       | succ d bd=>
         intro bb;obtain ⟨i,Bj,nT⟩:=la d (by omega);have cv:ops[i]? =some ops[i]:=Array.getElem?_eq_getElem Bj;obtain ⟨acE,bW,bV,_⟩:=(yC i).2 ops[i] cv;rw [nT] at bW bV;have cR:e0 P ops[i].op=false:=none _ az i _ (by simp);rw [(vA cR bV).1,<-bd (by omega)];simp [cg,bW]
      have aqc:=(ia j a6).1;have:e.h=cg es bk s:=by rw [hp,flat ops.size (Nat.le_refl _),<-flat (posOf aE j) (by omega)];simp [cg,b0]
      rw [<-this];exact ⟨_,_,(yC j).1,b1⟩
   have hlen:es.length=ops.size:=by rw [ao,qb,kk]
   have C:Cert P ar ops calls es mE h oE bk (hG P aE 0 ops.toList) order aE ops.size ops.size false:=
    ⟨hlen,Nat.le_refl _,Nat.le_refl _,ia,la,ax,aL,fun i o cv _=>(yC i).2 o cv,
      fun i o cv=>by obtain ⟨cP,b6,z2,z3⟩:=Q8 gm i o cv;exact ⟨cP,b6,z2,fun _ k ok aD _=>by obtain ⟨mk,dT,e3,y3⟩:=z3 k ok aD;exact ⟨mk,dT,e3,fun aN aZ bJ=>.inl (y3 aN aZ bJ)⟩⟩,
      by simpa using FR (P:=P) (aE:=aE) (l:=ops.toList) (i:=0),
      fun j o aa ad=>by simpa using zl (aE:=aE) (i:=0) (j:=j) (l:=ops.toList) (by simpa using aa) ad,
      fun s aM=>by
       rcases uo aM with h | ⟨j,o,aa,ad,aH⟩
       . exact .inl (.inl (by simpa using h))
       . exact .inr ⟨j,o,by simpa using aa,ad,by simpa using aH⟩,
      fun j o aa ad aH _=>tR j o aa ad aH,fun h=>absurd h (Nat.lt_irrefl _),fun h=>absurd h (Nat.lt_irrefl _)⟩
   have aD:RegRel0 E ar mE a:=⟨k.size,fun t au=>by have:=congrFun tP t;simp only [d'] at this;rw [this];exact k.av t (wU au)⟩;have de:∀k,¬(Array.replicate ops.size false).getD k false=true:=by
    intro k;rw [tK,Array.getElem?_replicate]
    split<;>simp
   have ki:Holds ay ay es bk aE (kb ops es bk aE (Array.replicate ops.size false) 0):=
    ⟨rfl,fun _ _=>rfl,fun k aD=>(by obtain ⟨_,_,_,_,a8⟩:=aD;omega),fun k bo aD=>(by obtain ⟨_,_,_,_,a8⟩:=aD;omega)⟩
   obtain ⟨e1,ev,g1,g2,g3,g4,g5,g6⟩:=C.advance ops.size 0 (by omega) (fun k o _ _ _=>de k) ay ki (E:=E) (w:={w with drawn:=w.drawn}) (by rw [ax];exact s.same rfl rfl rfl rfl);have k6:d' oE et=r et:=by rw [<-tP];exact S4
   have fin:∀aw bs w',E.le aw->RegRel0 aw ar oE bs->bs.defers=a.defers->bf ay aw bk w'->gx .normal bs w':=by
    intro aw bs w' b6 z2 ao7 z3;refine J4 aw bs w' b6 ⟨z2.size,by rw [k6,ao7];exact k.defers.mono b6,fun t fx=>?_⟩ z3;by_cases au:t<=top
    . exact z2.av t au
    . have b':=z2.size;rw [sn t (by omega) fx];simp [Rel]
   refine XJ c6 (Q' bH (fun i=>(yC i).1.1) (fun i=>(yC i).1.2) C (gJ:=E) (D:=a.defers) (fun _=>fin)
    (fun _ _ _ _ _ _ _ h=>absurd h (Nat.lt_irrefl _)) (fun h=>absurd h (Nat.lt_irrefl _)) ops.size _ a _ ?_ ?_)
   . exact Nat.le_trans List.countP_le_length (by simp)
   . refine ⟨by simp,aD.size,rfl,fun bo aD=>absurd aD (de bo),fun bo o e aD=>absurd aD (de bo),E,e1,ev,Env.le.refl E,g1,g3,fun bo o aa ad=>⟨fun h=>absurd h (de bo),fun h=>by have:=g4 bo o aa ad (Nat.zero_le _);omega⟩,
      fun bo o _ _ h=>absurd h (de bo),g5,?_,fun t au=>.inr ⟨fun bo o aD=>absurd aD (de bo),aD.av t au⟩⟩
     exact g6.same rfl rfl rfl rfl
theorem acZ {rd:Option Nat} {e:db} {Q:Exit->Act->World->Prop} {a:Act} {w:World} (h:Q (toExit e) a w):(JH e).wpIn (ct rd) 0 P Q a w:=by
 cases e with
 | normal=>exact wpIn_skip h
 | exit id=>exact wpIn_exit h
 | ret=>exact wpIn_ret h
theorem amk (hi:ar<=top) (c6:P.follows .mixedOrders=true) (bH:eF P) {f:Operand} {bj:Array Tmp} {x y:Code} {r:bc} {h:ah} {Q:db->bc->ah->Prop} (aX:Out ar r)
 (H:fZ P (gj P ar (.rangeFunc f bj x y)) r h Q):∃e bu ab,Q e bu ab/\(Out ar bu/\((gj P ar (.rangeFunc f bj x y)).plain=true->bu et=r et))/\C4 P ar (.rangeFunc f bj x y) r h e bu ab:=by
 simp only [gj] at H ⊢;cases gm:(pe ar bj.toList&&(noMark x&&noMark y)) with
 | false=>rw [gm] at H;exact H.elim
 | true=>
   rw [gm] at H;simp only [cond_true,fZ] at H ⊢;simp only [Bool.and_eq_true] at gm;obtain ⟨g,cs,ba,aF,wa,H⟩:=H;obtain ⟨b_,cK⟩:=Es aX;obtain ⟨v,ab,cU,cG,aN,aZ,cO⟩:=H ⟨0,none,aj h.next,ar,b_,bj.toList,x,y⟩ ⟨rfl,cK,rfl,rfl,rfl,gm.1,gm.2.1,gm.2.2,aX⟩ rfl rfl;refine ⟨_,_,_,cO,⟨fun t aa ad=>by simp only [bc.set];rw [if_neg ad];exact aX t aa ad,fun z=>by cases z⟩,fun rd ay E a w aG k s gx J4=>?_⟩;have Ff:rd=none:=aG.resolve_right (by simp [noMark]);subst Ff;have aB:Rel E (.func g cs) (a.eval f):=by
    rw [<-ba];cases f with
    | tmp t=>
      simp only [rx];cases ae:Nat.ble t top with
      | false=>simp [aU.aR,Rel]
      | true=>
        simp only [cond_true,aU.aR];exact k.av t (wU (Nat.le_of_ble_eq_true ae))
    | const v=>exact uv E v
    | func f=>
      simp only [rx];cases ae:Nat.beq f dt with
      | true=>simp [aU.aR,Rel]
      | false=>
        simp only [cond_false,aU.aR,Rel];exact .inl ⟨fun e=>by subst e;simp at ae,_,rfl,by simp [bh]⟩
    | global g=>simp [rx,aU.aR,Rel]
   simp only [Rel] at aB;rcases aB with ⟨_,eL,cp,az⟩ | ⟨Kr,_⟩
   case inr=>exact absurd Kr aF
   refine (wpIn_rangeFunc fun fn _=>?_:(Code.rangeFunc f bj x y).wpIn (ct none) 0 P gx a w);have f0:=s.fresh h.next (Nat.le_refl _)
   obtain ⟨ej,vQ⟩:∃ej,ej=E.put (aj h.next) ⟨w.heap.size,0,0⟩:=⟨_,rfl⟩;obtain ⟨bW,sv⟩:∃bW:World,bW={w with heap:=w.heap.push (.deferred (some []))}:=⟨_,rfl⟩;have By:ej (aj h.next)=some ⟨w.heap.size,0,0⟩:=by rw [vQ];unfold Env.put;rw [if_pos rfl]
   have s1:bf ay ej (h.new .fj) bW:=by rw [vQ,sv];refine s.alloc 0 ⟨⟨w.heap.size,0,0⟩,by unfold Env.put;rw [if_pos rfl],s.frame.size,by simp⟩
   have o7:E.le ej:=by rw [vQ];exact Env.lP f0
   have wx:bW.heap.size=w.heap.size+1:=by rw [sv];simp
   obtain ⟨o,hD⟩:∃o:Loop,o={state:=.ready,pending:=none,fn,tmps:=a.tmps,params:=bj,assign:=x,body:=y,defers:=w.heap.size}:=⟨_,rfl⟩;obtain ⟨bL,sc⟩:∃bL,bL=ej.put (aj (h.next+1)) ⟨bW.heap.size,0,0⟩:=⟨_,rfl⟩;obtain ⟨bV,ub⟩:∃bV:World,bV={bW with heap:=bW.heap.push (.loop o)}:=⟨_,rfl⟩;have f1:ej (aj (h.next+1))=none:=s1.fresh (h.next+1) (Nat.le_refl _);have lO:ej.le bL:=by rw [sc];exact Env.lP f1
   have Bz:bL (aj (h.next+1))=some ⟨bW.heap.size,0,0⟩:=by rw [sc];unfold Env.put;rw [if_pos rfl]
   have df:ve bL ⟨0,none,aj h.next,ar,b_,bj.toList,x,y⟩ o:=by subst hD;refine ⟨rfl,rfl,rfl,rfl,rfl,k.size,fun t au=>?_,_,lO _ _ By,rfl⟩;have:=congrFun cK t;simp only [d'] at this;simp only [this];exact Rel.mono (o7.trans lO) _ _ (k.av t (wU au))
   have s2:bf ay bL ((h.new .fj).new (.df ⟨0,none,aj h.next,ar,b_,bj.toList,x,y⟩)) bV:=by rw [sc,ub];refine s1.alloc 0 ⟨⟨bW.heap.size,0,0⟩,o,by show ej.put (aj (h.next+1)) _ (aj (h.next+1))=_;unfold Env.put;rw [if_pos rfl],by show ay.w.heap.size<=bW.heap.size;rw [wx];have:=s.frame.size;omega,by simp,?_⟩;have:=df;rw [sc] at this;exact this
   obtain ⟨hU,pY⟩:∃hU,hU=bW.heap.size:=⟨_,rfl⟩;have a1:Rel bL (.func dt [.ptr (aj (h.next+1)) 0]) (.func (.yield hU) #[] #[]):=by simp only [Rel];exact .inr ⟨trivial,_,_,rfl,Bz,by rw [pY]⟩
   have pT:bh bL (.func dt [.ptr (aj (h.next+1)) 0]::cs) (.func (.yield hU) #[] #[]::eL.toList):=by simp only [bh];exact ⟨_,_,rfl,a1,bh.mono (o7.trans lO) _ _ az⟩
   have aC:Calls P g (Value.func (Fn.yield hU) #[] #[]::eL.toList).toArray bV (rangePost (ct none) 0 P hU gx {a with defers:=[{target:=.collected w.heap.size,args:=#[]}]++a.defers}):=(cU.calls bH wa ay bL bV _ pT s2).mono fun e w' aA=>by
    obtain ⟨aw,arn,rfl,ao,_,aL⟩:=aA;simp only [rangePost];have jd:=ao _ _ Bz;have ae:=aL.at jd;rw [aN] at ae;obtain ⟨p',cb,eZ,dc,bk,KC⟩:=ae;rw [jd] at eZ;cases eZ;obtain ⟨t1,t2,t3,t4,t5,t6,t7,t8⟩:=KC;simp only at bk;rw [<-pY] at bk;have KM:(cb.state == LoopState.busy)=false:=by
     rw [t1]
     match nW:cG.st with
     | 0=>rfl
     | 1=>exact absurd nW aZ
     | n+2=>rfl
    have lD:=(Array.getElem?_eq_some_iff.1 bk).1
    let hv:World:={w' with heap:=w'.heap.setIfInBounds hU (.loop {cb with state:=.exhausted})}
    have gl:(Instr.endLoop hU).run P w'=.ok cb.pending hv:=by
     have ss:(setObj hU (.loop {cb with state:=.exhausted})).run P w'=.ok () hv:=by simp only [setObj,Sem.run,bk];rfl
     simp only [Instr.endLoop,Sem.run_bind,run_getLoop bk,Result.andThen_ok,KM,Bool.false_eq_true,if_false,ss,Sem.run_pure]
    have zO:bf ay aw (ab.set (aj (h.next+1)) .dead) hv:=by refine aL.gone (p:=⟨bW.heap.size,0,0⟩) (by rw [aN];rfl) jd dc (by simp [hv]) (fun j a6=>?_) rfl rfl rfl;simp only at a6;simp only [hv,Array.getElem?_setIfInBounds];rw [if_neg (fun e=>a6 (by rw [<-e,pY]))]
    have gg:kd aw ar (r.set (some et) (.tuple (.ptr (aj h.next) 0::(r et).list))) {a with defers:=[{target:=.collected w.heap.size,args:=#[]}]++a.defers}:=by
     refine ⟨k.size,?_,fun t au=>?_⟩
     . simp only [bc.set,if_true,lo,nw,List.cons_append,List.nil_append];exact ⟨_,_,rfl,⟨_,ao _ _ (lO _ _ By),rfl⟩,(k.defers.mono (o7.trans (lO.trans ao))).list⟩
     . simp only [bc.set];rw [if_neg au];exact Rel.mono (o7.trans (lO.trans ao)) _ _ (k.av t au)
    refine ⟨cb.pending,hv,gl,?_⟩;rw [t2];have fin:=J4 aw _ hv (o7.trans (lO.trans ao)) gg zO;cases jD:cG.d_ with
    | none=>rw [jD] at fin;exact fin
    | some e=>rw [jD] at fin;exact acZ fin
   obtain ⟨RZ,ae5,wa⟩:=wa;refine ⟨hU,[{target:=.collected w.heap.size,args:=#[]}],bV,{target:=.fn (.func g) eL,args:=#[]++#[.func (.yield hU) #[] #[]]},bV,g,_,bV,?_,?_,fun _ _=>trivial,?_,fun h=>by simp at h,tB.2 aC⟩
   . subst hD ub sv;have he:=run_enterLoop_outer (P:=P) (w:=w) fn a.tmps bj x y;rw [World.alloc,World.alloc] at he;simp only [Array.size_push] at pY ⊢;rw [pY];exact he
   . simp only [resolve,cp,Deferred.ofValue,Sem.run_pure];simp [Act.eval]
   . simp only [invoke];have e:(#[]++#[Value.func (.yield hU) #[] #[]]:Array Value)++eL=(Value.func (.yield hU) #[] #[]::eL.toList).toArray:=by apply Array.ext';simp
     rw [e];exact uN bH ae5 wa _ bV
theorem NB (hi:ar<=top) (c6:P.follows .mixedOrders=true) (bH:eF P):∀(c:Code) (r:bc) (h:ah) (Q:db->bc->ah->Prop),Out ar r->fZ P (gj P ar c) r h Q->
 ∃e bu ab,Q e bu ab/\(Out ar bu/\((gj P ar c).plain=true->bu et=r et))/\C4 P ar c r h e bu ab:=by
 intro c
 induction c with
 | skip=>
   intro r h Q aX H;exact ⟨.normal,r,h,H,⟨aX,fun _=>rfl⟩,fun rd ay E a w aG k s gx cO=>wpIn_skip (cO E a w (Env.le.refl E) k s)⟩
 | label l=>
   intro r h Q aX H;exact ⟨.normal,r,h,H,⟨aX,fun _=>rfl⟩,fun rd ay E a w aG k s gx cO=>wpIn_label (cO E a w (Env.le.refl E) k s)⟩
 | exit id=>
   intro r h Q aX H;exact ⟨.exit id,r,h,H,⟨aX,fun _=>rfl⟩,fun rd ay E a w aG k s gx cO=>wpIn_exit (cO E a w (Env.le.refl E) k s)⟩
 | ret=>
   intro r h Q aX H;exact ⟨.ret,r,h,H,⟨aX,fun _=>rfl⟩,fun rd ay E a w aG k s gx cO=>wpIn_ret (cO E a w (Env.le.refl E) k s)⟩
 | region id ops draw=>
   intro r h Q aX H;cases draw with
   | true=>
     simp only [gj,cond_true] at H;obtain ⟨bu,ab,ao,ax,aL⟩:=acC hi c6 bH (id:=id) aX H;exact ⟨.normal,bu,ab,ao,⟨ax.1,fun _=>ax.2⟩,aL⟩
   | false=>
     simp only [gj,cond_false,fZ] at H;obtain ⟨bu,ab,ao,ax,aL⟩:=XM bH ops.toList 0 (fun j=>by simp) r h _ aX H;refine ⟨.normal,bu,ab,ao,⟨ax.1,fun _=>ax.2⟩,fun rd ay E a w aG k s gx cO=>?_⟩;refine wpIn_region ?_;have:=aL rd ay E a w k s gx cO;rw [List.range_eq_range'];simpa using this
 | seq x y wC wD=>
   intro r h Q aX H;simp only [gj,fZ] at H;obtain ⟨e,bD,aa,ao,ax,aL⟩:=wC r h _ aX H;cases e with
   | normal=>
     obtain ⟨e,b3,ad,b0,b1,cS⟩:=wD bD aa Q ax.1 ao;refine ⟨e,b3,ad,b0,⟨b1.1,fun z=>by simp only [gj,aS.plain,Bool.and_eq_true] at z;exact (b1.2 z.2).trans (ax.2 z.1)⟩,fun rd ay E a w aG k s gx cO=>?_⟩;refine wpIn_seq (aL rd ay E a w (aG.imp (fun h=>h) fun h=>by simp only [noMark,Bool.and_eq_true] at h;exact h.1) k s _ fun aw bs w' b6 z2 z3=>?_).wp;exact (cS rd ay aw bs w' (aG.imp (fun h=>h) fun h=>by simp only [noMark,Bool.and_eq_true] at h;exact h.2) z2 z3 gx fun bL a2 bV dT e3 y3=>cO bL a2 bV (b6.trans dT) e3 y3).wp
   | exit i=>
     refine ⟨.exit i,bD,aa,ao,⟨ax.1,fun z=>by simp only [gj,aS.plain,Bool.and_eq_true] at z;exact ax.2 z.1⟩,fun rd ay E a w aG k s gx cO=>?_⟩;refine wpIn_seq (aL rd ay E a w (aG.imp (fun h=>h) fun h=>by simp only [noMark,Bool.and_eq_true] at h;exact h.1) k s _ fun aw bs w' b6 z2 z3=>?_).wp;exact cO aw bs w' b6 z2 z3
   | ret=>
     refine ⟨.ret,bD,aa,ao,⟨ax.1,fun z=>by simp only [gj,aS.plain,Bool.and_eq_true] at z;exact ax.2 z.1⟩,fun rd ay E a w aG k s gx cO=>?_⟩;refine wpIn_seq (aL rd ay E a w (aG.imp (fun h=>h) fun h=>by simp only [noMark,Bool.and_eq_true] at h;exact h.1) k s _ fun aw bs w' b6 z2 z3=>?_).wp;exact cO aw bs w' b6 z2 z3
 | cond c x y wC wD=>
   intro r h Q aX H;simp only [gj,fZ] at H;cases ba:(rx c).aR r<;>rw [ba] at H<;>simp only at H<;>try (exact H.elim)
   rename_i t;have aC:∀E a,kd E ar r a->a.eval c=.bool t:=by
    intro E a k;cases c with
    | tmp d=>
      simp only [rx] at ba;cases ae:Nat.ble d top with
      | false=>rw [ae] at ba;simp [aU.aR] at ba
      | true=>
        rw [ae] at ba;simp only [cond_true,aU.aR] at ba;have:=k.av d (wU (Nat.le_of_ble_eq_true ae));rw [ba] at this;simp only [Rel] at this;exact this
    | const v=>
      simp only [rx,aU.aR] at ba;have:=uv E v;rw [ba] at this;simp only [Rel] at this;exact this
    | func f=>
      simp only [rx] at ba;cases ae:Nat.beq f dt<;>rw [ae] at ba<;>simp [aU.aR] at ba
    | global g=>simp [rx,aU.aR] at ba
   cases t with
   | true=>
     obtain ⟨e,bD,aa,ao,ax,aL⟩:=wC r h Q aX (H.1 rfl);exact ⟨e,bD,aa,ao,⟨ax.1,fun z=>by simp only [gj,aS.plain,Bool.and_eq_true] at z;exact ax.2 z.1⟩,fun rd ay E a w aG k s gx cO=>wpIn_cond_true (aC E a k) (aL rd ay E a w (aG.imp (fun h=>h) fun h=>by simp only [noMark,Bool.and_eq_true] at h;exact h.1) k s gx cO).wp⟩
   | false=>
     obtain ⟨e,bD,aa,ao,ax,aL⟩:=wD r h Q aX (H.2 rfl);exact ⟨e,bD,aa,ao,⟨ax.1,fun z=>by simp only [gj,aS.plain,Bool.and_eq_true] at z;exact ax.2 z.2⟩,fun rd ay E a w aG k s gx cO=>wpIn_cond_false (aC E a k) (aL rd ay E a w (aG.imp (fun h=>h) fun h=>by simp only [noMark,Bool.and_eq_true] at h;exact h.2) k s gx cO).wp⟩
 | block id x bd=>
   intro r h Q aX H;simp only [gj,fZ] at H;obtain ⟨e,bD,aa,ao,ax,aL⟩:=bd r h _ aX H;refine ⟨e.leave id,bD,aa,ao,ax,fun rd ay E a w aG k s gx cO=>?_⟩;refine wpIn_block (aL rd ay E a w (aG.imp (fun h=>h) fun h=>h) k s _ fun aw bs w' b6 z2 z3=>?_).wp;cases e with
   | normal=>exact cO aw bs w' b6 z2 z3
   | ret=>exact cO aw bs w' b6 z2 z3
   | exit i=>
     have:=cO aw bs w' b6 z2 z3;simp only [toExit,Exit.inBlock];simp only [db.leave] at this;by_cases aq:i=id
     . rw [if_pos aq] at this ⊢;exact this
     . rw [if_neg aq] at this ⊢;exact this
 | loop x bd=>
   intro r h Q aX H;simp only [gj,fZ] at H;obtain ⟨I,μ,sd,afX⟩:=H;have key:∀n r h,μ r h=n->I r h->Out ar r->∃e bu ab,Q e bu ab/\(Out ar bu/\((gj P ar (.loop x)).plain=true->bu et=r et))/\C4 P ar (.loop x) r h e bu ab:=by
    intro n
    induction n using Nat.strongRecOn with
    | _ n agK=>
      intro r h aQ sd aX;obtain ⟨e,bD,aa,ao,ax,aL⟩:=bd r h _ aX (afX r h sd);have body:∀(rd:Option Nat) (ay:Fr) E a w,(rd=none\/noMark x=true)->kd E ar r a->bf ay E h w->∀(b:Frame) (c':List Item) (cs:List Frame),b.roundOf=rd->∃bs w' aw,E.le aw/\kd aw ar bD bs/\bf ay aw aa w'/\ArrivesIn (Machine.fenced P (ct rd)) P (lone (b.atR a (.code x::.inLoop x::c')) cs w) b (.inLoop x::c') cs (toExit e) bs w':=by intro rd ay E a w aG k s b c' cs lG;have:=(aL rd ay E a w aG k s (fun c9 bs w'=>c9=toExit e/\∃aw,E.le aw/\kd aw ar bD bs/\bf ay aw aa w') (fun aw bs w' ao ax aL=>⟨rfl,aw,ao,ax,aL⟩)).wp b (.inLoop x::c') cs lG trivial (MV _);obtain ⟨aZ,a2,bV,⟨rfl,bL,b6,z2,z3⟩,jU⟩:=this;exact ⟨a2,bV,bL,b6,z2,z3,jU⟩
      cases e with
      | normal=>
        obtain ⟨aei,aT⟩:=ao;obtain ⟨aZ,b3,ad,b0,b1,cS⟩:=agK (μ bD aa) (aQ ▸ aT) bD aa rfl aei ax.1;refine ⟨aZ,b3,ad,b0,⟨b1.1,fun z=>(b1.2 z).trans (ax.2 z)⟩,fun rd ay E a w aG k s gx cO b c' cs lG=>?_⟩;obtain ⟨a2,bV,bL,b6,z2,z3,jU⟩:=body rd ay E a w (aG.imp (fun h=>h) fun h=>h) k s b c' cs lG;obtain ⟨bJ,a3,iE,dT,e3⟩:=cS rd ay bL a2 bV aG z2 z3 gx (fun rG a4 hv t1 t2 t3=>cO rG a4 hv (b6.trans t1) t2 t3) b c' cs lG;exact ⟨bJ,a3,iE,dT,.of_steps (StepsIn.trans jU (.one (qR _) stepR_inLoop)) e3⟩
      | exit i=>
        refine ⟨.exit i,bD,aa,ao,ax,fun rd ay E a w aG k s gx cO b c' cs lG=>?_⟩;obtain ⟨a2,bV,bL,b6,z2,z3,jU⟩:=body rd ay E a w (aG.imp (fun h=>h) fun h=>h) k s b c' cs lG;exact ⟨.exit i,a2,bV,cO bL a2 bV b6 z2 z3,.pass (x:=.inLoop x) rfl (fun _ _=>.inl (by simp)) jU⟩
      | ret=>
        refine ⟨.ret,bD,aa,ao,ax,fun rd ay E a w aG k s gx cO b c' cs lG=>?_⟩;obtain ⟨a2,bV,bL,b6,z2,z3,jU⟩:=body rd ay E a w (aG.imp (fun h=>h) fun h=>h) k s b c' cs lG;exact ⟨.ret,a2,bV,cO bL a2 bV b6 z2 z3,.pass (x:=.inLoop x) rfl (fun _ _=>.inl (by simp)) jU⟩
   exact key _ r h rfl sd aX
 | scope x bd=>
   intro r h Q aX H;obtain ⟨e,bD,aa,ao,ax,aL⟩:=bd r h Q aX H;refine ⟨e,bD,aa,ao,ax,fun rd ay E a w aG k s gx cO=>?_⟩;refine Wu (aL rd ay E a w (aG.imp (fun h=>h) fun h=>h) k s _ fun aw bs w' b6 z2 z3=>?_).wp;have:=cO aw bs w' b6 z2 z3;cases e<;>exact this
 | rangeFunc f bj x y _ _=>intro r h Q aX H;exact amk hi c6 bH aX H
 | goto l=>intro r h Q aX H;exact H.elim
 | refuse aoA=>intro r h Q aX H;exact H.elim
inductive vi where
 | t (n:Nat)
 | bS (n:Nat)
 | oG (n size:Nat)
 | bad
def mu (P:Program) (ar:Nat):List ResultVar->List vi
 | []=>[]
 | .tmp t::rs=>(bif Nat.ble t top&&Nat.blt t ar then .t t else .bad)::mu P ar rs
 | .cell a t::rs=>(bif Nat.ble a top&&Nat.blt a ar then (match a' P t with
   | none=>.bad
   | some aP=>bif aP.agg then .oG a aP.size else bif Nat.beq aP.size 1 then .bS a else .bad) else .bad)::mu P ar rs
def kA (r:bc) (h:ah):List vi->Option (List V)
 | []=>some []
 | x::xs=>match (match x with
   | .t n=>some (r n)
   | .bS n=>nb h (r n)
   | .oG n size=>na size h (r n)
   | .bad=>none) with
   | none=>none
   | some v=>match kA r h xs with
     | none=>none
     | some ag=>some (v::ag)
theorem Er {r:bc} {h:ah} {b_:bB} (cK:d' b_=r):∀{l:List ResultVar} {ag:List V},kA r h (mu P ar l)=some ag->(kO P ar l).run b_ h=some ag
 | [],ag,he=>by simpa [kA,mu,kO] using he
 | .tmp t::rs,ag,he=>by
   simp only [mu,kA] at he;unfold kO;cases aC:(Nat.ble t top&&Nat.blt t ar) with
   | false=>rw [aC] at he;simp at he
   | true=>
     rw [aC] at he;simp only [cond_true] at he ⊢;cases aG:kA r h (mu P ar rs) with
     | none=>rw [aG] at he;cases he
     | some xq=>
       rw [aG] at he;rw [Er cK aG];have:=congrFun cK t;simp only [d'] at this;rw [this];exact he
 | .cell a t::rs,ag,he=>by
   simp only [mu,kA] at he;unfold kO;cases aC:(Nat.ble a top&&Nat.blt a ar) with
   | false=>rw [aC] at he;simp at he
   | true=>
     rw [aC] at he;simp only [cond_true] at he ⊢;have SY:=congrFun cK a;simp only [d'] at SY;rw [SY];unfold p6;cases au:a' P t with
     | none=>rw [au] at he;simp at he
     | some aP=>
       rw [au] at he;simp only at he ⊢;cases Se:aP.agg with
       | true=>
         rw [Se] at he;simp only [cond_true] at he ⊢;cases az:na aP.size h (r a) with
         | none=>rw [az] at he;cases he
         | some v=>
           rw [az] at he;simp only at he ⊢;cases aG:kA r h (mu P ar rs) with
           | none=>rw [aG] at he;cases he
           | some xq=>rw [aG] at he;rw [Er cK aG];exact he
       | false=>
         rw [Se] at he;simp only [cond_false] at he ⊢;cases aM:Nat.beq aP.size 1 with
         | false=>rw [aM] at he;simp at he
         | true=>
           rw [aM] at he;simp only [cond_true] at he ⊢;cases az:nb h (r a) with
           | none=>rw [az] at he;cases he
           | some v=>
             rw [az] at he;simp only at he ⊢;cases aG:kA r h (mu P ar rs) with
             | none=>rw [aG] at he;cases he
             | some xq=>rw [aG] at he;rw [Er cK aG];exact he
theorem Ge:∀(l:List V) (t:Nat),bc.bx l t=(l[t]?).getD .bad
 | [],t=>by simp [bc.bx]
 | v::ag,t=>by
   simp only [bc.bx];cases t with
   | zero=>simp
   | succ t=>simp [Ge ag t]
def db.ends:db->Prop
 | .exit _=>False
 | _=>True
def n':List V->ah->Option ah
 | [],h=>some h
 | .ptr b _::ds,h=>(match h.get b with
   | .fj=>n' ds (h.set b .dead)
   | _=>none)
 | _::_,_=>none
theorem T7 {kx:u4}:∀{ds:List V} {h ad:ah},n' ds h=some ad->m_ kx ds none h=.go none ad
 | [],h,ad,e=>by simp only [n',Option.some.injEq] at e;subst e;rfl
 | d::ds,h,ad,e=>by
   cases d<;>simp only [n'] at e<;>try (cases e;done)
   rename_i b o;simp only [m_];cases aF:h.get b<;>rw [aF] at e<;>simp only at e<;>try (cases e;done)
   exact T7 e
theorem QQ (c6:P.follows .mixedOrders=true) (bH:eF P) {f:FuncId} {fn:Func} {c:Code} {args:List V} {h:ah} {K:V->ah->Prop} (aB:P.funcs[f]? =some fn) (ae:fn.body=some c)
 (hi:Nat.ble fn.ntmps top=true) (a1:Nat.beq f dt=false) (lz:Nat.ble args.length fn.ntmps=true) {rc:aS} {eN:List vi} (BA:gj P fn.ntmps c=rc) (wv:mu P fn.ntmps fn.results.toList=eN) {Q:db->bc->ah->Prop} (H:fZ P rc (bc.bx args) h Q)
 (cO:∀e r ab,(rc.plain=true->r et=.bad)->Q e r ab->e.ends/\∃ad,n' (r et).list ab=some ad/\∃ag,kA r ad eN=some ag/\K (oneOf ag) ad):c4 P f args h K:=by
 subst BA wv;rw [Nat.ble_eq] at hi lz;have aX:Out fn.ntmps (bc.bx args):=by intro t au _;rw [Ge,List.getElem?_eq_none (by omega)];rfl
 have Fh:(bc.bx args) et=.bad:=by rw [Ge,List.getElem?_eq_none (by unfold et;unfold top at hi;omega)];rfl
 obtain ⟨e,bu,ab,aA,sn,aeK⟩:=NB hi c6 bH c _ h _ aX H;obtain ⟨gl,ad,afp,ag,agn,dK⟩:=cO e bu ab (fun z=>(sn.2 z).trans Fh) aA;have iv:f≠dt:=fun e=>by subst e;simp at a1
 refine ⟨oneOf ag,ad,⟨iv,.inl ⟨⟨fn,aB,by rw [ae];rfl⟩,fun ay E w xs ai s=>?_⟩⟩,dK⟩;have hlen:=ai.length;have b':xs.toArray.size<=fn.ntmps:=by simp;omega
 refine tB.1 (callsIn_of_wp_marks (F:=ct none) (n:=0) aB ae trivial ?_);have k:kd E fn.ntmps (bc.bx args) {tmps:=xs.toArray++Array.replicate (fn.ntmps-xs.toArray.size) undef,defers:=[]}:=by
  refine ⟨by simp;omega,by rw [Fh];simp [lo],fun t _=>?_⟩;rw [Ge];cases aF:args[t]? with
  | none=>simp [Rel]
  | some v=>
    obtain ⟨y,a1,aG⟩:=ai.get t v aF;simp only [Option.getD_some];have Fm:t<xs.length:=(List.getElem?_eq_some_iff.1 a1).1;rw [Array.getD_eq_getD_getElem?,Array.getElem?_append_left (by simpa using Fm)];simp only [List.getElem?_toArray,a1,Option.getD_some];exact aG
 have lA:C6 P (fun _ _ _ _=>.fail):=fun f args u h ha ab he=>by cases he
 have fin:∀aw bs w',E.le aw->kd aw fn.ntmps bu bs->bf ay aw ab w'->LeavesInM (ct none) 0 P fn bs.tmps (fun e w'=>∃aw x,e=.returned x/\E.le aw/\Rel aw (oneOf ag) x/\bf ay aw ad w') bs.defers .returning w':=by
  intro aw bs w' ao ax aL;obtain ⟨b_,cK⟩:=Es sn.1;have bb:T.get .bad eV b_=bu et:=by have:=congrFun cK et;simp only [d'] at this;exact this
  have aD:fs aw fn.ntmps b_ bs:=⟨⟨ax.size,fun t au=>by have:=congrFun cK t;simp only [d'] at this;rw [this];exact ax.av t (wU au)⟩,by rw [bb];exact ax.defers⟩;refine JI (C:=⟨P,fun _=>none,fun _=>none⟩) (u:=none) bH lA aD rfl aL ?_;rw [bb,T7 afp];simp only [finish];rw [Er cK agn];exact fun bL x bV b0 b1 cS=>⟨bL,x,rfl,ao.trans b0,b1,cS⟩
 refine (aeK none ay E _ w (.inl rfl) k s _ fun aw bs w' ao ax aL=>?_).wp;have:=fin aw bs w' ao ax aL;cases e with
 | normal=>exact this
 | ret=>exact this
 | exit i=>exact gl.elim
theorem Vf:∀(bj:List Nat) (ag:List V) (b_:bB),d' (sS bj ag b_)=bc.uy bj ag (d' b_)
 | p::bj,v::ag,b_=>by rw [sS,bc.uy,Vf bj ag];congr 1;exact Gw (some p) b_ v
 | [],[],_=>rfl
 | [],_::_,_=>rfl
 | _::_,[],_=>rfl
theorem Vg:∀{bj:List Nat} {ag:List V} {r:bc},pe ar bj=true->Out ar r->Out ar (bc.uy bj ag r)
 | p::bj,v::ag,r,af,aX=>by simp only [pe,List.all_cons,Bool.and_eq_true] at af;exact Vg (r:=r.set (some p) v) af.2 (aX.set (d:=some p) (by simp only [eW,Bool.and_eq_true];exact af.1) v)
 | [],[],_,_,aX=>aX
 | [],_::_,_,_,aX=>aX
 | _::_,[],_,_,aX=>aX
theorem Wn {bj:List Nat} {ag:List V} {r:bc} (af:pe ar bj=true) (aX:Out ar r):Out ar (nm bj ag r):=fun t aa ad=>by unfold nm;simp only [bc.set];rw [if_neg ad];exact Vg af aX t aa ad
theorem XQ (hi:ar<=top) (c6:P.follows .mixedOrders=true) (bH:eF P) {l:kQ} {r:bc} {bj:List Nat} {sV iD:aS} {xs:List V} {b:aO} {h:ah} {K:V->ah->Prop} (F:As P l ar r bj sV iD) (aF:h.get b=.df l) (a8:l.st=0) (hlen:xs.length=bj.length)
 (H:fZ P sV (nm bj xs r) h fun e bD aa=>e=.normal/\aa.get b=.df l/\fZ P iD bD (aa.set b (.df (l.go 1 l.d_))) fun e b3 ad=>ad.get b=.df (l.go 1 l.d_)/\(match e with
   | .normal=>K (.bool true) (ad.set b (.df (l.go 0 none)))
   | e=>K (.bool false) (ad.set b (.df (l.go 2 (some e)))))):DA P xs b h K:=by
 obtain ⟨xJ,u7,HE,X9,X',HF,X_,Ya,N8⟩:=F;subst X9 X';obtain ⟨aN,bD,aa,⟨rfl,g1,cy⟩,dk,bS⟩:=NB hi c6 bH l.assign _ h _ (Wn HF N8) H;obtain ⟨aZ,b3,ad,⟨g2,Yd⟩,dH,bX⟩:=NB hi c6 bH l.body _ _ _ dk.1 cy;obtain ⟨v,ab,gl,dK⟩:∃v ab,xb b aZ ad=.val v ab/\K v ab:=by unfold xb;rw [g2];cases aZ<;>exact ⟨_,_,rfl,Yd⟩
 refine ⟨v,ab,fun ay E w II p az s af=>?_,dK⟩;have ae:=s.at af;rw [aF] at ae;obtain ⟨p',o,eZ,dc,bk,aG⟩:=ae;rw [af] at eZ;cases eZ;obtain ⟨t1,t2,t3,t4,t5,t6,t7,t8⟩:=aG;have h6:=az.length;have wo:o.params.size=II.length:=by rw [<-Array.length_toList,t3,HE,<-hlen,h6]
 refine ⟨o.fn,(o.params.zip II.toArray).foldl (fun tmps (t,a)=>tmps.setIfInBounds t a) o.tmps,o.assign,o.body,?_,?_⟩
 . simp only [Instr.yield,Sem.run_bind,run_getLoop bk,Result.andThen_ok];rw [if_neg (by simp [wo])];rfl
 . rw [t4,t5];refine roundIn_of_wpIn (F:=ct none) trivial ?_;have jE:RegRel0 E l.ar l.r ⟨o.tmps,[]⟩:=⟨t6,t7⟩;have aaU:pe l.ar o.params.toList=true:=by rw [t3,HE,xJ];exact HF
   have bK:=VP aaU az jE;have k:kd E ar (nm bj xs r) ⟨(o.params.zip II.toArray).foldl (fun t (p:Nat × Value)=>t.setIfInBounds p.1 p.2) o.tmps,[]⟩:=by
    refine ⟨by rw [<-xJ];exact bK.size,by unfold nm;simp [bc.set,lo],fun t au=>?_⟩;by_cases af_:t<=top
    . have:=bK.av t af_;rw [t3,HE] at this;have e:=congrFun (Vf bj xs l.r) t;rw [u7] at e;unfold nm;simp only [bc.set];rw [if_neg au,<-e];exact this
    . rw [Wn HF N8 t (by omega) au];simp [Rel]
   refine (bS (some p.aW) ay E _ w (.inr X_) k s (Exit.then (fun rY tb=>∃CV,(Instr.beginRound p.aW).run P tb=.ok () CV/\
    l.body.wpIn (ct (some p.aW)) 0 P (roundPost P p.aW fun e w'=>∃aw x,e=.returned x/\E.le aw/\Rel aw v x/\bf ay aw ab w') rY CV) (fun _ _ _=>False)) fun ej bN bW ao ax aL=>?_).wp
   have h7:=ao _ _ af;have jy:=aL.at h7;rw [g1] at jy;obtain ⟨b0,c7,Bv,pS,qY,sq⟩:=jy;rw [h7] at Bv;cases Bv;obtain ⟨dT,e3,y3,y4,z1,y6,NF,ao2⟩:=sq;obtain ⟨b6,z2⟩:=aL.loop (P:=P) (cG:=l.go 1 l.d_) (cb:={c7 with state:=.busy}) g1 h7 pS qY ⟨rfl,e3,y3,y4,z1,y6,NF,ao2⟩;refine ⟨{bW with heap:=bW.heap.setIfInBounds p.aW (.loop {c7 with state:=.busy})},?_,?_⟩
   . have BB:c7.state=.ready:=by rw [dT,a8];rfl
     simp only [Instr.beginRound,Sem.run_bind,run_getLoop qY,Result.andThen_ok,b6,BB,Sem.run_pure]
   . refine (bX (some p.aW) ay ej _ _ (.inr Ya) ax z2 _ fun bL a2 bV bq dx nr=>?_).wp;exact Wm nr (bq _ _ h7) gl fun x w' lX lY=>⟨bL,x,rfl,ao.trans bq,lX,lY⟩
theorem acg (c6:P.follows .mixedOrders=true) (bH:eF P) {f:FuncId} {fn:Func} {c:Code} {args:List V} {h:ah} {K:V->ah->Prop} (aB:P.funcs[f]? =some fn) (ae:fn.body=some c)
 (hi:Nat.ble fn.ntmps top=true) (a1:Nat.beq f dt=false) (lz:Nat.ble args.length fn.ntmps=true) {rc:aS} {eN:List vi} (BA:gj P fn.ntmps c=rc) (wv:mu P fn.ntmps fn.results.toList=eN) (jd:rc.plain=true)
 (H:fZ P rc (bc.bx args) h fun e r ab=>e.ends/\∃ag,kA r ab eN=some ag/\K (oneOf ag) ab):c4 P f args h K:=by
 refine QQ c6 bH aB ae hi a1 lz BA wv H fun e r ab aM ⟨aa,ag,ad,aH⟩=>⟨aa,ab,?_,ag,ad,aH⟩;rw [aM jd];rfl
theorem QR (c6:P.follows .mixedOrders=true) (bH:eF P) {f:FuncId} {fn:Func} {c:Code} {args:List V} {h:ah} {K:V->ah->Prop} (aB:P.funcs[f]? =some fn) (ae:fn.body=some c)
 (hi:Nat.ble fn.ntmps top=true) (a1:Nat.beq f dt=false) (lz:Nat.ble args.length fn.ntmps=true) {rc:aS} {eN:List vi} (BA:gj P fn.ntmps c=rc) (wv:mu P fn.ntmps fn.results.toList=eN)
 (H:fZ P rc (bc.bx args) h fun e r ab=>e.ends/\∃ad,n' (r et).list ab=some ad/\∃ag,kA r ad eN=some ag/\K (oneOf ag) ad):c4 P f args h K:=
 QQ c6 bH aB ae hi a1 lz BA wv H fun e r ab _ q=>q
end
end
section
open Go Go.RowKit
variable [Lay]
theorem sP (i j:Nat):(aj i=aj j)=(i=j):=by apply propext;exact ⟨ed,fun h=>by rw [h]⟩
theorem al9 (ag:List V):∀(i off:Nat) (x:V) (t:T V),i<off->T.put .bad x (aj i) (dY t off ag)=dY (T.put .bad x (aj i) t) off ag:=by
 induction ag with
 | nil=>intro i off x t _;rfl
 | cons v ag bd=>
   intro i off x t h;simp only [dY];rw [bd i (off+1) x _ (by omega),T.put_comm _ _ _ _ _ _ (fun e=>by rw [sP] at e;omega)]
def mx (ag:List V) (off:Nat) (ws:List V):List V:=ag.take off++ws++ag.drop (off+ws.length)
theorem VZ:∀(ag:List V) (base i:Nat) (x:V) (t:T V),i<ag.length->T.put .bad x (aj (base+i)) (dY t base ag)=dY t base (ag.set i x)
 | [],_,i,_,_,h=>by simp at h
 | v::ag,base,i,x,t,h=>by
   cases i with
   | zero=>
     simp only [dY,Nat.add_zero,List.set];rw [al9 ag base (base+1) x _ (by omega),T.VX]
   | succ i=>
     simp only [dY,List.set];have:=VZ ag (base+1) i x (T.put .bad v (aj base) t) (by simpa using h);rw [show base + (i+1)=base+1+i from by omega];exact this
theorem Wx (ag:List V) (off:Nat) (w:V) (ws:List V) (h:off<ag.length):mx (ag.set off w) (off+1) ws=mx ag off (w::ws):=by
 unfold mx;have aa:(ag.set off w).take (off+1)=ag.take off++[w]:=by rw [List.take_succ_eq_append_getElem (by simpa using h)];simp [List.take_set_of_le]
 have ad:(ag.set off w).drop (off+1+ws.length)=ag.drop (off + (w::ws).length):=by rw [List.drop_set_of_lt (by omega)];congr 1;simp;omega
 rw [aa,ad];simp
theorem M6 (ag:List V) (off:Nat) (ws:List V) (h:off+ws.length<=ag.length):(mx ag off ws).length=ag.length:=by unfold mx;simp;omega
theorem Mz:∀(ws ag:List V) (off:Nat),off+ws.length<=ag.length->dY (dY .e 0 ag) off ws=dY .e 0 (mx ag off ws)
 | [],ag,off,h=>by simp [dY,mx]
 | w::ws,ag,off,h=>by simp only [List.length_cons] at h;simp only [dY];have aa:=VZ ag 0 off w .e (by omega);rw [Nat.zero_add] at aa;rw [aa,Mz ws (ag.set off w) (off+1) (by simp;omega),Wx ag off w ws (by omega)]
theorem EH (ag:List V):∀(off i:Nat) (t:T V),T.get .bad (aj (off+i)) (dY t off ag)=if i<ag.length then (ag[i]?).getD .bad else T.get .bad (aj (off+i)) t:=by
 induction ag with
 | nil=>intro off i t;simp [dY]
 | cons v ag bd=>
   intro off i t;simp only [dY];cases i with
   | zero=>
     have:∀(ws:List V) (o:Nat) (s:T V),off<o->T.get .bad (aj off) (dY s o ws)=T.get .bad (aj off) s:=by
      intro ws
      induction ws with
      | nil=>intro o s _;rfl
      | cons w ws agL=>
        intro o s aX;simp only [dY];rw [agL (o+1) _ (by omega),T.h5,if_neg (fun e=>by rw [sP] at e;omega)]
     rw [Nat.add_zero,this ag (off+1) _ (by omega),T.h5];simp
   | succ i=>
     have:=bd (off+1) i (T.put .bad v (aj off) t);rw [show off+1+i=off + (i+1) from by omega] at this;rw [this,T.h5];have cR:¬aj off=aj (off + (i+1)):=fun e=>by rw [sP] at e;omega
     rw [if_neg cR];simp
theorem EI (ag:List V):∀(n i:Nat),i+n<=ag.length->k0 (dY .e 0 ag) i n=(ag.drop i).take n
 | 0,i,h=>by simp [k0]
 | n+1,i,h=>by simp only [k0];have aa:=EH ag 0 i .e;rw [Nat.zero_add] at aa;rw [aa,if_pos (by omega),EI ag n (i+1) (by omega)];have bb:ag.drop i=ag[i]::ag.drop (i+1):=List.drop_eq_getElem_cons (by omega);rw [bb,List.take_succ_cons];simp [List.getElem?_eq_getElem (by omega:i<ag.length)]
def b9.bx (ag:List V) (cX:Nat) (st:Bool):b9:=.cells ag.length (dY .e 0 ag) cX st
def b9.ro (ag:List V):b9:=.view ag.length (dY .e 0 ag)
def Rd (h:ah) (b:aO) (ag:List V):Prop:=h.get b=.ro ag\/∃cX st,h.get b=.bx ag cX st
def Own (h:ah) (b:aO) (ag:List V) (cX:Nat) (st:Bool):Prop:=h.get b=.bx ag cX st
theorem Rd.pn {α:Type} {h:ah} {b:aO} {ag:List V} (H:Rd h b ag) (d:α) (f:Nat->T V->α):(h.get b).pn d f=f ag.length (dY .e 0 ag):=by rcases H with H | ⟨_,_,H⟩<;>rw [H]<;>rfl
theorem Own.lay {h:ah} {b:aO} {ag:List V} {cX:Nat} {st:Bool} (H:Own h b ag cX st) {off:Nat} {ws:List V} (aX:off+ws.length<=ag.length) (aa:fJ ws=true):
 lay h b off ws=some (h.set b (.bx (mx ag off ws) cX st)):=by
 unfold aY.lay;rw [show h.get b=.cells ag.length (dY .e 0 ag) cX st from H];simp only [b9.on];rw [show Nat.ble (off+ws.length) ag.length=true from by rw [Nat.ble_eq];exact aX,aa];simp only [Bool.and_true,cond_true,Option.some.injEq,b9.bx];rw [M6 ag off ws aX,Mz ws ag off aX]
theorem akF {h:ah} {ag:List V} (az:ag.length<=top):gq h ag=some (h.new (.bx ag 0 false)):=by unfold gq;rw [show Nat.ble ag.length top=true from by rw [Nat.ble_eq];exact az];rfl
theorem Cc {h:ah} {ag:List V} {cX:Nat} {st:Bool} (az:ag.length<=top) (he:1<=cX):j6 h ag cX st=some (h.new (.bx ag cX st)):=by unfold j6;rw [show Nat.ble ag.length top=true from by rw [Nat.ble_eq];exact az,show Nat.ble 1 cX=true from by rw [Nat.ble_eq];exact he];rfl
theorem gF (h:ah) (k:b9):(h.new k).next=h.next+1:=rfl
theorem oe (h:ah) (b:aO) (k:b9):(h.set b k).next=h.next:=rfl
section
variable {P:Program} {r:bc} {h:ah}
theorem amP (r:bc) (d:Nat) (v:V) (t:Nat):bc.set r (some d) v t=if t=d then v else r t:=(rfl)
theorem amQ (r:bc) (v:V):bc.set r none v=r:=(rfl)
theorem an3 (r:bc) (u:Nat) (us:List Nat) (t:Nat):bc.trim r (u::us) t=if t=u then r t else bc.trim r us t:=(rfl)
theorem ak5 (v:V) (ag:List V):bc.bx (v::ag) 0=v:=(rfl)
theorem ak6 (v:V) (ag:List V) (t:Nat):bc.bx (v::ag) (t+1)=bc.bx ag t:=by simp [bc.bx]
theorem acX (r:bc) (n:Nat):aU.aR r (.t n)=r n:=(rfl)
theorem acW (r:bc) (v:V):aU.aR r (.c v)=v:=(rfl)
theorem UX {d:Option Nat} {g:G} {rs:List Nat} {K:bc->V->ah->Prop}:bG.wp P ⟨d,g,none,rs⟩ r h K=g.wp P (r.trim rs) h fun v ab=>K (r.set d v) v ab:=(rfl)
theorem UU {d:Option Nat} {g:G} {j:Nat} {want:Bool} {rs:List Nat} {K:bc->V->ah->Prop}:bG.wp P ⟨d,g,some (j,want),rs⟩ r h K=
 gate (r.trim rs j) want (g.wp P (r.trim rs) h fun v ab=>K (r.set d v) v ab) (K (r.set d (.tuple [])) (.tuple []) h):=(rfl)
variable {K:V->ah->Prop}
theorem pP (k:IntKind):oL k k=true:=by cases k<;>rfl
theorem o8 (a b:Int):Int.leB a b=decide (a<=b):=n2 a b
theorem El (a b:Int):Int.gz a b=decide (a=b):=by rw [kY];rfl
variable (k:IntKind) (a b:Int)
theorem ag':(eK.int .add).run P (.int k a) (.int k b)=some (.int k (k.wrap (a+b))):=by simp [eK.run,lK,o5,V.eo,pP]
theorem aim:(eK.int .sub).run P (.int k a) (.int k b)=some (.int k (k.wrap (a-b))):=by simp [eK.run,lK,o5,V.eo,pP]
theorem ah2:(eK.int .mul).run P (.int k a) (.int k b)=some (.int k (k.wrap (a * b))):=by simp [eK.run,lK,o5,V.eo,pP]
theorem ahw:(eK.int .eql).run P (.int k a) (.int k b)=some (.bool (decide (a=b))):=by simp [eK.run,lK,mZ,V.eo,pP,El]
theorem ah5:(eK.int .neq).run P (.int k a) (.int k b)=some (.bool (!decide (a=b))):=by simp [eK.run,lK,mZ,V.eo,pP,El]
theorem ahW:(eK.int .lss).run P (.int k a) (.int k b)=some (.bool (decide (a<b))):=by simp [eK.run,lK,mZ,V.eo,pP,o8];rw [Bool.eq_iff_iff];simp
theorem ahR:(eK.int .leq).run P (.int k a) (.int k b)=some (.bool (decide (a<=b))):=by simp [eK.run,lK,mZ,V.eo,pP,o8]
theorem ahF:(eK.int .gtr).run P (.int k a) (.int k b)=some (.bool (decide (b<a))):=by simp [eK.run,lK,mZ,V.eo,pP,o8];rw [Bool.eq_iff_iff];simp
theorem ahE:(eK.int .geq).run P (.int k a) (.int k b)=some (.bool (decide (b<=a))):=by simp [eK.run,lK,mZ,V.eo,pP,o8]
theorem ahb (x y:Bool):(eK.yi false).run P (.bool x) (.bool y)=some (.bool (x == y)):=by simp [eK.run,jw,A4,qM]
theorem ahf (x y:Bool):(eK.yi true).run P (.bool x) (.bool y)=some (.bool (!(x == y))):=by simp [eK.run,jw,A4,qM]
theorem aoa (x:Bool):rA .not (.bool x)=some (.bool (!x)):=(rfl)
theorem an_:rA .neg (.int k a)=some (.int k (k.wrap (0-a))):=(rfl)
theorem wrap_i64 {n:Int} (aa:-9223372036854775808<=n) (ad:n<=9223372036854775807):IntKind.i64.wrap n=n:=by exact Go.IntWalk.i64_in n ⟨aa,ad⟩
end
section
variable {P:Program} {r:bc} {h:ah} {Q:db->bc->ah->Prop}
theorem abq {ops:List bG}:fZ P (.av ops) r h Q=ta P ops r h (Q .normal):=(rfl)
theorem abr {a b:aS}:fZ P (.seq a b) r h Q=fZ P a r h fun e bu ab=>e.andThen (fZ P b bu ab Q) (Q e bu ab):=(rfl)
theorem anT {A B:Prop}:db.andThen .normal A B=A:=(rfl)
theorem anU {A B:Prop}:db.andThen .ret A B=B:=(rfl)
theorem anS {A B:Prop} {i:Nat}:db.andThen (.exit i) A B=B:=(rfl)
theorem ajM {id:Nat}:db.leave id .normal=.normal:=(rfl)
theorem ajN {id:Nat}:db.leave id .ret=.ret:=(rfl)
theorem ajL {id i:Nat}:db.leave id (.exit i)=if i=id then .normal else .exit i:=(rfl)
end
def xu {α:Type} (o:Option α) (k:α->Prop):Prop:=
 match o with
 | some v=>k v
 | none=>False
@[congr] theorem arb {α:Type} {o cb:Option α} {k:α->Prop} (h:o=cb):xu o k=xu cb k:=by rw [h]
def V.opt (c:Bool) (v:V):V:=bif c then v else .tuple []
theorem aly (v:V):V.opt true v=v:=(rfl)
theorem alv (v:V):V.opt false v=.tuple []:=(rfl)
@[congr] theorem aqT {c gN:Bool} {v c1:V} (h:c=gN) (ba:gN=true->v=c1):V.opt c v=V.opt gN c1:=by
 subst h;cases c with
 | true=>rw [ba rfl]
 | false=>rfl
def V.bif (t:Bool) (a b:V):V:=bif t then a else b
theorem aot (a b:V):V.bif true a b=a:=(rfl)
theorem aos (a b:V):V.bif false a b=b:=(rfl)
theorem aaa (t a b:Bool):V.bif t (.bool a) (.bool b)=.bool (bif t then a else b):=by cases t<;>rfl
theorem aab (t:Bool) (k:IntKind) (a b:Int):V.bif t (.int k a) (.int k b)=.int k (if t=true then a else b):=by cases t<;>rfl
theorem aad (t x:Bool):(bif t then true else x)=(t||x):=by cases t<;>rfl
theorem Z_ (t x:Bool):(bif t then x else false)=(t&&x):=by cases t<;>rfl
@[congr] theorem apy {t s7:Bool} {a bs b bI:V} (h:t=s7) (aV:s7=true->a=bs) (ae:s7=false->b=bI):V.bif t a b=V.bif s7 bs bI:=by
 subst h;cases t with
 | true=>rw [V.bif,V.bif,aV rfl];rfl
 | false=>rw [V.bif,V.bif,ae rfl];rfl
def eT (c:Bool) (A:Prop):Prop:=c=true->A
@[congr] theorem apf {c gN:Bool} {A j_:Prop} (h:c=gN) (aV:gN=true->A=j_):eT c A=eT gN j_:=by subst h;exact propext ⟨fun q e=>(aV e) ▸ q e,fun q e=>(aV e) ▸ q e⟩
theorem Yh (c:Bool):eT c True=True:=propext ⟨fun _=>trivial,fun _ _=>trivial⟩
theorem Yj (A:Prop):eT true A=A:=propext ⟨fun q=>q rfl,fun q _=>q⟩
theorem Yi (A:Prop):eT false A=True:=propext ⟨fun _=>trivial,fun _ e=>by cases e⟩
def took (v:V) (want:Bool):Bool:=
 match v with
 | .bool b=>b == want
 | _=>false
theorem an0 (b w:Bool):took (.bool b) w=(b == w):=(rfl)
theorem an2 (ag:List V) (w:Bool):took (.tuple ag) w=false:=(rfl)
theorem an1 (c:Bool) (v:V) (w:Bool):took (.opt c v) w=(c&&took v w):=by cases c<;>rfl
def fc (v:V):Prop:=
 match v with
 | .bool _=>True
 | .tuple _=>True
 | _=>False
theorem agY (b:Bool):fc (.bool b)=True:=(rfl)
theorem ag0 (ag:List V):fc (.tuple ag)=True:=(rfl)
theorem agZ (c b:Bool):fc (.opt c (.bool b))=True:=by cases c<;>rfl
def G.o6:G->Bool
 | .bz _ | .pick .. | .build .. | .fy _ | .ff .. | .iR _ | .bin .. | .un .. | .fn .. | .Ca .. | .DM .. | .sx .. | .rv .. | .fo .. | .e5 .. | .vL .. | .vM .. | .dD .. | .o4 .. | .lL .. | .j4 .. | .look .. | .ext .. | .wS _ | .dV _ | .tC _ | .rh .. | .looks .. | .peq .. =>true
 | .kf (.int _) _=>true
 | .len .map _=>false
 | .len _ _=>true
 | _=>false
def V.sN {α:Type} (v:V) (d:α) (f:List V->α):α:=
 match v with
 | .agg cs=>f cs
 | _=>d
def V.Cj {α:Type} (v:V) (d:α) (f:List V->α):α:=
 match v with
 | .tuple cs=>f cs
 | _=>d
def Cv (c a b:V):Option V:=
 match c with
 | .bool t=>some (V.bif t a b)
 | _=>none
theorem alR (t:Bool) (a b:V):Cv (.bool t) a b=some (V.bif t a b):=(rfl)
def nq (n:Nat) (x:V) (bC aq m3:Option V):Option V:=
 match x with
 | .bU=>CG bC aq m3
 | .slice b off p5 cap=>xf n b off p5 cap bC aq m3
 | .ez b off p5 idx=>uQ n b off p5 idx bC aq m3
 | .ic b off oh idx=>GR b off oh idx bC aq m3
 | _=>none
def G.lU (P:Program) (g:G) (r:bc) (h:ah):Option V:=
 match g with
 | .bz x=>some (x.aR r)
 | .pick c a b=>Cv (c.aR r) (a.aR r) (b.aR r)
 | .build z bj=>(match jb z (kz r bj) with
   | some cs=>some (.agg cs)
   | none=>none)
 | .fy x=>nb h (x.aR r)
 | .ff n x=>na n h (x.aR r)
 | .iR x=>ur (x.aR r)
 | .bin k x y=>k.run P (x.aR r) (y.aR r)
 | .un op x=>rA op (x.aR r)
 | .kf (.int k) x=>(x.aR r).eo none fun _ n=>some (.int k (k.wrap n))
 | .fn f eL=>some (.func f (aU.fN r eL))
 | .Ca f first=>some (.ob f (aU.fN r first))
 | .DM t z ok x=>AG t z ok (x.aR r)
 | .sx t x=>some (.iface t (x.aR r))
 | .rv x bC aq m3=>mw (x.aR r) (aU.opt r bC) (aU.opt r aq) (aU.opt r m3)
 | .fo n x bC aq m3=>nq n (x.aR r) (aU.opt r bC) (aU.opt r aq) (aU.opt r m3)
 | .e5 off x=>(x.aR r).jK none fun b o=>some (.ptr b (o+off))
 | .vL off x=>(x.aR r).sN none fun cs=>cs[off]?
 | .vM off n x=>(x.aR r).sN none fun cs=>some (.agg ((cs.drop off).take n))
 | .dD n x i=>(wE n).run (x.aR r) (i.aR r)
 | .o4 n s x i=>(sz n s).run (x.aR r) (i.aR r)
 | .lL x i=>sB.run (x.aR r) (i.aR r)
 | .j4 t x i=>(sA P t).run (x.aR r) (i.aR r)
 | .look k z ok x i=>o_ k.eq z ok h (x.aR r) (i.aR r)
 | .ext x i=>(x.aR r).Cj none fun ag=>ag[i]?
 | .len (.arr n) _=>some (.int .i64 n)
 | .len .str x=>(o9 .string).run (x.aR r)
 | .len .slice x=>(o9 (.slice 0)).run (x.aR r)
 | .wS args=>kK (fun b a=>!Int.leB a b) (aU.fN r args)
 | .dV args=>kK (fun b a=>!Int.leB b a) (aU.fN r args)
 | .tC x=>r4 (x.aR r)
 | .rh z ok x i=>je ⟨g' h⟩ z ok h (x.aR r) (i.aR r)
 | .looks k z ok x i=>bif m' P k (i.aR r) then je (structEq P k) z ok h (x.aR r) (i.aR r) else none
 | .peq neg x y=>uF neg h (x.aR r) (y.aR r)
 | _=>none
section
variable {P:Program} {r:bc} {h:ah}
theorem pure_run {g:G} (af:g.o6=true) (call:dJ):g.run P call r h=a7.of h (g.lU P r h):=by
 cases g<;>simp only [G.o6] at af<;>try (cases af;done)
 all_goals simp only [G.run,G.lU]
 case bz x=>rfl
 case pick c a b=>
  generalize c.aR r=q;cases q<;>rfl
 case build z bj=>
  generalize jb z (kz r bj)=q;cases q<;>rfl
 case kf k x=>
  cases k<;>simp only at af<;>try (cases af;done)
  simp only [te.run];generalize x.aR r=q;cases q<;>rfl
 case fn f eL=>rfl
 case Ca f first=>rfl
 case sx t x=>rfl
 case fo n x bC aq m3=>
  unfold nq;generalize x.aR r=q;cases q<;>rfl
 case vL off x=>
  generalize x.aR r=q;cases q<;>rfl
 case vM off n x=>
  generalize x.aR r=q;cases q<;>rfl
 case ext x i=>
  generalize x.aR r=q;cases q<;>rfl
 case len k x=>
  cases k<;>simp only at af<;>first | rfl | (cases af;done)
theorem RP {g:G} (af:g.o6=true) {K:V->ah->Prop}:g.wp P r h K=xu (g.lU P r h) fun v=>K v h:=by
 have e:g.wp P r h K=∃v ab,g.run P k_ r h=.val v ab/\K v ab:=by cases g<;>first | rfl | (simp [G.o6] at af;done)
 rw [e,pure_run af];apply propext;cases ba:g.lU P r h with
 | none=>exact ⟨fun ⟨v,ab,q,_⟩=>(by cases q),fun q=>q.elim⟩
 | some v=>
   constructor
   . rintro ⟨v1,aa,q,k⟩;simp only [a7.of,a7.val.injEq] at q;obtain ⟨rfl,rfl⟩:=q;exact k
   . intro k;exact ⟨v,h,rfl,k⟩
theorem UY {d:Option Nat} {g:G} {rs:List Nat} {K:bc->V->ah->Prop} (af:g.o6=true):bG.wp P ⟨d,g,none,rs⟩ r h K=xu (g.lU P (r.trim rs) h) fun v=>K (r.set d v) v h:=by rw [UX,RP af]
theorem UW {d:Option Nat} {g:G} {j:Nat} {want:Bool} {rs:List Nat} {K:bc->V->ah->Prop} (af:g.o6=true):bG.wp P ⟨d,g,some (j,want),rs⟩ r h K=
 (fc (r.trim rs j)/\eT (took (r.trim rs j) want) ((g.lU P (r.trim rs) h).isSome=true)/\
   K (r.set d (V.opt (took (r.trim rs j) want) ((g.lU P (r.trim rs) h).getD .bad))) (V.opt (took (r.trim rs j) want) ((g.lU P (r.trim rs) h).getD .bad)) h):=by
 rw [UU,RP af];generalize r.trim rs j=q;generalize g.lU P (r.trim rs) h=o;apply propext;cases q<;>simp only [gate,fc,took,false_and,true_and]
 case bool b=>
  cases b<;>cases want<;>cases o<;>simp [xu,eT,V.opt]
 case tuple ag=>simp [eT,V.opt]
@[congr] theorem ari {os:List bG} {r bu:bc} {h ab:ah} {K:bc->ah->Prop} (aN:r=bu) (aZ:h=ab):ta P os r h K=ta P os bu ab K:=by rw [aN,aZ]
@[congr] theorem arf {os:List bG} {r bu:bc} {h ab:ah} {K:List gv->bc->ah->Prop} (aN:r=bu) (aZ:h=ab):lk P os r h K=lk P os bu ab K:=by rw [aN,aZ]
@[congr] theorem apb {o:bG} {r bu:bc} {h ab:ah} {K:bc->V->ah->Prop} (aN:r=bu) (aZ:h=ab):o.wp P r h K=o.wp P bu ab K:=by rw [aN,aZ]
@[congr] theorem apd {g:G} {r bu:bc} {h ab:ah} {K:V->ah->Prop} (aN:r=bu) (aZ:h=ab):g.wp P r h K=g.wp P bu ab K:=by rw [aN,aZ]
@[congr] theorem are {c:aS} {r bu:bc} {h ab:ah} {Q:db->bc->ah->Prop} (aN:r=bu) (aZ:h=ab):fZ P c r h Q=fZ P c bu ab Q:=by rw [aN,aZ]
@[congr] theorem ao' {f:FuncId} {a bs:List V} {h ab:ah} {K:V->ah->Prop} (aN:a=bs) (aZ:h=ab):c4 P f a h K=c4 P f bs ab K:=by rw [aN,aZ]
def kI (k:b9) (off:Nat):Option V:=k.pn none fun n cs=>bif Nat.blt off n then some (T.get .bad (aj off) cs) else none
def n1 (n:Nat) (k:b9) (off:Nat):Option V:=k.pn none fun m cs=>bif Nat.ble (off+n) m then some (.agg (k0 cs off n)) else none
theorem aj8 (b:aO) (off:Nat):nb h (.ptr b off)=kI (h.get b) off:=(rfl)
theorem aj' (n:Nat) (b:aO) (off:Nat):na n h (.ptr b off)=n1 n (h.get b) off:=(rfl)
theorem T0 {ag:List V} {off:Nat}:(bif Nat.blt off ag.length then some (T.get .bad (aj off) (dY .e 0 ag)) else none)=ag[off]? :=by
 have:=EH ag 0 off .e;rw [Nat.zero_add] at this;rw [this];by_cases aX:off<ag.length
 . rw [show Nat.blt off ag.length=true from by rw [Nat.blt_eq];exact aX,if_pos aX];simp [List.getElem?_eq_getElem aX]
 . rw [show Nat.blt off ag.length=false from by rw [<-Bool.not_eq_true,Nat.blt_eq];exact aX];rw [List.getElem?_eq_none (by omega)];rfl
theorem TY (ag:List V) (cX:Nat) (st:Bool) (off:Nat):kI (.bx ag cX st) off=ag[off]? :=T0
theorem TZ (ag:List V) (off:Nat):kI (.ro ag) off=ag[off]? :=T0
theorem T5 {ag:List V} {off n:Nat}:(bif Nat.ble (off+n) ag.length then some (V.agg (k0 (dY .e 0 ag) off n)) else none)=if off+n<=ag.length then some (.agg ((ag.drop off).take n)) else none:=by
 by_cases aX:off+n<=ag.length
 . rw [show Nat.ble (off+n) ag.length=true from by rw [Nat.ble_eq];exact aX,if_pos aX,EI ag n off aX];rfl
 . rw [show Nat.ble (off+n) ag.length=false from by rw [<-Bool.not_eq_true,Nat.ble_eq];exact aX,if_neg aX];rfl
theorem FP (n:Nat) (ag:List V) (cX:Nat) (st:Bool) (off:Nat):n1 n (.bx ag cX st) off=if off+n<=ag.length then some (.agg ((ag.drop off).take n)) else none:=T5
theorem T4 (n:Nat) (ag:List V) (off:Nat):n1 n (.ro ag) off=if off+n<=ag.length then some (.agg ((ag.drop off).take n)) else none:=T5
theorem Rd.fy {b:aO} {ag:List V} (H:Rd h b ag) (off:Nat):kI (h.get b) off=ag[off]? :=by
 rcases H with H | ⟨_,_,H⟩<;>rw [H]
 . exact TZ ag off
 . exact TY ag _ _ off
theorem Rd.ff {b:aO} {ag:List V} (H:Rd h b ag) (n off:Nat):n1 n (h.get b) off=if off+n<=ag.length then some (.agg ((ag.drop off).take n)) else none:=by
 rcases H with H | ⟨_,_,H⟩<;>rw [H]
 . exact T4 n ag off
 . exact FP n ag _ _ off
def over:List V->List V->List V
 | ag,[]=>ag
 | [],_::_=>[]
 | _::ag,w::ws=>w::over ag ws
def pq:List V->Nat->List V->List V
 | ag,0,ws=>over ag ws
 | [],_+1,_=>[]
 | v::ag,n+1,ws=>v::pq ag n ws
theorem Vd:∀(ag ws:List V),ws.length<=ag.length->over ag ws=ws++ag.drop ws.length
 | ag,[],_=>by cases ag<;>rfl
 | [],_::_,h=>by simp at h
 | v::ag,w::ws,h=>by simp only [over,List.cons_append,List.length_cons,List.drop_succ_cons];rw [Vd ag ws (by simpa using h)]
theorem GY:∀(ag:List V) (off:Nat) (ws:List V),off+ws.length<=ag.length->pq ag off ws=mx ag off ws
 | ag,0,ws,h=>by cases ag<;>simp only [pq,mx,List.take_zero,List.nil_append,Nat.zero_add]<;>exact Vd _ ws (by omega)
 | [],n+1,ws,h=>by simp at h
 | v::ag,n+1,ws,h=>by simp only [List.length_cons] at h;simp only [pq,mx];rw [GY ag n ws (by omega)];simp only [mx,List.take_succ_cons,List.cons_append];rw [show n+1+ws.length=n+ws.length+1 from by omega,List.drop_succ_cons]
theorem ang (ag:List V) (off:Nat) (ws:List V) (h:off+ws.length<=ag.length):(pq ag off ws).length=ag.length:=by rw [GY ag off ws h,M6 ag off ws h]
def BY (n:Nat) (h:ah) (b:aO) (off:Nat) (y:V) (k:b9):Option ah:=
 bif Nat.beq y.cells.length n then k.on none fun m cs cX st=>
  bif Nat.ble (off+y.cells.length) m&&fJ y.cells then some (h.set b (.cells m (dY cs off y.cells) cX st)) else none else none
theorem ano (n:Nat) (b:aO) (off:Nat) (y:V):xi n h (.ptr b off) y=BY n h b off y (h.get b):=(rfl)
theorem ajz {n:Nat} {b:aO} {off:Nat} {y:V} {ag:List V} {cX:Nat} {st:Bool} (aa:y.cells.length=n) (ad:fJ y.cells=true) (aH:off+n<=ag.length):
 BY n h b off y (.bx ag cX st)=some (h.set b (.bx (pq ag off y.cells) cX st)):=by
 unfold BY;rw [show Nat.beq y.cells.length n=true from by rw [Nat.beq_eq];exact aa];simp only [cond_true,b9.bx,b9.on];rw [show Nat.ble (off+y.cells.length) ag.length=true from by rw [Nat.ble_eq,aa];exact aH,ad];simp only [Bool.and_true,cond_true,Option.some.injEq];rw [ang ag off _ (by rw [aa];exact aH),GY ag off _ (by rw [aa];exact aH),Mz _ ag off (by rw [aa];exact aH)]
theorem nQ (k:b9):(h.new k).get (aj h.next)=k:=by rw [ah.iL,if_pos rfl]
theorem iL (b:aO) (k:b9):(h.new k).get b=if aj h.next=b then k else h.get b:=ah.iL h b k
theorem dv (b bI:aO) (k:b9):(h.set b k).get bI=if b=bI then k else h.get bI:=ah.dv h b bI k
def Old (h:ah) (b:aO):Prop:=dr b<h.next
theorem Ci {b:aO} {i:Nat} (ae:Old h b) (aq:h.next<=i):(aj i=b)=False:=by
 apply propext;constructor
 . intro e;unfold Old at ae;rw [<-e,cm] at ae;omega
 . exact False.elim
theorem U4 {k:b9}:Old (h.new k) (aj h.next):=by unfold Old;rw [cm];exact Nat.lt_succ_self _
def Et (off:Nat) (x:V):Option V:=x.jK none fun b o=>some (.ptr b (o+off))
theorem ac2 (off:Nat) (b:aO) (o:Nat):Et off (.ptr b o)=some (.ptr b (o+off)):=(rfl)
theorem ak_ {α:Type} (ag:List V) (d:α) (f:List V->α):V.Cj (.tuple ag) d f=f ag:=(rfl)
theorem ak' {α:Type} (ag:List V) (d:α) (f:List V->α):V.sN (.agg ag) d f=f ag:=(rfl)
def mm (x:V):Option V:=(o9 (.slice 0)).run x
theorem ajT (b:aO) (off n c:Nat):mm (.slice b off n c)=some (.int .i64 n):=(rfl)
theorem ajR (b:aO) (off n c:Nat):mm (.ez b off n c)=some (.int .i64 n):=(rfl)
theorem ajU (b:aO) (off n c:Nat):mm (.ic b off n c)=some (.int .i64 0):=(rfl)
theorem ajS:mm .bU=some (.int .i64 0):=(rfl)
def FQ (x:V):Option V:=(o9 .string).run x
theorem ajV (s:List UInt8):FQ (.str s)=some (.int .i64 s.length):=(rfl)
def lH (n:Nat) (x i:V):Option V:=(wE n).run x i
theorem FC (n:Nat) (b:aO) (off len cap:Nat) (k:IntKind) (i:Int):lH n (.slice b off len cap) (.int k i)=if 0<=i/\i<len then some (.ptr b (off+i.toNat * n)) else none:=by simp only [lH,wE,V.eo,uf,o8];by_cases aa:0<=i<;>by_cases ad:(len:Int)<=i<;>simp [aa,ad]<;>omega
theorem Tr (n:Nat) (b:aO) (off len cap:Nat) (k:IntKind) (i:Int):lH n (.ez b off len cap) (.int k i)=if 0<=i/\i<len then some (.ptr b (off+i.toNat * n)) else none:=by simp only [lH,wE,V.eo,uf,o8];by_cases aa:0<=i<;>by_cases ad:(len:Int)<=i<;>simp [aa,ad]<;>omega
def Ed (k:IntKind) (x:V):Option V:=x.eo none fun _ n=>some (.int k (k.wrap n))
theorem ach (k bo:IntKind) (n:Int):Ed k (.int bo n)=some (.int k (k.wrap n)):=(rfl)
end
structure iG where
 all:List bG
 asks:List (Nat × List Nat)
 es:List gv
def jg (D:Option iG) (r:bc) (h:ah) (v:V):Option iG:=
 match D with
 | none=>none
 | some d=>some ⟨d.all,d.asks,d.es++[⟨r,h,v⟩]⟩
inductive hL where
 | os (D:Option iG) (os:List bG)
 | c (b:aS)
 | aW (id:Nat)
section
variable (P:Program)
def vp (D:Option iG) (es:List gv) (aB:ah):Prop:=
 match D with
 | none=>True
 | some d=>pH P d.all (d.es++es) aB d.asks
def bl:List hL->db->bc->ah->(db->bc->ah->Prop)->Prop
 | [],e,r,h,Q=>Q e r h
 | .os D os::aI,e,r,h,Q=>match e with
   | .normal=>lk P os r h fun es bu ab=>vp P D es ab/\bl aI .normal bu ab Q
   | e=>bl aI e r h Q
 | .c b::aI,e,r,h,Q=>match e with
   | .normal=>fZ P b r h fun e bu ab=>bl aI e bu ab Q
   | e=>bl aI e r h Q
 | .aW id::aI,e,r,h,Q=>bl aI (e.leave id) r h Q
def c_ (o:Option V) (d:Option Nat) (D:Option iG) (os:List bG) (aI:List hL) (r:bc) (h:ah) (Q:db->bc->ah->Prop):Prop:=
 xu o fun v=>bl P (.os (jg D r h v) os::aI) .normal (r.set d v) h Q
def hk (o:a7) (d:Option Nat) (D:Option iG) (os:List bG) (aI:List hL) (r:bc) (a8:ah) (Q:db->bc->ah->Prop):Prop:=
 match o with
 | .val v h=>bl P (.os (jg D r a8 v) os::aI) .normal (r.set d v) h Q
 | _=>False
def fa (v:V) (want:Bool) (d:Option Nat) (g:G) (rs:List Nat) (D:Option iG) (os:List bG) (aI:List hL) (r:bc) (h:ah) (Q:db->bc->ah->Prop):Prop:=
 gate v want (bl P (.os D (⟨d,g,none,rs⟩::os)::aI) .normal r h Q) (bl P (.os (jg D r h (.tuple [])) os::aI) .normal (r.set d (.tuple [])) h Q)
def x' (v:V) (a b:aS) (aI:List hL) (r:bc) (h:ah) (Q:db->bc->ah->Prop):Prop:=
 match v with
 | .bool t=>(t=true->bl P (.c a::aI) .normal r h Q)/\(t=false->bl P (.c b::aI) .normal r h Q)
 | _=>False
def pK (f:FuncId) (args:List V) (d:Option Nat) (D:Option iG) (os:List bG) (aI:List hL) (r:bc) (h:ah) (Q:db->bc->ah->Prop):Prop:=
 c4 P f args h fun v ab=>bl P (.os (jg D r h v) os::aI) .normal (r.set d v) ab Q
def CW (xs:List V) (d:Option Nat) (D:Option iG) (os:List bG) (aI:List hL) (r:bc) (h:ah) (Q:db->bc->ah->Prop):Prop:=
 OW P xs h fun v ab=>bl P (.os (jg D r h v) os::aI) .normal (r.set d v) ab Q
def Je (g:FuncId) (xs:List V) (d:Option Nat) (D:Option iG) (os:List bG) (aI:List hL) (r:bc) (h:ah) (Q:db->bc->ah->Prop):Prop:=
 if g=4294967296 then CW P xs d D os aI r h Q else pK P g xs d D os aI r h Q
def vw (f:V) (args:List V) (d:Option Nat) (D:Option iG) (os:List bG) (aI:List hL) (r:bc) (h:ah) (Q:db->bc->ah->Prop):Prop:=
 ∃g xs,f.target args=some (g,xs)/\Je P g xs d D os aI r h Q
def zn (b:aS) (aI:List hL) (r:bc) (h:ah) (Q:db->bc->ah->Prop):Prop:=fZ P (.loop b) r h fun e bu ab=>bl P aI e bu ab Q
end
section
variable {P:Program} {r:bc} {h:ah} {Q:db->bc->ah->Prop} {aI:List hL} {os:List bG} {D:Option iG}
theorem al4 (r:bc) (h:ah) (v:V):jg none r h v=none:=(rfl)
theorem al5 (all:List bG) (asks:List (Nat × List Nat)) (es:List gv) (r:bc) (h:ah) (v:V):jg (some ⟨all,asks,es⟩) r h v=some ⟨all,asks,es++[⟨r,h,v⟩]⟩:=(rfl)
theorem dF {c:aS} (H:bl P [.c c] .normal r h Q):fZ P c r h Q:=H
theorem ah7 {e:db}:bl P [] e r h Q=Q e r h:=(rfl)
theorem ahd {e:db} {id:Nat}:bl P (.aW id::aI) e r h Q=bl P aI (e.leave id) r h Q:=(rfl)
theorem aih {a b:aS}:bl P (.c (.seq a b)::aI) .normal r h Q=bl P (.c a::.c b::aI) .normal r h Q:=by simp only [bl];rw [abr];congr 1;funext e bu ab;cases e<;>rfl
theorem ahe {id:Nat} {b:aS}:bl P (.c (.block id b)::aI) .normal r h Q=bl P (.c b::.aW id::aI) .normal r h Q:=(rfl)
theorem XK:∀(os:List bG) (r:bc) (h:ah) (K:bc->ah->Prop),lk P os r h (fun _ r h=>K r h)=ta P os r h K
 | [],_,_,_=>rfl
 | o::os,r,h,K=>by simp only [lk,ta];congr 1;funext bu v ab;exact XK os bu ab K
theorem aic {ops:List bG}:bl P (.c (.av ops)::aI) .normal r h Q=bl P (.os none ops::aI) .normal r h Q:=by simp only [bl,vp,true_and];rw [XK,abq]
theorem aii:bl P (.c .skip::aI) .normal r h Q=bl P aI .normal r h Q:=(rfl)
theorem aid:bl P (.c .ret::aI) .normal r h Q=bl P aI .ret r h Q:=(rfl)
theorem ahy {i:Nat}:bl P (.c (.exit i)::aI) .normal r h Q=bl P aI (.exit i) r h Q:=(rfl)
theorem aho {b:aS}:bl P (.c b::aI) .ret r h Q=bl P aI .ret r h Q:=(rfl)
theorem ahl {b:aS} {i:Nat}:bl P (.c b::aI) (.exit i) r h Q=bl P aI (.exit i) r h Q:=(rfl)
theorem ahm {c:aU} {a b:aS}:bl P (.c (.cond c a b)::aI) .normal r h Q=x' P (c.aR r) a b aI r h Q:=by simp only [bl,fZ];cases c.aR r<;>rfl
theorem V8 {f:aU} {bj:List Nat} {ar:Nat} {a b:aS} {g:FuncId} {cs:List V} (ba:f.aR r=.func g cs) (aF:g≠dt) (ae:∃fn,P.funcs[g]? =some fn/\fn.body.isSome=true)
 (H:∀l,As P l ar r bj a b->l.st=0->l.d_=none->c4 P g (.func dt [.ptr (aj (h.next+1)) 0]::cs) ((h.new .fj).new (.df l)) fun _ ab=>
   ∃cG,ab.get (aj (h.next+1))=.df cG/\cG.st≠1/\bl P aI (cG.d_.getD .normal) (r.set (some et) (.tuple (.ptr (aj h.next) 0::(r et).list))) (ab.set (aj (h.next+1)) .dead) Q):
 bl P (.c (.range f bj ar a b)::aI) .normal r h Q:=by
 simp only [bl,fZ];exact ⟨g,cs,ba,aF,ae,H⟩
theorem ahV {b:aS}:bl P (.c (.loop b)::aI) .normal r h Q=zn P b aI r h Q:=(rfl)
theorem ahu {ops:List bG} {asks:List (Nat × List Nat)}:bl P (.c (.draw ops asks)::aI) .normal r h Q=bl P (.os (some ⟨ops,asks,[]⟩) ops::aI) .normal r h Q:=(rfl)
theorem ah_:bl P (.os none []::aI) .normal r h Q=bl P aI .normal r h Q:=by simp only [bl,lk,vp,true_and]
theorem aht {all:List bG} {asks:List (Nat × List Nat)} {es:List gv}:bl P (.os (some ⟨all,asks,es⟩) []::aI) .normal r h Q=(pH P all es h asks/\bl P aI .normal r h Q):=by simp only [bl,lk,vp,List.append_nil]
theorem x4 (D:Option iG) (r:bc) (h:ah) (v:V) (es:List gv) (aB:ah):vp P (jg D r h v) es aB=vp P D (⟨r,h,v⟩::es) aB:=by
 cases D with
 | none=>rfl
 | some d=>simp only [jg,vp,List.append_assoc,List.cons_append,List.nil_append]
theorem gT {d:Option Nat} {g:G} {rs:List Nat} (af:g.o6=true):bl P (.os D (⟨d,g,none,rs⟩::os)::aI) .normal r h Q=c_ P (g.lU P (r.trim rs) h) d D os aI r h Q:=by simp only [bl,lk,c_];rw [UY af];simp only [x4]
theorem gS {d:Option Nat} {g:G} {j:Nat} {want:Bool} {rs:List Nat} (af:g.o6=true):bl P (.os D (⟨d,g,some (j,want),rs⟩::os)::aI) .normal r h Q=
 (fc (r.trim rs j)/\eT (took (r.trim rs j) want) ((g.lU P (r.trim rs) h).isSome=true)/\
   c_ P (some (V.opt (took (r.trim rs j) want) ((g.lU P (r.trim rs) h).getD .bad))) d D os aI r h Q):=by
 simp only [bl,lk,c_,xu];rw [UW af];simp only [x4]
def G.TE:G->Bool
 | .call .. | .pL .. =>true
 | _=>false
theorem iw {d:Option Nat} {g:G} {rs:List Nat} (af:g.o6=false) (aC:g.TE=false):bl P (.os D (⟨d,g,none,rs⟩::os)::aI) .normal r h Q=hk P (g.run P k_ (r.trim rs) h) d D os aI r h Q:=by
 simp only [bl,lk];rw [UX];have e:∀K:V->ah->Prop,g.wp P (r.trim rs) h K=∃v ab,g.run P k_ (r.trim rs) h=.val v ab/\K v ab:=by intro K;cases g<;>first | rfl | (simp [G.TE] at aC;done)
 rw [e];unfold hk;simp only [bl,x4];cases g.run P k_ (r.trim rs) h with
 | fail=>exact propext ⟨fun ⟨v,ab,q,_⟩=>(by cases q),fun q=>q.elim⟩
 | cM v1 aa=>exact propext ⟨fun ⟨v,ab,q,_⟩=>(by cases q),fun q=>q.elim⟩
 | val v1 aa=>
   apply propext;constructor
   . rintro ⟨v,ab,q,k⟩;simp only [a7.val.injEq] at q;obtain ⟨rfl,rfl⟩:=q;exact k
   . intro k;exact ⟨_,_,rfl,k⟩
theorem hT {d:Option Nat} {g:G} {j:Nat} {want:Bool} {rs:List Nat} (af:g.o6=false):bl P (.os D (⟨d,g,some (j,want),rs⟩::os)::aI) .normal r h Q=fa P (r.trim rs j) want d g rs D os aI r h Q:=by simp only [fa,bl,lk,x4];rw [UU];rfl
theorem TK {d:Option Nat} {f:FuncId} {args:List aU} {rs:List Nat}:bl P (.os D (⟨d,.call f args,none,rs⟩::os)::aI) .normal r h Q=pK P f (aU.fN (r.trim rs) args) d D os aI r h Q:=by simp only [pK,bl,lk,x4];rfl
theorem ahj {d:Option Nat} {f:aU} {args:List aU} {rs:List Nat}:bl P (.os D (⟨d,.pL f args,none,rs⟩::os)::aI) .normal r h Q=vw P (f.aR (r.trim rs)) (aU.fN (r.trim rs) args) d D os aI r h Q:=by simp only [vw,Je,CW,pK,bl,lk,x4];rfl
theorem Qx {f:V} {g:FuncId} {xs args:List V} {d:Option Nat} (aB:f.target args=some (g,xs)):vw P f args d D os aI r h Q=Je P g xs d D os aI r h Q:=by
 apply propext;constructor
 . rintro ⟨cQ,arl,q,k⟩;rw [aB] at q;simp only [Option.some.injEq,Prod.mk.injEq] at q;obtain ⟨rfl,rfl⟩:=q;exact k
 . intro k;exact ⟨_,_,aB,k⟩
theorem D4 {g:FuncId} {cs args:List V} {d:Option Nat}:vw P (.func g cs) args d D os aI r h Q=if g=4294967296 then CW P (args++cs) d D os aI r h Q else pK P g (args++cs) d D os aI r h Q:=Qx rfl
theorem Jf {g:FuncId} {cs args:List V} {d:Option Nat}:vw P (.ob g cs) args d D os aI r h Q=if g=4294967296 then CW P (cs++args) d D os aI r h Q else pK P g (cs++args) d D os aI r h Q:=Qx rfl
@[congr] theorem aq3 {o cb:Option V} {d:Option Nat} (e:o=cb):c_ P o d D os aI r h Q=c_ P cb d D os aI r h Q:=by rw [e]
@[congr] theorem aq2 {o cb:a7} {d:Option Nat} (e:o=cb):hk P o d D os aI r h Q=hk P cb d D os aI r h Q:=by rw [e]
@[congr] theorem apF {v c1:V} {a b:aS} (e:v=c1):x' P v a b aI r h Q=x' P c1 a b aI r h Q:=by rw [e]
@[congr] theorem apP {v c1:V} {want:Bool} {d:Option Nat} {g:G} {rs:List Nat} (e:v=c1):fa P v want d g rs D os aI r h Q=fa P c1 want d g rs D os aI r h Q:=by rw [e]
@[congr] theorem apD {f kZ:V} {args AF:List V} {d:Option Nat} (aN:f=kZ) (aZ:args=AF):vw P f args d D os aI r h Q=vw P kZ AF d D os aI r h Q:=by rw [aN,aZ]
@[congr] theorem apC {f:FuncId} {args AF:List V} {d:Option Nat} (aZ:args=AF):pK P f args d D os aI r h Q=pK P f AF d D os aI r h Q:=by rw [aZ]
@[congr] theorem arh {e c9:db} {bu:bc} {ab:ah} (cz:e=c9) (aN:r=bu) (aZ:h=ab):bl P aI e r h Q=bl P aI c9 bu ab Q:=by rw [cz,aN,aZ]
@[congr] theorem aqA {b:aS} {bu:bc} {ab:ah} (aN:r=bu) (aZ:h=ab):zn P b aI r h Q=zn P b aI bu ab Q:=by rw [aN,aZ]
theorem anw {v:V} {d:Option Nat}:c_ P (some v) d D os aI r h Q=bl P (.os (jg D r h v) os::aI) .normal (r.set d v) h Q:=(rfl)
theorem am' {v:V} {ab:ah} {d:Option Nat}:hk P (.val v ab) d D os aI r h Q=bl P (.os (jg D r h v) os::aI) .normal (r.set d v) ab Q:=(rfl)
theorem QJ {t:Bool} {a b:aS}:x' P (.bool t) a b aI r h Q=((t=true->bl P (.c a::aI) .normal r h Q)/\(t=false->bl P (.c b::aI) .normal r h Q)):=(rfl)
theorem RS {b:Bool} {d:Option Nat} {g:G} {rs:List Nat}:fa P (.bool b) true d g rs D os aI r h Q=((b=true->bl P (.os D (⟨d,g,none,rs⟩::os)::aI) .normal r h Q)/\(b=false->bl P (.os (jg D r h (.tuple [])) os::aI) .normal (r.set d (.tuple [])) h Q)):=(rfl)
theorem RR {b:Bool} {d:Option Nat} {g:G} {rs:List Nat}:fa P (.bool b) false d g rs D os aI r h Q=((b=false->bl P (.os D (⟨d,g,none,rs⟩::os)::aI) .normal r h Q)/\(b=true->bl P (.os (jg D r h (.tuple [])) os::aI) .normal (r.set d (.tuple [])) h Q)):=(rfl)
theorem adF {ag:List V} {want:Bool} {d:Option Nat} {g:G} {rs:List Nat}:fa P (.tuple ag) want d g rs D os aI r h Q=bl P (.os (jg D r h (.tuple [])) os::aI) .normal (r.set d (.tuple [])) h Q:=(rfl)
theorem adz {c b:Bool} {want:Bool} {d:Option Nat} {f:FuncId} {args:List aU} {rs:List Nat} (v:V)
 (ba:(c&&(b == want))=true->gI P f (aU.fN (r.trim rs) args) h v h)
 (H:bl P (.os (jg D r h (V.opt (c&&(b == want)) v)) os::aI) .normal (r.set d (V.opt (c&&(b == want)) v)) h Q):fa P (V.opt c (.bool b)) want d (.call f args) rs D os aI r h Q:=by
 unfold fa;rw [TK];cases c with
 | false=>exact H
 | true=>
   simp only [V.opt,cond_true,Bool.true_and] at ba H ⊢;cases b<;>cases want<;>simp only [gate]
   . exact ⟨fun _=>⟨v,h,ba rfl,H⟩,fun e=>by cases e⟩
   . exact ⟨fun e=>(by cases e),fun _=>H⟩
   . exact ⟨fun e=>(by cases e),fun _=>H⟩
   . exact ⟨fun _=>⟨v,h,ba rfl,H⟩,fun e=>by cases e⟩
def qc (v:V) (o:Option ah):a7:=gG v o
theorem alz (v:V) (ab:ah):qc v (some ab)=.val v ab:=(rfl)
def Pw (b:Bool) (o:a7):a7:=bif b then o else .fail
theorem aak (o:a7):Pw true o=o:=(rfl)
def DT (n:Nat) (h:ah) (o:Option (List V)):a7:=
 match o with
 | some cs=>qc (.slice (aj h.next) 0 n n) (gq h cs)
 | none=>.fail
theorem aal (n:Nat) (cs:List V):DT n h (some cs)=qc (.slice (aj h.next) 0 n n) (gq h cs):=(rfl)
theorem amC {n size:Nat} {z:List V} {bj:List (Nat × Nat × aU)}:(G.i_ n size z bj).run P k_ r h=DT n h (jb (hI z n) (kz r bj)):=by
 simp only [G.run];cases jb (hI z n) (kz r bj) with
 | none=>rfl
 | some cs=>
   simp only [DT,qc,gG];cases gq h cs<;>rfl
theorem ac7 (cells:List V):jb cells []=some cells:=(rfl)
theorem ac5 {cells:List V} {off size:Nat} {v:V} {rest:List (Nat × Nat × V)} (aa:v.fI=true) (ad:v.cells.length=size) (aH:off+size<=cells.length):
 jb cells ((off,size,v)::rest)=jb (pq cells off v.cells) rest:=by
 simp only [jb];rw [aa,show Nat.beq v.cells.length size=true from by rw [Nat.beq_eq];exact ad,show Nat.ble (off+v.cells.length) cells.length=true from by rw [Nat.ble_eq,ad];exact aH];simp only [Bool.and_true,cond_true];congr 1;have e5:∀(ws cs:List V) (o:Nat),o+ws.length<=cs.length->r_ cs o ws=mx cs o ws:=by
  intro ws
  induction ws with
  | nil=>intro cs o _;simp [r_,mx]
  | cons w ws bd=>
    intro cs o aX;simp only [List.length_cons] at aX;simp only [r_];rw [bd (cs.set o w) (o+1) (by simp;omega),Wx cs o w ws (by omega)]
 rw [e5 _ _ _ (by rw [ad];exact aH),GY _ _ _ (by rw [ad];exact aH)]
def DV (o:Option (List V)):Option V:=
 match o with
 | some cs=>some (.agg cs)
 | none=>none
theorem aao (cs:List V):DV (some cs)=some (.agg cs):=(rfl)
theorem acV:kz r []=[]:=(rfl)
theorem acU {o s:Nat} {x:aU} {bj:List (Nat × Nat × aU)}:kz r ((o,s,x)::bj)=(o,s,x.aR r)::kz r bj:=(rfl)
def rV (P:Program) (o:bG) (e:gv) (H:ah):Prop:=o.wp P e.r H fun _ c1 _=>c1=e.v
theorem ZZ {ops:List bG} {es:List gv} {aB:ah}:pH P ops es aB []=True:=(rfl)
theorem ZY {ops:List bG} {es:List gv} {aB:ah} {p:Nat} {e2:List Nat} {rest:List (Nat × List Nat)}:pH P ops es aB ((p,e2)::rest)=(rW P ops[p]? es[p]? es aB e2/\pH P ops es aB rest):=(rfl)
theorem ZV {o:Option bG} {e:Option gv} {es:List gv} {aB:ah}:rW P o e es aB []=True:=(rfl)
theorem ZS {o:bG} {e:gv} {es:List gv} {aB:ah} {s:Nat} {e2:List Nat}:rW P (some o) (some e) es aB (s::e2)=(rV P o e (yH es aB s)/\rW P (some o) (some e) es aB e2):=(rfl)
def Kh (o:Option gv) (aB:ah):ah:=
 match o with
 | some e=>e.h
 | none=>aB
theorem aeS (es:List gv) (aB:ah) (s:Nat):yH es aB s=Kh es[s]? aB:=(rfl)
theorem aeU (e:gv) (aB:ah):Kh (some e) aB=e.h:=(rfl)
theorem aeT (aB:ah):Kh none aB=aB:=(rfl)
theorem Pd {d:Option Nat} {g:G} {rs:List Nat} {e:gv} {H:ah} (af:g.o6=true):rV P ⟨d,g,none,rs⟩ e H=(g.lU P (e.r.trim rs) H=some e.v):=by
 unfold rV;rw [UY af];apply propext;cases g.lU P (e.r.trim rs) H with
 | none=>exact ⟨fun q=>q.elim,fun q=>(by cases q)⟩
 | some v=>exact ⟨fun q=>by rw [show v=e.v from q],fun q=>by cases q;rfl⟩
theorem Pc {d:Option Nat} {g:G} {j:Nat} {want:Bool} {rs:List Nat} {e:gv} {H:ah} (af:g.o6=true):rV P ⟨d,g,some (j,want),rs⟩ e H=
 (fc (e.r.trim rs j)/\eT (took (e.r.trim rs j) want) ((g.lU P (e.r.trim rs) H).isSome=true)/\V.opt (took (e.r.trim rs j) want) ((g.lU P (e.r.trim rs) H).getD .bad)=e.v):=by
 unfold rV;rw [UW af]
theorem ZT {d:Option Nat} {x:aU} {rs:List Nat} {e:gv} {H:ah}:rV P ⟨d,.fy x,none,rs⟩ e H=(nb H (x.aR (e.r.trim rs))=some e.v):=Pd rfl
theorem ZU {d:Option Nat} {n:Nat} {x:aU} {rs:List Nat} {e:gv} {H:ah}:rV P ⟨d,.ff n x,none,rs⟩ e H=(na n H (x.aR (e.r.trim rs))=some e.v):=Pd rfl
theorem ZW {d:Option Nat} {x:aU} {j:Nat} {want:Bool} {rs:List Nat} {e:gv} {H:ah}:rV P ⟨d,.fy x,some (j,want),rs⟩ e H=
 (fc (e.r.trim rs j)/\eT (took (e.r.trim rs j) want) ((nb H (x.aR (e.r.trim rs))).isSome=true)/\V.opt (took (e.r.trim rs j) want) ((nb H (x.aR (e.r.trim rs))).getD .bad)=e.v):=Pc rfl
theorem ZX {d:Option Nat} {n:Nat} {x:aU} {j:Nat} {want:Bool} {rs:List Nat} {e:gv} {H:ah}:rV P ⟨d,.ff n x,some (j,want),rs⟩ e H=
 (fc (e.r.trim rs j)/\eT (took (e.r.trim rs j) want) ((na n H (x.aR (e.r.trim rs))).isSome=true)/\V.opt (took (e.r.trim rs j) want) ((na n H (x.aR (e.r.trim rs))).getD .bad)=e.v):=Pc rfl
end
def GG (x:V) (h:ah):a7:=
 match x with
 | .str s=>.val (.ptr (aj h.next) 0) (h.new (.iter s 0))
 | _=>.fail
theorem amx (s:List UInt8) (h:ah):GG (.str s) h=.val (.ptr (aj h.next) 0) (h.new (.iter s 0)):=(rfl)
section
variable {P:Program} {r:bc} {h:ah} {Q:db->bc->ah->Prop} {aI:List hL} {os:List bG} {D:Option iG} {d:Option Nat} {rs:List Nat}
theorem ah3 {x:aU}:bl P (.os D (⟨d,(.bz x),none,rs⟩::os)::aI) .normal r h Q=c_ P (some (x.aR (r.trim rs))) d D os aI r h Q:=gT rfl
theorem ai9 {x:aU} {j:Nat} {want:Bool}:bl P (.os D (⟨d,(.bz x),some (j,want),rs⟩::os)::aI) .normal r h Q=(fc (r.trim rs j)/\eT (took (r.trim rs j) want) ((some (x.aR (r.trim rs))).isSome=true)/\c_ P (some (V.opt (took (r.trim rs j) want) ((some (x.aR (r.trim rs))).getD .bad))) d D os aI r h Q):=gS rfl
theorem aib {c a b:aU}:bl P (.os D (⟨d,(.pick c a b),none,rs⟩::os)::aI) .normal r h Q=c_ P (Cv (c.aR (r.trim rs)) (a.aR (r.trim rs)) (b.aR (r.trim rs))) d D os aI r h Q:=gT rfl
theorem aje {c a b:aU} {j:Nat} {want:Bool}:bl P (.os D (⟨d,(.pick c a b),some (j,want),rs⟩::os)::aI) .normal r h Q=(fc (r.trim rs j)/\eT (took (r.trim rs j) want) ((Cv (c.aR (r.trim rs)) (a.aR (r.trim rs)) (b.aR (r.trim rs))).isSome=true)/\c_ P (some (V.opt (took (r.trim rs j) want) ((Cv (c.aR (r.trim rs)) (a.aR (r.trim rs)) (b.aR (r.trim rs))).getD .bad))) d D os aI r h Q):=gS rfl
theorem ahi {z:List V} {bj:List (Nat × Nat × aU)}:bl P (.os D (⟨d,(.build z bj),none,rs⟩::os)::aI) .normal r h Q=c_ P (DV (jb z (kz (r.trim rs) bj))) d D os aI r h Q:=gT rfl
theorem aiA {z:List V} {bj:List (Nat × Nat × aU)} {j:Nat} {want:Bool}:bl P (.os D (⟨d,(.build z bj),some (j,want),rs⟩::os)::aI) .normal r h Q=(fc (r.trim rs j)/\eT (took (r.trim rs j) want) ((DV (jb z (kz (r.trim rs) bj))).isSome=true)/\c_ P (some (V.opt (took (r.trim rs j) want) ((DV (jb z (kz (r.trim rs) bj))).getD .bad))) d D os aI r h Q):=gS rfl
theorem ahL {x:aU}:bl P (.os D (⟨d,(.fy x),none,rs⟩::os)::aI) .normal r h Q=c_ P (nb h (x.aR (r.trim rs))) d D os aI r h Q:=gT rfl
theorem aiV {x:aU} {j:Nat} {want:Bool}:bl P (.os D (⟨d,(.fy x),some (j,want),rs⟩::os)::aI) .normal r h Q=(fc (r.trim rs j)/\eT (took (r.trim rs j) want) ((nb h (x.aR (r.trim rs))).isSome=true)/\c_ P (some (V.opt (took (r.trim rs j) want) ((nb h (x.aR (r.trim rs))).getD .bad))) d D os aI r h Q):=gS rfl
theorem ahM {n:Nat} {x:aU}:bl P (.os D (⟨d,(.ff n x),none,rs⟩::os)::aI) .normal r h Q=c_ P (na n h (x.aR (r.trim rs))) d D os aI r h Q:=gT rfl
theorem aiW {n:Nat} {x:aU} {j:Nat} {want:Bool}:bl P (.os D (⟨d,(.ff n x),some (j,want),rs⟩::os)::aI) .normal r h Q=(fc (r.trim rs j)/\eT (took (r.trim rs j) want) ((na n h (x.aR (r.trim rs))).isSome=true)/\c_ P (some (V.opt (took (r.trim rs j) want) ((na n h (x.aR (r.trim rs))).getD .bad))) d D os aI r h Q):=gS rfl
theorem ah8 {x:aU}:bl P (.os D (⟨d,(.iR x),none,rs⟩::os)::aI) .normal r h Q=c_ P (ur (x.aR (r.trim rs))) d D os aI r h Q:=gT rfl
theorem aja {x:aU} {j:Nat} {want:Bool}:bl P (.os D (⟨d,(.iR x),some (j,want),rs⟩::os)::aI) .normal r h Q=(fc (r.trim rs j)/\eT (took (r.trim rs j) want) ((ur (x.aR (r.trim rs))).isSome=true)/\c_ P (some (V.opt (took (r.trim rs j) want) ((ur (x.aR (r.trim rs))).getD .bad))) d D os aI r h Q):=gS rfl
theorem ahc {k:eK} {x y:aU}:bl P (.os D (⟨d,(.bin k x y),none,rs⟩::os)::aI) .normal r h Q=c_ P (k.run P (x.aR (r.trim rs)) (y.aR (r.trim rs))) d D os aI r h Q:=gT rfl
theorem aix {k:eK} {x y:aU} {j:Nat} {want:Bool}:bl P (.os D (⟨d,(.bin k x y),some (j,want),rs⟩::os)::aI) .normal r h Q=(fc (r.trim rs j)/\eT (took (r.trim rs j) want) ((k.run P (x.aR (r.trim rs)) (y.aR (r.trim rs))).isSome=true)/\c_ P (some (V.opt (took (r.trim rs j) want) ((k.run P (x.aR (r.trim rs)) (y.aR (r.trim rs))).getD .bad))) d D os aI r h Q):=gS rfl
theorem ain {o:UnOp} {x:aU}:bl P (.os D (⟨d,(.un o x),none,rs⟩::os)::aI) .normal r h Q=c_ P (rA o (x.aR (r.trim rs))) d D os aI r h Q:=gT rfl
theorem ajk {o:UnOp} {x:aU} {j:Nat} {want:Bool}:bl P (.os D (⟨d,(.un o x),some (j,want),rs⟩::os)::aI) .normal r h Q=(fc (r.trim rs j)/\eT (took (r.trim rs j) want) ((rA o (x.aR (r.trim rs))).isSome=true)/\c_ P (some (V.opt (took (r.trim rs j) want) ((rA o (x.aR (r.trim rs))).getD .bad))) d D os aI r h Q):=gS rfl
theorem ahD {f:FuncId} {cs:List aU}:bl P (.os D (⟨d,(.fn f cs),none,rs⟩::os)::aI) .normal r h Q=c_ P (some (V.func f (aU.fN (r.trim rs) cs))) d D os aI r h Q:=gT rfl
theorem aiP {f:FuncId} {cs:List aU} {j:Nat} {want:Bool}:bl P (.os D (⟨d,(.fn f cs),some (j,want),rs⟩::os)::aI) .normal r h Q=(fc (r.trim rs j)/\eT (took (r.trim rs j) want) ((some (V.func f (aU.fN (r.trim rs) cs))).isSome=true)/\c_ P (some (V.opt (took (r.trim rs j) want) ((some (V.func f (aU.fN (r.trim rs) cs))).getD .bad))) d D os aI r h Q):=gS rfl
theorem ahI {t:TypeId} {x:aU}:bl P (.os D (⟨d,(.sx t x),none,rs⟩::os)::aI) .normal r h Q=c_ P (some (V.iface t (x.aR (r.trim rs)))) d D os aI r h Q:=gT rfl
theorem aiS {t:TypeId} {x:aU} {j:Nat} {want:Bool}:bl P (.os D (⟨d,(.sx t x),some (j,want),rs⟩::os)::aI) .normal r h Q=(fc (r.trim rs j)/\eT (took (r.trim rs j) want) ((some (V.iface t (x.aR (r.trim rs)))).isSome=true)/\c_ P (some (V.opt (took (r.trim rs j) want) ((some (V.iface t (x.aR (r.trim rs)))).getD .bad))) d D os aI r h Q):=gS rfl
theorem aik {x:aU} {bC aq m3:Option aU}:bl P (.os D (⟨d,(.rv x bC aq m3),none,rs⟩::os)::aI) .normal r h Q=c_ P (mw (x.aR (r.trim rs)) (aU.opt (r.trim rs) bC) (aU.opt (r.trim rs) aq) (aU.opt (r.trim rs) m3)) d D os aI r h Q:=gT rfl
theorem aji {x:aU} {bC aq m3:Option aU} {j:Nat} {want:Bool}:bl P (.os D (⟨d,(.rv x bC aq m3),some (j,want),rs⟩::os)::aI) .normal r h Q=(fc (r.trim rs j)/\eT (took (r.trim rs j) want) ((mw (x.aR (r.trim rs)) (aU.opt (r.trim rs) bC) (aU.opt (r.trim rs) aq) (aU.opt (r.trim rs) m3)).isSome=true)/\c_ P (some (V.opt (took (r.trim rs j) want) ((mw (x.aR (r.trim rs)) (aU.opt (r.trim rs) bC) (aU.opt (r.trim rs) aq) (aU.opt (r.trim rs) m3)).getD .bad))) d D os aI r h Q):=gS rfl
theorem aij {n:Nat} {x:aU} {bC aq m3:Option aU}:bl P (.os D (⟨d,(.fo n x bC aq m3),none,rs⟩::os)::aI) .normal r h Q=c_ P (nq n (x.aR (r.trim rs)) (aU.opt (r.trim rs) bC) (aU.opt (r.trim rs) aq) (aU.opt (r.trim rs) m3)) d D os aI r h Q:=gT rfl
theorem ajh {n:Nat} {x:aU} {bC aq m3:Option aU} {j:Nat} {want:Bool}:bl P (.os D (⟨d,(.fo n x bC aq m3),some (j,want),rs⟩::os)::aI) .normal r h Q=(fc (r.trim rs j)/\eT (took (r.trim rs j) want) ((nq n (x.aR (r.trim rs)) (aU.opt (r.trim rs) bC) (aU.opt (r.trim rs) aq) (aU.opt (r.trim rs) m3)).isSome=true)/\c_ P (some (V.opt (took (r.trim rs j) want) ((nq n (x.aR (r.trim rs)) (aU.opt (r.trim rs) bC) (aU.opt (r.trim rs) aq) (aU.opt (r.trim rs) m3)).getD .bad))) d D os aI r h Q):=gS rfl
theorem ahA {o:Nat} {x:aU}:bl P (.os D (⟨d,(.e5 o x),none,rs⟩::os)::aI) .normal r h Q=c_ P (Et o (x.aR (r.trim rs))) d D os aI r h Q:=gT rfl
theorem aiM {o:Nat} {x:aU} {j:Nat} {want:Bool}:bl P (.os D (⟨d,(.e5 o x),some (j,want),rs⟩::os)::aI) .normal r h Q=(fc (r.trim rs j)/\eT (took (r.trim rs j) want) ((Et o (x.aR (r.trim rs))).isSome=true)/\c_ P (some (V.opt (took (r.trim rs j) want) ((Et o (x.aR (r.trim rs))).getD .bad))) d D os aI r h Q):=gS rfl
theorem ahB {o:Nat} {x:aU}:bl P (.os D (⟨d,(.vL o x),none,rs⟩::os)::aI) .normal r h Q=c_ P ((x.aR (r.trim rs)).sN none fun cs=>cs[o]?) d D os aI r h Q:=gT rfl
theorem aiN {o:Nat} {x:aU} {j:Nat} {want:Bool}:bl P (.os D (⟨d,(.vL o x),some (j,want),rs⟩::os)::aI) .normal r h Q=(fc (r.trim rs j)/\eT (took (r.trim rs j) want) (((x.aR (r.trim rs)).sN none fun cs=>cs[o]?).isSome=true)/\c_ P (some (V.opt (took (r.trim rs j) want) (((x.aR (r.trim rs)).sN none fun cs=>cs[o]?).getD .bad))) d D os aI r h Q):=gS rfl
theorem ahC {o n:Nat} {x:aU}:bl P (.os D (⟨d,(.vM o n x),none,rs⟩::os)::aI) .normal r h Q=c_ P ((x.aR (r.trim rs)).sN none fun cs=>some (V.agg ((cs.drop o).take n))) d D os aI r h Q:=gT rfl
theorem aiO {o n:Nat} {x:aU} {j:Nat} {want:Bool}:bl P (.os D (⟨d,(.vM o n x),some (j,want),rs⟩::os)::aI) .normal r h Q=(fc (r.trim rs j)/\eT (took (r.trim rs j) want) (((x.aR (r.trim rs)).sN none fun cs=>some (V.agg ((cs.drop o).take n))).isSome=true)/\c_ P (some (V.opt (took (r.trim rs j) want) (((x.aR (r.trim rs)).sN none fun cs=>some (V.agg ((cs.drop o).take n))).getD .bad))) d D os aI r h Q):=gS rfl
theorem ahG {n:Nat} {x i:aU}:bl P (.os D (⟨d,(.dD n x i),none,rs⟩::os)::aI) .normal r h Q=c_ P (lH n (x.aR (r.trim rs)) (i.aR (r.trim rs))) d D os aI r h Q:=gT rfl
theorem aiQ {n:Nat} {x i:aU} {j:Nat} {want:Bool}:bl P (.os D (⟨d,(.dD n x i),some (j,want),rs⟩::os)::aI) .normal r h Q=(fc (r.trim rs j)/\eT (took (r.trim rs j) want) ((lH n (x.aR (r.trim rs)) (i.aR (r.trim rs))).isSome=true)/\c_ P (some (V.opt (took (r.trim rs j) want) ((lH n (x.aR (r.trim rs)) (i.aR (r.trim rs))).getD .bad))) d D os aI r h Q):=gS rfl
theorem ahH {m n:Nat} {x i:aU}:bl P (.os D (⟨d,(.o4 m n x i),none,rs⟩::os)::aI) .normal r h Q=c_ P ((sz m n).run (x.aR (r.trim rs)) (i.aR (r.trim rs))) d D os aI r h Q:=gT rfl
theorem aiR {m n:Nat} {x i:aU} {j:Nat} {want:Bool}:bl P (.os D (⟨d,(.o4 m n x i),some (j,want),rs⟩::os)::aI) .normal r h Q=(fc (r.trim rs j)/\eT (took (r.trim rs j) want) (((sz m n).run (x.aR (r.trim rs)) (i.aR (r.trim rs))).isSome=true)/\c_ P (some (V.opt (took (r.trim rs j) want) (((sz m n).run (x.aR (r.trim rs)) (i.aR (r.trim rs))).getD .bad))) d D os aI r h Q):=gS rfl
theorem ahK {x i:aU}:bl P (.os D (⟨d,(.lL x i),none,rs⟩::os)::aI) .normal r h Q=c_ P (sB.run (x.aR (r.trim rs)) (i.aR (r.trim rs))) d D os aI r h Q:=gT rfl
theorem aiU {x i:aU} {j:Nat} {want:Bool}:bl P (.os D (⟨d,(.lL x i),some (j,want),rs⟩::os)::aI) .normal r h Q=(fc (r.trim rs j)/\eT (took (r.trim rs j) want) ((sB.run (x.aR (r.trim rs)) (i.aR (r.trim rs))).isSome=true)/\c_ P (some (V.opt (took (r.trim rs j) want) ((sB.run (x.aR (r.trim rs)) (i.aR (r.trim rs))).getD .bad))) d D os aI r h Q):=gS rfl
theorem ahJ {t:TypeId} {x i:aU}:bl P (.os D (⟨d,(.j4 t x i),none,rs⟩::os)::aI) .normal r h Q=c_ P ((sA P t).run (x.aR (r.trim rs)) (i.aR (r.trim rs))) d D os aI r h Q:=gT rfl
theorem aiT {t:TypeId} {x i:aU} {j:Nat} {want:Bool}:bl P (.os D (⟨d,(.j4 t x i),some (j,want),rs⟩::os)::aI) .normal r h Q=(fc (r.trim rs j)/\eT (took (r.trim rs j) want) (((sA P t).run (x.aR (r.trim rs)) (i.aR (r.trim rs))).isSome=true)/\c_ P (some (V.opt (took (r.trim rs j) want) (((sA P t).run (x.aR (r.trim rs)) (i.aR (r.trim rs))).getD .bad))) d D os aI r h Q):=gS rfl
theorem ahS {k:jR} {z:V} {ok:Bool} {x i:aU}:bl P (.os D (⟨d,(.look k z ok x i),none,rs⟩::os)::aI) .normal r h Q=c_ P (o_ k.eq z ok h (x.aR (r.trim rs)) (i.aR (r.trim rs))) d D os aI r h Q:=gT rfl
theorem ai1 {k:jR} {z:V} {ok:Bool} {x i:aU} {j:Nat} {want:Bool}:bl P (.os D (⟨d,(.look k z ok x i),some (j,want),rs⟩::os)::aI) .normal r h Q=(fc (r.trim rs j)/\eT (took (r.trim rs j) want) ((o_ k.eq z ok h (x.aR (r.trim rs)) (i.aR (r.trim rs))).isSome=true)/\c_ P (some (V.opt (took (r.trim rs j) want) ((o_ k.eq z ok h (x.aR (r.trim rs)) (i.aR (r.trim rs))).getD .bad))) d D os aI r h Q):=gS rfl
theorem ahz {x:aU} {i:Nat}:bl P (.os D (⟨d,(.ext x i),none,rs⟩::os)::aI) .normal r h Q=c_ P ((x.aR (r.trim rs)).Cj none fun ag=>ag[i]?) d D os aI r h Q:=gT rfl
theorem aiL {x:aU} {i:Nat} {j:Nat} {want:Bool}:bl P (.os D (⟨d,(.ext x i),some (j,want),rs⟩::os)::aI) .normal r h Q=(fc (r.trim rs j)/\eT (took (r.trim rs j) want) (((x.aR (r.trim rs)).Cj none fun ag=>ag[i]?).isSome=true)/\c_ P (some (V.opt (took (r.trim rs j) want) (((x.aR (r.trim rs)).Cj none fun ag=>ag[i]?).getD .bad))) d D os aI r h Q):=gS rfl
theorem ah1 {args:List aU}:bl P (.os D (⟨d,(.wS args),none,rs⟩::os)::aI) .normal r h Q=c_ P (kK (fun b a=>!Int.leB a b) (aU.fN (r.trim rs) args)) d D os aI r h Q:=gT rfl
theorem ai8 {args:List aU} {j:Nat} {want:Bool}:bl P (.os D (⟨d,(.wS args),some (j,want),rs⟩::os)::aI) .normal r h Q=(fc (r.trim rs j)/\eT (took (r.trim rs j) want) ((kK (fun b a=>!Int.leB a b) (aU.fN (r.trim rs) args)).isSome=true)/\c_ P (some (V.opt (took (r.trim rs j) want) ((kK (fun b a=>!Int.leB a b) (aU.fN (r.trim rs) args)).getD .bad))) d D os aI r h Q):=gS rfl
theorem ah4 {args:List aU}:bl P (.os D (⟨d,(.dV args),none,rs⟩::os)::aI) .normal r h Q=c_ P (kK (fun b a=>!Int.leB b a) (aU.fN (r.trim rs) args)) d D os aI r h Q:=gT rfl
theorem ai' {args:List aU} {j:Nat} {want:Bool}:bl P (.os D (⟨d,(.dV args),some (j,want),rs⟩::os)::aI) .normal r h Q=(fc (r.trim rs j)/\eT (took (r.trim rs j) want) ((kK (fun b a=>!Int.leB b a) (aU.fN (r.trim rs) args)).isSome=true)/\c_ P (some (V.opt (took (r.trim rs j) want) ((kK (fun b a=>!Int.leB b a) (aU.fN (r.trim rs) args)).getD .bad))) d D os aI r h Q):=gS rfl
theorem ahq {k:IntKind} {x:aU}:bl P (.os D (⟨d,(.kf (.int k) x),none,rs⟩::os)::aI) .normal r h Q=c_ P (Ed k (x.aR (r.trim rs))) d D os aI r h Q:=gT rfl
theorem aiG {k:IntKind} {x:aU} {j:Nat} {want:Bool}:bl P (.os D (⟨d,(.kf (.int k) x),some (j,want),rs⟩::os)::aI) .normal r h Q=(fc (r.trim rs j)/\eT (took (r.trim rs j) want) ((Ed k (x.aR (r.trim rs))).isSome=true)/\c_ P (some (V.opt (took (r.trim rs j) want) ((Ed k (x.aR (r.trim rs))).getD .bad))) d D os aI r h Q):=gS rfl
theorem ahP {x:aU}:bl P (.os D (⟨d,(.len .slice x),none,rs⟩::os)::aI) .normal r h Q=c_ P (mm (x.aR (r.trim rs))) d D os aI r h Q:=gT rfl
theorem aiZ {x:aU} {j:Nat} {want:Bool}:bl P (.os D (⟨d,(.len .slice x),some (j,want),rs⟩::os)::aI) .normal r h Q=(fc (r.trim rs j)/\eT (took (r.trim rs j) want) ((mm (x.aR (r.trim rs))).isSome=true)/\c_ P (some (V.opt (took (r.trim rs j) want) ((mm (x.aR (r.trim rs))).getD .bad))) d D os aI r h Q):=gS rfl
theorem ahQ {x:aU}:bl P (.os D (⟨d,(.len .str x),none,rs⟩::os)::aI) .normal r h Q=c_ P (FQ (x.aR (r.trim rs))) d D os aI r h Q:=gT rfl
theorem ai0 {x:aU} {j:Nat} {want:Bool}:bl P (.os D (⟨d,(.len .str x),some (j,want),rs⟩::os)::aI) .normal r h Q=(fc (r.trim rs j)/\eT (took (r.trim rs j) want) ((FQ (x.aR (r.trim rs))).isSome=true)/\c_ P (some (V.opt (took (r.trim rs j) want) ((FQ (x.aR (r.trim rs))).getD .bad))) d D os aI r h Q):=gS rfl
theorem ahN {n:Nat} {x:aU}:bl P (.os D (⟨d,(.len (.arr n) x),none,rs⟩::os)::aI) .normal r h Q=c_ P (some (V.int .i64 n)) d D os aI r h Q:=gT rfl
theorem aiX {n:Nat} {x:aU} {j:Nat} {want:Bool}:bl P (.os D (⟨d,(.len (.arr n) x),some (j,want),rs⟩::os)::aI) .normal r h Q=(fc (r.trim rs j)/\eT (took (r.trim rs j) want) ((some (V.int .i64 n)).isSome=true)/\c_ P (some (V.opt (took (r.trim rs j) want) ((some (V.int .i64 n)).getD .bad))) d D os aI r h Q):=gS rfl
theorem ah6 {z:List V}:bl P (.os D (⟨d,(.new z),none,rs⟩::os)::aI) .normal r h Q=hk P (qc (.ptr (aj h.next) 0) (gq h z)) d D os aI r h Q:=iw rfl rfl
theorem ai_ {z:List V} {j:Nat} {want:Bool}:bl P (.os D (⟨d,(.new z),some (j,want),rs⟩::os)::aI) .normal r h Q=fa P (r.trim rs j) want d (.new z) rs D os aI r h Q:=hT rfl
theorem ahg {x:aU}:bl P (.os D (⟨d,(.box x),none,rs⟩::os)::aI) .normal r h Q=hk P (Pw (x.aR (r.trim rs)).fI (qc (.ptr (aj h.next) 0) (gq h (x.aR (r.trim rs)).cells))) d D os aI r h Q:=iw rfl rfl
theorem aiy {x:aU} {j:Nat} {want:Bool}:bl P (.os D (⟨d,(.box x),some (j,want),rs⟩::os)::aI) .normal r h Q=fa P (r.trim rs j) want d (.box x) rs D os aI r h Q:=hT rfl
theorem ahh {n m:Nat} {z:List V} {bj:List (Nat × Nat × aU)}:bl P (.os D (⟨d,(.i_ n m z bj),none,rs⟩::os)::aI) .normal r h Q=hk P (DT n h (jb (hI z n) (kz (r.trim rs) bj))) d D os aI r h Q:=by rw [iw rfl rfl,amC]
theorem aiz {n m:Nat} {z:List V} {bj:List (Nat × Nat × aU)} {j:Nat} {want:Bool}:bl P (.os D (⟨d,(.i_ n m z bj),some (j,want),rs⟩::os)::aI) .normal r h Q=fa P (r.trim rs j) want d (.i_ n m z bj) rs D os aI r h Q:=hT rfl
theorem ail {n:Nat} {x y:aU}:bl P (.os D (⟨d,(.st n x y),none,rs⟩::os)::aI) .normal r h Q=hk P (qc .bad (xi n h (x.aR (r.trim rs)) (y.aR (r.trim rs)))) d D os aI r h Q:=iw rfl rfl
theorem ajj {n:Nat} {x y:aU} {j:Nat} {want:Bool}:bl P (.os D (⟨d,(.st n x y),some (j,want),rs⟩::os)::aI) .normal r h Q=fa P (r.trim rs j) want d (.st n x y) rs D os aI r h Q:=hT rfl
theorem ah0 {n:Nat} {z:List V} {l c:aU}:bl P (.os D (⟨d,(.B' n z l c),none,rs⟩::os)::aI) .normal r h Q=hk P (zp n z (l.aR (r.trim rs)) (c.aR (r.trim rs)) h) d D os aI r h Q:=iw rfl rfl
theorem ai7 {n:Nat} {z:List V} {l c:aU} {j:Nat} {want:Bool}:bl P (.os D (⟨d,(.B' n z l c),some (j,want),rs⟩::os)::aI) .normal r h Q=fa P (r.trim rs j) want d (.B' n z l c) rs D os aI r h Q:=hT rfl
theorem aio {k:jR} {m i x:aU}:bl P (.os D (⟨d,(.eE k m i x),none,rs⟩::os)::aI) .normal r h Q=hk P (qc .bad (kt k.eq h (m.aR (r.trim rs)) (i.aR (r.trim rs)) (x.aR (r.trim rs)))) d D os aI r h Q:=iw rfl rfl
theorem ajl {k:jR} {m i x:aU} {j:Nat} {want:Bool}:bl P (.os D (⟨d,(.eE k m i x),some (j,want),rs⟩::os)::aI) .normal r h Q=fa P (r.trim rs j) want d (.eE k m i x) rs D os aI r h Q:=hT rfl
theorem ahZ {x:Option aU}:bl P (.os D (⟨d,(.rj x),none,rs⟩::os)::aI) .normal r h Q=hk P (p9 (aU.opt (r.trim rs) x) h) d D os aI r h Q:=iw rfl rfl
theorem ai6 {x:Option aU} {j:Nat} {want:Bool}:bl P (.os D (⟨d,(.rj x),some (j,want),rs⟩::os)::aI) .normal r h Q=fa P (r.trim rs j) want d (.rj x) rs D os aI r h Q:=hT rfl
theorem aif {x:aU}:bl P (.os D (⟨d,(.zL x),none,rs⟩::os)::aI) .normal r h Q=hk P (GG (x.aR (r.trim rs)) h) d D os aI r h Q:=(iw rfl rfl).trans (by first | rfl | (unfold GG;simp only [G.run];cases x.aR (r.trim rs)<;>rfl) | (unfold GG;cases x.aR (r.trim rs)<;>rfl))
theorem ajg {x:aU} {j:Nat} {want:Bool}:bl P (.os D (⟨d,(.zL x),some (j,want),rs⟩::os)::aI) .normal r h Q=fa P (r.trim rs j) want d (.zL x) rs D os aI r h Q:=hT rfl
theorem ah9 {x:aU}:bl P (.os D (⟨d,(.zv x),none,rs⟩::os)::aI) .normal r h Q=hk P (wW (x.aR (r.trim rs)) h) d D os aI r h Q:=iw rfl rfl
theorem ajb {x:aU} {j:Nat} {want:Bool}:bl P (.os D (⟨d,(.zv x),some (j,want),rs⟩::os)::aI) .normal r h Q=fa P (r.trim rs j) want d (.zv x) rs D os aI r h Q:=hT rfl
theorem ag_ {n:Nat} {s x:aU}:bl P (.os D (⟨d,(.app n s x),none,rs⟩::os)::aI) .normal r h Q=hk P (lr n (s.aR (r.trim rs)) (x.aR (r.trim rs)) h) d D os aI r h Q:=iw rfl rfl
theorem aiv {n:Nat} {s x:aU} {j:Nat} {want:Bool}:bl P (.os D (⟨d,(.app n s x),some (j,want),rs⟩::os)::aI) .normal r h Q=fa P (r.trim rs j) want d (.app n s x) rs D os aI r h Q:=hT rfl
theorem ahn {n:Nat} {h4 s:aU}:bl P (.os D (⟨d,(.copy n h4 s),none,rs⟩::os)::aI) .normal r h Q=hk P (copyV n (h4.aR (r.trim rs)) (s.aR (r.trim rs)) h) d D os aI r h Q:=iw rfl rfl
theorem aiE {n:Nat} {h4 s:aU} {j:Nat} {want:Bool}:bl P (.os D (⟨d,(.copy n h4 s),some (j,want),rs⟩::os)::aI) .normal r h Q=fa P (r.trim rs j) want d (.copy n h4 s) rs D os aI r h Q:=hT rfl
theorem ahO {x:aU}:bl P (.os D (⟨d,(.len .map x),none,rs⟩::os)::aI) .normal r h Q=hk P (B1 [x.aR (r.trim rs)] h) d D os aI r h Q:=iw rfl rfl
theorem aiY {x:aU} {j:Nat} {want:Bool}:bl P (.os D (⟨d,(.len .map x),some (j,want),rs⟩::os)::aI) .normal r h Q=fa P (r.trim rs j) want d (.len .map x) rs D os aI r h Q:=hT rfl
theorem ahp {x:aU}:bl P (.os D (⟨d,(.kf .bytes x),none,rs⟩::os)::aI) .normal r h Q=hk P (AW.run (x.aR (r.trim rs)) h) d D os aI r h Q:=iw rfl rfl
theorem aiF {x:aU} {j:Nat} {want:Bool}:bl P (.os D (⟨d,(.kf .bytes x),some (j,want),rs⟩::os)::aI) .normal r h Q=fa P (r.trim rs j) want d (.kf .bytes x) rs D os aI r h Q:=hT rfl
theorem ahs {x:aU}:bl P (.os D (⟨d,(.kf .str x),none,rs⟩::os)::aI) .normal r h Q=hk P (tD.run (x.aR (r.trim rs)) h) d D os aI r h Q:=iw rfl rfl
theorem aiI {x:aU} {j:Nat} {want:Bool}:bl P (.os D (⟨d,(.kf .str x),some (j,want),rs⟩::os)::aI) .normal r h Q=fa P (r.trim rs j) want d (.kf .str x) rs D os aI r h Q:=hT rfl
theorem ahr {s h4:TypeId} {x:aU}:bl P (.os D (⟨d,(.kf (.other s h4) x),none,rs⟩::os)::aI) .normal r h Q=hk P ((qJ P s h4).run (x.aR (r.trim rs)) h) d D os aI r h Q:=iw rfl rfl
theorem aiH {s h4:TypeId} {x:aU} {j:Nat} {want:Bool}:bl P (.os D (⟨d,(.kf (.other s h4) x),some (j,want),rs⟩::os)::aI) .normal r h Q=fa P (r.trim rs j) want d (.kf (.other s h4) x) rs D os aI r h Q:=hT rfl
theorem aiB {f:FuncId} {args:List aU} {j:Nat} {want:Bool}:bl P (.os D (⟨d,(.call f args),some (j,want),rs⟩::os)::aI) .normal r h Q=fa P (r.trim rs j) want d (.call f args) rs D os aI r h Q:=hT rfl
theorem aiC {f:aU} {args:List aU} {j:Nat} {want:Bool}:bl P (.os D (⟨d,(.pL f args),some (j,want),rs⟩::os)::aI) .normal r h Q=fa P (r.trim rs j) want d (.pL f args) rs D os aI r h Q:=hT rfl
theorem ahk {x:aU}:bl P (.os D (⟨d,(.tC x),none,rs⟩::os)::aI) .normal r h Q=c_ P (r4 (x.aR (r.trim rs))) d D os aI r h Q:=gT rfl
theorem aiD {x:aU} {j:Nat} {want:Bool}:bl P (.os D (⟨d,(.tC x),some (j,want),rs⟩::os)::aI) .normal r h Q=(fc (r.trim rs j)/\eT (took (r.trim rs j) want) ((r4 (x.aR (r.trim rs))).isSome=true)/\c_ P (some (V.opt (took (r.trim rs j) want) ((r4 (x.aR (r.trim rs))).getD .bad))) d D os aI r h Q):=gS rfl
theorem ahT {z:V} {ok:Bool} {x i:aU}:bl P (.os D (⟨d,(.rh z ok x i),none,rs⟩::os)::aI) .normal r h Q=c_ P (je ⟨g' h⟩ z ok h (x.aR (r.trim rs)) (i.aR (r.trim rs))) d D os aI r h Q:=gT rfl
theorem ai2 {z:V} {ok:Bool} {x i:aU} {j:Nat} {want:Bool}:bl P (.os D (⟨d,(.rh z ok x i),some (j,want),rs⟩::os)::aI) .normal r h Q=(fc (r.trim rs j)/\eT (took (r.trim rs j) want) ((je ⟨g' h⟩ z ok h (x.aR (r.trim rs)) (i.aR (r.trim rs))).isSome=true)/\c_ P (some (V.opt (took (r.trim rs j) want) ((je ⟨g' h⟩ z ok h (x.aR (r.trim rs)) (i.aR (r.trim rs))).getD .bad))) d D os aI r h Q):=gS rfl
theorem ahU {k:TypeId} {z:V} {ok:Bool} {x i:aU}:bl P (.os D (⟨d,(.looks k z ok x i),none,rs⟩::os)::aI) .normal r h Q=c_ P (bif m' P k (i.aR (r.trim rs)) then je (structEq P k) z ok h (x.aR (r.trim rs)) (i.aR (r.trim rs)) else none) d D os aI r h Q:=gT rfl
theorem ai3 {k:TypeId} {z:V} {ok:Bool} {x i:aU} {j:Nat} {want:Bool}:bl P (.os D (⟨d,(.looks k z ok x i),some (j,want),rs⟩::os)::aI) .normal r h Q=(fc (r.trim rs j)/\eT (took (r.trim rs j) want) ((bif m' P k (i.aR (r.trim rs)) then je (structEq P k) z ok h (x.aR (r.trim rs)) (i.aR (r.trim rs)) else none).isSome=true)/\c_ P (some (V.opt (took (r.trim rs j) want) ((bif m' P k (i.aR (r.trim rs)) then je (structEq P k) z ok h (x.aR (r.trim rs)) (i.aR (r.trim rs)) else none).getD .bad))) d D os aI r h Q):=gS rfl
theorem aia {neg:Bool} {x y:aU}:bl P (.os D (⟨d,(.peq neg x y),none,rs⟩::os)::aI) .normal r h Q=c_ P (uF neg h (x.aR (r.trim rs)) (y.aR (r.trim rs))) d D os aI r h Q:=gT rfl
theorem ajd {neg:Bool} {x y:aU} {j:Nat} {want:Bool}:bl P (.os D (⟨d,(.peq neg x y),some (j,want),rs⟩::os)::aI) .normal r h Q=(fc (r.trim rs j)/\eT (took (r.trim rs j) want) ((uF neg h (x.aR (r.trim rs)) (y.aR (r.trim rs))).isSome=true)/\c_ P (some (V.opt (took (r.trim rs j) want) ((uF neg h (x.aR (r.trim rs)) (y.aR (r.trim rs))).getD .bad))) d D os aI r h Q):=gS rfl
theorem aha {n:Nat} {z:List V} {s x:aU}:bl P (.os D (⟨d,(.x3 n z s x),none,rs⟩::os)::aI) .normal r h Q=hk P (x2 n z (s.aR (r.trim rs)) (x.aR (r.trim rs)) h) d D os aI r h Q:=iw rfl rfl
theorem aiw {n:Nat} {z:List V} {s x:aU} {j:Nat} {want:Bool}:bl P (.os D (⟨d,(.x3 n z s x),some (j,want),rs⟩::os)::aI) .normal r h Q=fa P (r.trim rs j) want d (.x3 n z s x) rs D os aI r h Q:=hT rfl
theorem aip {m i x:aU}:bl P (.os D (⟨d,(.xn m i x),none,rs⟩::os)::aI) .normal r h Q=hk P (qc .bad (kt ⟨g' h⟩ h (m.aR (r.trim rs)) (i.aR (r.trim rs)) (x.aR (r.trim rs)))) d D os aI r h Q:=iw rfl rfl
theorem ajm {m i x:aU} {j:Nat} {want:Bool}:bl P (.os D (⟨d,(.xn m i x),some (j,want),rs⟩::os)::aI) .normal r h Q=fa P (r.trim rs j) want d (.xn m i x) rs D os aI r h Q:=hT rfl
theorem aiq {k:TypeId} {m i x:aU}:bl P (.os D (⟨d,(.CP k m i x),none,rs⟩::os)::aI) .normal r h Q=hk P (qc .bad (bif m' P k (i.aR (r.trim rs)) then kt (structEq P k) h (m.aR (r.trim rs)) (i.aR (r.trim rs)) (x.aR (r.trim rs)) else none)) d D os aI r h Q:=iw rfl rfl
theorem ajn {k:TypeId} {m i x:aU} {j:Nat} {want:Bool}:bl P (.os D (⟨d,(.CP k m i x),some (j,want),rs⟩::os)::aI) .normal r h Q=fa P (r.trim rs j) want d (.CP k m i x) rs D os aI r h Q:=hT rfl
theorem ahX {z:V} {m i:aU}:bl P (.os D (⟨d,(.wR z m i),none,rs⟩::os)::aI) .normal r h Q=hk P (ye z (m.aR (r.trim rs)) (i.aR (r.trim rs)) h) d D os aI r h Q:=iw rfl rfl
theorem ai4 {z:V} {m i:aU} {j:Nat} {want:Bool}:bl P (.os D (⟨d,(.wR z m i),some (j,want),rs⟩::os)::aI) .normal r h Q=fa P (r.trim rs j) want d (.wR z m i) rs D os aI r h Q:=hT rfl
theorem ahY {k:TypeId} {z:V} {m i:aU}:bl P (.os D (⟨d,(.B9 k z m i),none,rs⟩::os)::aI) .normal r h Q=hk P (Ek P k z (m.aR (r.trim rs)) (i.aR (r.trim rs)) h) d D os aI r h Q:=iw rfl rfl
theorem ai5 {k:TypeId} {z:V} {m i:aU} {j:Nat} {want:Bool}:bl P (.os D (⟨d,(.B9 k z m i),some (j,want),rs⟩::os)::aI) .normal r h Q=fa P (r.trim rs j) want d (.B9 k z m i) rs D os aI r h Q:=hT rfl
theorem ahx {m s x:aU}:bl P (.os D (⟨d,(.vK m s x),none,rs⟩::os)::aI) .normal r h Q=hk P (qc .bad (tG h (m.aR (r.trim rs)) (s.aR (r.trim rs)) (x.aR (r.trim rs)))) d D os aI r h Q:=iw rfl rfl
theorem aiK {m s x:aU} {j:Nat} {want:Bool}:bl P (.os D (⟨d,(.vK m s x),some (j,want),rs⟩::os)::aI) .normal r h Q=fa P (r.trim rs j) want d (.vK m s x) rs D os aI r h Q:=hT rfl
theorem aie {x:aU}:bl P (.os D (⟨d,(.CC x),none,rs⟩::os)::aI) .normal r h Q=hk P (rangeMap (x.aR (r.trim rs)) h) d D os aI r h Q:=iw rfl rfl
theorem ajf {x:aU} {j:Nat} {want:Bool}:bl P (.os D (⟨d,(.CC x),some (j,want),rs⟩::os)::aI) .normal r h Q=fa P (r.trim rs j) want d (.CC x) rs D os aI r h Q:=hT rfl
theorem ah' {x:aU}:bl P (.os D (⟨d,(.Cg x),none,rs⟩::os)::aI) .normal r h Q=hk P (gU (x.aR (r.trim rs)) h) d D os aI r h Q:=iw rfl rfl
theorem ajc {x:aU} {j:Nat} {want:Bool}:bl P (.os D (⟨d,(.Cg x),some (j,want),rs⟩::os)::aI) .normal r h Q=fa P (r.trim rs j) want d (.Cg x) rs D os aI r h Q:=hT rfl
theorem ahv {x:aU}:bl P (.os D (⟨d,(.A2 x),none,rs⟩::os)::aI) .normal r h Q=hk P (A3 (x.aR (r.trim rs)) h) d D os aI r h Q:=iw rfl rfl
theorem aiJ {x:aU} {j:Nat} {want:Bool}:bl P (.os D (⟨d,(.A2 x),some (j,want),rs⟩::os)::aI) .normal r h Q=fa P (r.trim rs j) want d (.A2 x) rs D os aI r h Q:=hT rfl
set_option linter.defProp false in
def jl:=And.intro @ahk<|And.intro @aiD<|And.intro @ahT<|And.intro @ai2<|And.intro @ahU<|And.intro @ai3<|And.intro @aia<|And.intro @ajd<|And.intro @aha<|And.intro @aiw<|And.intro @aip<|And.intro @ajm<|And.intro @aiq<|And.intro @ajn<|And.intro @ahX<|And.intro @ai4<|And.intro @ahY<|And.intro @ai5<|And.intro @ahx<|And.intro @aiK<|And.intro @aie<|And.intro @ajf<|And.intro @ah'<|And.intro @ajc<|And.intro @ahv @aiJ
end
theorem akG (h:ah) (ag:List V):gq h ag=if ag.length<=top then some (h.new (.bx ag 0 false)) else none:=by
 by_cases az:ag.length<=top
 . rw [if_pos az,akF az]
 . rw [if_neg az];unfold gq;rw [show Nat.ble ag.length top=false from by rw [<-Bool.not_eq_true,Nat.ble_eq];exact az];rfl
theorem ajy (h:ah) (n:Nat) (b:aO) (off:Nat) (y:V) (ag:List V) (cX:Nat) (st:Bool):
 BY n h b off y (.bx ag cX st)=if y.cells.length=n/\fJ y.cells=true/\off+n<=ag.length then some (h.set b (.bx (pq ag off y.cells) cX st)) else none:=by
 by_cases aC:y.cells.length=n/\fJ y.cells=true/\off+n<=ag.length
 . rw [if_pos aC,ajz aC.1 aC.2.1 aC.2.2]
 . rw [if_neg aC];unfold BY;by_cases aa:y.cells.length=n
   . rw [show Nat.beq y.cells.length n=true from by rw [Nat.beq_eq];exact aa];simp only [cond_true,b9.bx,b9.on];by_cases ad:fJ y.cells=true
     . have aH:¬off+y.cells.length<=ag.length:=fun q=>aC ⟨aa,ad,by omega⟩;rw [show Nat.ble (off+y.cells.length) ag.length=false from by rw [<-Bool.not_eq_true,Nat.ble_eq];exact aH];rfl
     . rw [show fJ y.cells=false from by simpa using ad,Bool.and_false];rfl
   . rw [show Nat.beq y.cells.length n=false from by rw [<-Bool.not_eq_true,Nat.beq_eq];exact aa];rfl
theorem ac6 (cells:List V) (off size:Nat) (v:V) (rest:List (Nat × Nat × V)):
 jb cells ((off,size,v)::rest)=if v.fI=true/\v.cells.length=size/\off+size<=cells.length then jb (pq cells off v.cells) rest else none:=by
 by_cases aC:v.fI=true/\v.cells.length=size/\off+size<=cells.length
 . rw [if_pos aC,ac5 aC.1 aC.2.1 aC.2.2]
 . rw [if_neg aC];simp only [jb];cases ae:(v.fI&&(Nat.beq v.cells.length size&&Nat.ble (off+v.cells.length) cells.length)) with
   | false=>rfl
   | true=>
     simp only [Bool.and_eq_true,Nat.beq_eq,Nat.ble_eq] at ae;exact absurd ⟨ae.1,ae.2.1,by omega⟩ aC
theorem abB (b:Bool):V.cells (.bool b:V)=[.bool b]:=rfl
theorem alb (b:Bool):V.one (.bool b:V)=true:=rfl
theorem adJ (b:Bool):V.fI (.bool b:V)=true:=rfl
theorem abF (k:IntKind) (n:Int):V.cells (.int k n:V)=[.int k n]:=rfl
theorem L_ (k:IntKind) (n:Int):V.one (.int k n:V)=true:=rfl
theorem adN (k:IntKind) (n:Int):V.fI (.int k n:V)=true:=rfl
theorem abO (s:List UInt8):V.cells (.str s:V)=[.str s]:=rfl
theorem Ma (s:List UInt8):V.one (.str s:V)=true:=rfl
theorem adW (s:List UInt8):V.fI (.str s:V)=true:=rfl
theorem abK:V.cells (.dX:V)=[.dX]:=rfl
theorem alj:V.one (.dX:V)=true:=rfl
theorem adS:V.fI (.dX:V)=true:=rfl
theorem abM (b:aO) (o:Nat):V.cells (.ptr b o:V)=[.ptr b o]:=rfl
theorem alm (b:aO) (o:Nat):V.one (.ptr b o:V)=true:=rfl
theorem adU (b:aO) (o:Nat):V.fI (.ptr b o:V)=true:=rfl
theorem abN (b:aO) (o l c:Nat):V.cells (.slice b o l c:V)=[.slice b o l c]:=rfl
theorem aln (b:aO) (o l c:Nat):V.one (.slice b o l c:V)=true:=rfl
theorem adV (b:aO) (o l c:Nat):V.fI (.slice b o l c:V)=true:=rfl
theorem abD (b:aO) (o l c:Nat):V.cells (.ez b o l c:V)=[.ez b o l c]:=rfl
theorem ald (b:aO) (o l c:Nat):V.one (.ez b o l c:V)=true:=rfl
theorem adL (b:aO) (o l c:Nat):V.fI (.ez b o l c:V)=true:=rfl
theorem abP (b:aO) (o l c:Nat):V.cells (.ic b o l c:V)=[.ic b o l c]:=rfl
theorem alo (b:aO) (o l c:Nat):V.one (.ic b o l c:V)=true:=rfl
theorem adX (b:aO) (o l c:Nat):V.fI (.ic b o l c:V)=true:=rfl
theorem abL:V.cells (.bU:V)=[.bU]:=rfl
theorem alk:V.one (.bU:V)=true:=rfl
theorem adT:V.fI (.bU:V)=true:=rfl
theorem abJ:V.cells (.iS:V)=[.iS]:=rfl
theorem ali:V.one (.iS:V)=true:=rfl
theorem adR:V.fI (.iS:V)=true:=rfl
theorem abG (b:aO):V.cells (.map b:V)=[.map b]:=rfl
theorem alf (b:aO):V.one (.map b:V)=true:=rfl
theorem adO (b:aO):V.fI (.map b:V)=true:=rfl
theorem abC (f:FuncId) (cs:List V):V.cells (.func f cs:V)=[.func f cs]:=rfl
theorem alc (f:FuncId) (cs:List V):V.one (.func f cs:V)=true:=rfl
theorem adK (f:FuncId) (cs:List V):V.fI (.func f cs:V)=true:=rfl
theorem abI:V.cells (.k':V)=[.k']:=rfl
theorem alh:V.one (.k':V)=true:=rfl
theorem adQ:V.fI (.k':V)=true:=rfl
theorem abE (t:TypeId) (v:V):V.cells (.iface t v:V)=[.iface t v]:=rfl
theorem ale (t:TypeId) (v:V):V.one (.iface t v:V)=true:=rfl
theorem adM (t:TypeId) (v:V):V.fI (.iface t v:V)=true:=rfl
theorem abH:V.cells (.nilIface:V)=[.nilIface]:=rfl
theorem alg:V.one (.nilIface:V)=true:=rfl
theorem adP:V.fI (.nilIface:V)=true:=rfl
theorem abA (cs:List V):V.cells (.agg cs)=cs:=rfl
theorem adI (cs:List V):V.fI (.agg cs)=true:=rfl
theorem adY (cs:List V):V.fI (.tuple cs)=true:=rfl
theorem Zm (n:Nat):n+1+1=n+2:=rfl
theorem Zs (n:Nat):n+2+1=n+3:=rfl
theorem Zt (n:Nat):n+3+1=n+4:=rfl
theorem Zu (n:Nat):n+4+1=n+5:=rfl
theorem Zv (n:Nat):n+5+1=n+6:=rfl
theorem Zw (n:Nat):n+6+1=n+7:=rfl
theorem Zx (n:Nat):n+7+1=n+8:=rfl
theorem Zy (n:Nat):n+8+1=n+9:=rfl
theorem Zz (n:Nat):n+9+1=n+10:=rfl
theorem Zl (n:Nat):n+10+1=n+11:=rfl
theorem Zn (n:Nat):n+11+1=n+12:=rfl
theorem Zo (n:Nat):n+12+1=n+13:=rfl
theorem Zp (n:Nat):n+13+1=n+14:=rfl
theorem Zq (n:Nat):n+14+1=n+15:=rfl
theorem Zr (n:Nat):n+15+1=n+16:=rfl
theorem sM (n:Nat):(n+1=n)=False:=eq_false (by omega)
theorem aoS (n:Nat):(n=n+1)=False:=eq_false (by omega)
theorem qa (n:Nat):(n+2=n)=False:=eq_false (by omega)
theorem aoT (n:Nat):(n=n+2)=False:=eq_false (by omega)
theorem Gc (n:Nat):(n+3=n)=False:=eq_false (by omega)
theorem aoU (n:Nat):(n=n+3)=False:=eq_false (by omega)
theorem UR (n:Nat):(n+4=n)=False:=eq_false (by omega)
theorem aoV (n:Nat):(n=n+4)=False:=eq_false (by omega)
theorem L5 (n:Nat):(n+5=n)=False:=eq_false (by omega)
theorem aoW (n:Nat):(n=n+5)=False:=eq_false (by omega)
theorem ak0 (n:Nat):(n+6=n)=False:=eq_false (by omega)
theorem aoX (n:Nat):(n=n+6)=False:=eq_false (by omega)
theorem ak1 (n:Nat):(n+7=n)=False:=eq_false (by omega)
theorem aoY (n:Nat):(n=n+7)=False:=eq_false (by omega)
theorem ak2 (n:Nat):(n+8=n)=False:=eq_false (by omega)
theorem aoZ (n:Nat):(n=n+8)=False:=eq_false (by omega)
theorem adE {P:Program} {r:bc} {h:ah} {Q:db->bc->ah->Prop} {aI:List hL} {os:List bG} {D:Option iG} {d:Option Nat} {g:G} {rs:List Nat}:fa P (.bool true) true d g rs D os aI r h Q=bl P (.os D (⟨d,g,none,rs⟩::os)::aI) .normal r h Q:=by rw [RS];simp
theorem adB {P:Program} {r:bc} {h:ah} {Q:db->bc->ah->Prop} {aI:List hL} {os:List bG} {D:Option iG} {d:Option Nat} {g:G} {rs:List Nat}:fa P (.bool false) false d g rs D os aI r h Q=bl P (.os D (⟨d,g,none,rs⟩::os)::aI) .normal r h Q:=by rw [RR];simp
theorem adD {P:Program} {r:bc} {h:ah} {Q:db->bc->ah->Prop} {aI:List hL} {os:List bG} {D:Option iG} {d:Option Nat} {g:G} {rs:List Nat}:fa P (.bool true) false d g rs D os aI r h Q=bl P (.os (jg D r h (.tuple [])) os::aI) .normal (r.set d (.tuple [])) h Q:=by rw [RR];simp
theorem adC {P:Program} {r:bc} {h:ah} {Q:db->bc->ah->Prop} {aI:List hL} {os:List bG} {D:Option iG} {d:Option Nat} {g:G} {rs:List Nat}:fa P (.bool false) true d g rs D os aI r h Q=bl P (.os (jg D r h (.tuple [])) os::aI) .normal (r.set d (.tuple [])) h Q:=by rw [RS];simp
theorem aac (c:Bool) (a b:V):V.bif (!c) a (V.opt c b)=V.bif (!c) a b:=by cases c<;>rfl
theorem agN (A:Prop):(True->A)=A:=propext ⟨fun q=>q trivial,fun q _=>q⟩
theorem agM (A:Prop):(False->A)=True:=propext ⟨fun _=>trivial,fun _ q=>q.elim⟩
section
variable {P:Program}
theorem gD {b:aS} {aI:List hL} {r:bc} {h:ah} {Q:db->bc->ah->Prop} (I:bc->ah->Prop) (μ:bc->ah->Nat) (a8:I r h)
 (step:∀r h,I r h->bl P [.c b] .normal r h fun e bu ab=>e.andThen (I bu ab/\μ bu ab<μ r h) (bl P aI e bu ab Q)):zn P b aI r h Q:=
 ⟨I,μ,a8,step⟩
theorem adA {b want:Bool} {d:Option Nat} {f:FuncId} {args:List aU} {rs:List Nat} {os:List bG} {D:Option iG} {aI:List hL} {r:bc} {h:ah} {Q:db->bc->ah->Prop} (v:V)
 (ba:(b == want)=true->gI P f (aU.fN (r.trim rs) args) h v h)
 (H:bl P (.os (jg D r h (V.opt (b == want) v)) os::aI) .normal (r.set d (V.opt (b == want) v)) h Q):fa P (.bool b) want d (.call f args) rs D os aI r h Q:=by
 have:=adz (P:=P) (c:=true) (b:=b) (want:=want) (d:=d) (f:=f) (args:=args) (rs:=rs) (D:=D) (os:=os) (aI:=aI) (r:=r) (h:=h) (Q:=Q) v;simp only [V.opt,cond_true,Bool.true_and] at this;exact this ba H
theorem RQ {b:Bool} {d:Option Nat} {f:FuncId} {args:List aU} {rs:List Nat} {os:List bG} {D:Option iG} {aI:List hL} {r:bc} {h:ah} {Q:db->bc->ah->Prop} (v:V)
 (ba:(!b)=true->gI P f (aU.fN (r.trim rs) args) h v h)
 (H:bl P (.os (jg D r h (V.opt (!b) v)) os::aI) .normal (r.set d (V.opt (!b) v)) h Q):fa P (.bool b) false d (.call f args) rs D os aI r h Q:=by
 refine adA v ?_ ?_<;>rw [beq_false]<;>assumption
def V.toN:V->Nat
 | .int _ n=>n.toNat
 | _=>0
theorem anZ (k:IntKind) (n:Int):V.toN (.int k n)=n.toNat:=rfl
theorem h2 {f:FuncId} {args:List V} {d:Option Nat} {os:List bG} {D:Option iG} {aI:List hL} {r:bc} {h:ah} {Q:db->bc->ah->Prop} {v:V}
 (c:gI P f args h v h) (H:bl P (.os (jg D r h v) os::aI) .normal (r.set d v) h Q):pK P f args d D os aI r h Q:=⟨v,h,c,H⟩
theorem cF {f:FuncId} {args:List V} {d:Option Nat} {os:List bG} {D:Option iG} {aI:List hL} {r:bc} {h:ah} {Q:db->bc->ah->Prop} {K:V->ah->Prop}
 (c:c4 P f args h K) (H:∀v ab,K v ab->bl P (.os (jg D r h v) os::aI) .normal (r.set d v) ab Q):pK P f args d D os aI r h Q:=c.mono H
structure Ext (h ab:ah):Prop where
 next:h.next<=ab.next
 get:∀b,Old h b->ab.get b=h.get b
theorem Ext.refl (h:ah):Ext h h:=⟨Nat.le_refl _,fun _ _=>rfl⟩
theorem Ext.bP {h ab:ah} (e:Ext h ab) {b:aO} (ae:Old h b):Old ab b:=Nat.lt_of_lt_of_le ae e.next
theorem Ext.trans {h ab l_:ah} (e:Ext h ab) (c9:Ext ab l_):Ext h l_:=
 ⟨Nat.le_trans e.next c9.next,fun b ae=>(c9.get b (e.bP ae)).trans (e.get b ae)⟩
theorem Ext.new {h ab:ah} (e:Ext h ab) (k:b9):Ext h (ab.new k):=
 ⟨Nat.le_succ_of_le e.next,fun b ae=>by rw [iL,if_neg (fun q=>(Ci (h:=h) ae e.next) ▸ q)];exact e.get b ae⟩
theorem Ext.set {h ab:ah} (e:Ext h ab) {i:Nat} (aq:h.next<=i) (k:b9):Ext h (ab.set (aj i) k):=
 ⟨e.next,fun b ae=>by rw [dv,if_neg (fun q=>(Ci (h:=h) ae aq) ▸ q)];exact e.get b ae⟩
theorem Ext.rd {h ab:ah} (e:Ext h ab) {b:aO} (ae:Old h b) {ag:List V} (H:Rd h b ag):Rd ab b ag:=by unfold Rd at H ⊢;rw [e.get b ae];exact H
def l1 (h:ah) (b:aO) (off:Nat) (ag:List V):Prop:=Old h b/\∃us,Rd h b us/\off+ag.length<=us.length/\(us.drop off).take ag.length=ag
theorem l1.ext {h ab:ah} (e:Ext h ab) {b:aO} {off:Nat} {ag:List V} (H:l1 h b off ag):l1 ab b off ag:=by obtain ⟨a8,us,aa,ad,aH⟩:=H;exact ⟨e.bP a8,us,e.rd a8 aa,ad,aH⟩
theorem l1.fy {h:ah} {b:aO} {off:Nat} {ag:List V} (H:l1 h b off ag) {i:Nat} (aq:i<ag.length):kI (h.get b) (off+i)=some ag[i]:=by
 obtain ⟨_,us,aa,ad,aH⟩:=H;rw [aa.fy,List.getElem?_eq_getElem (by omega)];congr 1;have:((us.drop off).take ag.length)[i]? =ag[i]? :=by rw [aH]
 rw [List.getElem?_take_of_lt aq,List.getElem?_drop,List.getElem?_eq_getElem (by omega),List.getElem?_eq_getElem aq] at this;simpa using this
theorem l1.ff {h:ah} {b:aO} {off:Nat} {ag:List V} (H:l1 h b off ag) {i n:Nat} (aq:i+n<=ag.length):n1 n (h.get b) (off+i)=some (.agg ((ag.drop i).take n)):=by
 obtain ⟨_,us,aa,ad,aH⟩:=H;rw [aa.ff,if_pos (by omega)];congr 2;have:(((us.drop off).take ag.length).drop i).take n=(ag.drop i).take n:=by rw [aH]
 rw [<-this,List.drop_take,List.drop_drop,List.take_take];congr 1;omega
def gy (h:ah) (size:Nat) (v:V) (n:Nat) (ag:List V):Prop:=
 ag.length=n * size/\match v with
  | .bU=>n=0
  | .slice b off len _=>len=n/\l1 h b off ag
  | .ez b off len _=>len=n/\l1 h b off ag
  | .ic _ _ _ _=>n=0
  | _=>False
theorem gy.ext {h ab:ah} (e:Ext h ab) {size:Nat} {v:V} {n:Nat} {ag:List V} (H:gy h size v n ag):gy ab size v n ag:=by refine ⟨H.1,?_⟩;have cy:=H.2;cases v<;>simp only at cy ⊢<;>first | exact cy | exact ⟨cy.1,cy.2.ext e⟩
theorem gy.len {h:ah} {size:Nat} {v:V} {n:Nat} {ag:List V} (H:gy h size v n ag):mm v=some (.int .i64 n):=by
 have cy:=H.2;cases v<;>simp only at cy<;>first
  | (rw [<-cy.1];rfl)
  | (subst cy;rfl)
  | (exact cy.elim)
theorem gy.dD {h:ah} {size:Nat} {v:V} {n:Nat} {ag:List V} (H:gy h size v n ag) {k:IntKind} {i:Nat} (aq:i<n):
 ∃b off,lH size v (.int k i)=some (.ptr b (off+i * size))/\l1 h b off ag:=by
 have cy:=H.2;cases v<;>simp only at cy<;>first
  | omega
  | (exact cy.elim)
  | skip
 . rename_i b off len cap;obtain ⟨rfl,aa⟩:=cy;refine ⟨b,off,?_,aa⟩;rw [FC,if_pos (by omega)];simp
 . rename_i b off len cap;obtain ⟨rfl,aa⟩:=cy;refine ⟨b,off,?_,aa⟩;rw [Tr,if_pos (by omega)];simp
end
structure Mod (M:aO->Prop) (h ab:ah):Prop where
 next:h.next<=ab.next
 get:∀b,Old h b->¬M b->ab.get b=h.get b
theorem Mod.refl (M:aO->Prop) (h:ah):Mod M h h:=⟨Nat.le_refl _,fun _ _ _=>rfl⟩
theorem Mod.bP {M:aO->Prop} {h ab:ah} (e:Mod M h ab) {b:aO} (ae:Old h b):Old ab b:=Nat.lt_of_lt_of_le ae e.next
theorem Mod.trans {M:aO->Prop} {h ab l_:ah} (e:Mod M h ab) (c9:Mod M ab l_):Mod M h l_:=
 ⟨Nat.le_trans e.next c9.next,fun b ae hm=>(c9.get b (e.bP ae) hm).trans (e.get b ae hm)⟩
theorem Mod.mono {M Dn:aO->Prop} {h ab:ah} (e:Mod M h ab) (hm:∀b,Old h b->M b->Dn b):Mod Dn h ab:=
 ⟨e.next,fun b ae aQ=>e.get b ae fun q=>aQ (hm b ae q)⟩
theorem Mod.new {M:aO->Prop} {h ab:ah} (e:Mod M h ab) (k:b9):Mod M h (ab.new k):=
 ⟨Nat.le_succ_of_le e.next,fun b ae hm=>by rw [iL,if_neg (fun q=>(Ci (h:=h) ae e.next) ▸ q)];exact e.get b ae hm⟩
theorem Mod.set {M:aO->Prop} {h ab:ah} (e:Mod M h ab) {b:aO} (ae:Old h b->M b) (k:b9):Mod M h (ab.set b k):=
 ⟨e.next,fun bI fb hm=>by
   rw [dv];by_cases q:b=bI
   . subst q;exact absurd (ae fb) hm
   . rw [if_neg q];exact e.get bI fb hm⟩
theorem Ext.mod {h ab:ah} (e:Ext h ab) (M:aO->Prop):Mod M h ab:=⟨e.next,fun b ae _=>e.get b ae⟩
theorem Ext.j5 {h ab l_:ah} (e:Ext h ab) {M:aO->Prop} (m:Mod M ab l_) (hm:∀b,M b->h.next<=dr b):Ext h l_:=
 ⟨Nat.le_trans e.next m.next,fun b ae=>by
   have mU:¬M b:=fun q=>by have:=hm b q;unfold Old at ae;omega
   exact (m.get b (e.bP ae) mU).trans (e.get b ae)⟩
theorem Mod.at {M:aO->Prop} {h ab:ah} (e:Mod M h ab) {b:aO} {off:Nat} {ag:List V} (H:l1 h b off ag) (hm:¬M b):l1 ab b off ag:=by obtain ⟨a8,us,aa,ad,aH⟩:=H;refine ⟨e.bP a8,us,?_,ad,aH⟩;unfold Rd at aa ⊢;rw [e.get b a8 hm];exact aa
theorem gi {h:ah} {i:Nat} (aq:i<h.next):Old h (aj i):=by unfold Old;rw [cm];exact aq
theorem Cd {h:ah} {b:aO} {i:Nat} (ae:Old h b) (aq:h.next<=i):(b=aj i)=False:=by apply eq_false;intro e;unfold Old at ae;rw [e,cm] at ae;omega
def V.aW:V->aO->Prop
 | .slice b _ _ _,bI=>bI=b
 | .ez b _ _ _,bI=>bI=b
 | _,_=>False
theorem gy.one {h:ah} {size:Nat} {v:V} {n:Nat} {ag:List V} (H:gy h size v n ag):v.one=true/\v.cells=[v]/\v.fI=true:=by have q:=H.2;cases v<;>simp only at q<;>first | exact ⟨rfl,rfl,rfl⟩ | exact q.elim
theorem gy.mod {M:aO->Prop} {h ab:ah} (e:Mod M h ab) {size:Nat} {v:V} {n:Nat} {ag:List V} (H:gy h size v n ag) (hm:∀b,v.aW b->¬M b):gy ab size v n ag:=by refine ⟨H.1,?_⟩;have cy:=H.2;cases v<;>simp only at cy ⊢<;>first | exact cy | exact ⟨cy.1,e.at cy.2 (hm _ rfl)⟩
theorem gy.bP {h:ah} {size:Nat} {v:V} {n:Nat} {ag:List V} (H:gy h size v n ag) {b:aO} (ae:v.aW b):Old h b:=by have cy:=H.2;cases v<;>simp only [V.aW] at cy ae<;>first | (exact ae.elim) | (subst ae;exact cy.2.1)
def dW (B:Nat) (h:ah) (size:Nat) (v:V) (n:Nat) (ag:List V):Prop:=
 ag.length=n * size/\match v with
  | .bU=>n=0
  | .slice b off len cap=>len=n/\B<=dr b/\Old h b/\n<=cap/\cap<=top/\∃us cX st,h.get b=.bx us cX st/\off+cap * size<=us.length/\(us.drop off).take ag.length=ag
  | .ez b off len idx=>len=n/\B<=dr b/\Old h b/\off=0/\idx=0/\∃us st,h.get b=.bx us size st/\ag.length<=us.length/\us.take ag.length=ag
  | _=>False
theorem dW.v {B:Nat} {h:ah} {size:Nat} {v:V} {n:Nat} {ag:List V} (H:dW B h size v n ag):gy h size v n ag:=by
 obtain ⟨aa,ad⟩:=H;refine ⟨aa,?_⟩;cases v<;>simp only at ad ⊢<;>first | exact ad | skip
 . obtain ⟨ao,_,ax,aL,_,us,cX,st,bY,ee,fQ⟩:=ad;refine ⟨ao,ax,us,.inr ⟨cX,st,bY⟩,?_,fQ⟩;rw [aa];have:=Nat.mul_le_mul_right size aL;omega
 . obtain ⟨ao,_,ax,aL,_,us,st,bY,ee,fQ⟩:=ad;subst aL;exact ⟨ao,ax,us,.inr ⟨size,st,bY⟩,by omega,by simpa using fQ⟩
theorem dW.base {B:Nat} {h:ah} {size:Nat} {v:V} {n:Nat} {ag:List V} (H:dW B h size v n ag) {b:aO} (ae:v.aW b):B<=dr b:=by have cy:=H.2;cases v<;>simp only [V.aW] at cy ae<;>first | (exact ae.elim) | (subst ae;exact cy.2.1)
theorem dW.mono {B NR:Nat} {h:ah} {size:Nat} {v:V} {n:Nat} {ag:List V} (H:dW B h size v n ag) (dc:NR<=B):dW NR h size v n ag:=by refine ⟨H.1,?_⟩;have cy:=H.2;cases v<;>simp only at cy ⊢<;>first | exact cy | exact ⟨cy.1,Nat.le_trans dc cy.2.1,cy.2.2⟩
theorem dW.mod {M:aO->Prop} {h ab:ah} (e:Mod M h ab) {B size:Nat} {v:V} {n:Nat} {ag:List V} (H:dW B h size v n ag) (hm:∀b,v.aW b->¬M b):dW B ab size v n ag:=by
 refine ⟨H.1,?_⟩;have cy:=H.2;cases v<;>simp only at cy ⊢<;>first | exact cy | skip
 . obtain ⟨ao,ax,aL,bY,ee,us,cX,st,fQ,iV⟩:=cy;exact ⟨ao,ax,e.bP aL,bY,ee,us,cX,st,by rw [e.get _ aL (hm _ rfl)];exact fQ,iV⟩
 . obtain ⟨ao,ax,aL,bY,ee,us,st,fQ,iV⟩:=cy;exact ⟨ao,ax,e.bP aL,bY,ee,us,st,by rw [e.get _ aL (hm _ rfl)];exact fQ,iV⟩
theorem dW.ext {h ab:ah} (e:Ext h ab) {B size:Nat} {v:V} {n:Nat} {ag:List V} (H:dW B h size v n ag):dW B ab size v n ag:=
 H.mod (e.mod fun _=>False) fun _ _ q=>q
theorem ajQ {h:ah} {size:Nat} {v:V} {n:Nat} {ag:List V} (H:gy h size v n ag):o' v=some n:=by
 have cy:=H.2;cases v<;>simp only at cy<;>first
  | (rw [<-cy.1];rfl)
  | (subst cy;rfl)
  | (exact cy.elim)
theorem M7 {h:ah} {b:aO} {off size n:Nat} {ag:List V} (H:l1 h b off ag) (az:ag.length=n * size):pr h size b off n=some ag:=by obtain ⟨_,us,aa,ad,aH⟩:=H;unfold pr;rw [aa.pn,show Nat.ble (off+n * size) us.length=true from by rw [Nat.ble_eq];omega,EI us _ off (by omega),<-az,aH];rfl
theorem anh {h:ah} {size:Nat} {v:V} {n:Nat} {ag:List V} (H:gy h size v n ag):xh h size v n=some ag:=by
 obtain ⟨aa,ad⟩:=H;cases v<;>simp only at ad<;>first
  | (exact ad.elim)
  | (obtain ⟨_,aH⟩:=ad;exact M7 aH aa)
  | (subst ad
     have:ag=[]:=List.eq_nil_of_length_eq_zero (by omega);subst this;rfl)
theorem dW.grown {B:Nat} {h:ah} {size:Nat} {ag:List V} {n:Nat} {st:Bool} (az:ag.length=n * size) (dc:B<=h.next):dW B (h.new (.bx ag size st)) size (.ez (aj h.next) 0 n 0) n ag:=
 ⟨az,rfl,by rw [cm];exact dc,U4,rfl,rfl,ag,st,nQ _,Nat.le_refl _,List.take_length⟩
theorem ZJ {h:ah} {size:Nat} {s x:V} {m:Nat} {ag:List V} (cy:gy h size x m ag) (hm:m<=top):lr size s x h=(match s with
 | .bU=>vn size m ag h
 | .slice b off len cap=>x1 size b off len cap m ag h
 | .ez b off len idx=>x0 size b off len idx m ag h
 | _=>.fail):=by
 unfold lr;rw [ajQ cy];simp only;rw [anh cy];simp only;rw [show Nat.ble m top=true from by rw [Nat.ble_eq];exact hm];rfl
theorem O8 {B:Nat} {h:ah} {size:Nat} {s x:V} {n m:Nat} {us ag:List V} (b':1<=size) (H1:dW B h size s n us) (cy:gy h size x m ag) (dc:B<=h.next) (hlen:(n+m) * size<=top) (aX:fJ ag=true):
 ∃v ab,lr size s x h=.val v ab/\dW B ab size v (n+m) (us++ag)/\Mod s.aW h ab/\∀b,v.aW b->s.aW b\/h.next<=dr b:=by
 have mU:n+m<=top:=Nat.le_trans (Nat.le_mul_of_pos_right _ b') hlen;have jB:=H1.1;have jZ:=cy.1;have h6:(us++ag).length=(n+m) * size:=by rw [List.length_append,jB,jZ,Nat.add_mul]
 rw [ZJ cy (by omega)];have ad:=H1.2;cases s<;>simp only at ad ⊢<;>try (exact ad.elim)
 case bU=>
  subst ad;have:us=[]:=List.eq_nil_of_length_eq_zero (by omega);subst this;unfold vn;by_cases hm:m=0
  . subst hm;have:ag=[]:=List.eq_nil_of_length_eq_zero (by omega);subst this;exact ⟨.bU,h,rfl,⟨by simp,rfl⟩,Mod.refl _ _,fun b ae=>.inl ae⟩
  . rw [show Nat.beq m 0=false from by rw [<-Bool.not_eq_true,Nat.beq_eq];exact hm];simp only [cond_false];rw [Cc (by rw [jZ];simpa using hlen) b'];refine ⟨_,_,rfl,?_,(Mod.refl _ _).new _,fun b ae=>.inr (by rw [show b=aj h.next from ae,cm];exact Nat.le_refl _)⟩;have:=dW.grown (B:=B) (h:=h) (size:=size) (ag:=ag) (n:=m) (st:=false) jZ dc;simpa using this
 case slice b off len cap=>
  obtain ⟨rfl,ax,aL,bY,ee,rB,cX,st,fQ,iV,nk⟩:=ad;unfold x1;by_cases aC:len+m<=cap
  . rw [show Nat.ble (len+m) cap=true from by rw [Nat.ble_eq];exact aC];simp only [cond_true];have gA:off+len * size+ag.length<=rB.length:=by
     have:=Nat.mul_le_mul_right size aC;rw [Nat.add_mul] at this;rw [jZ];omega
    rw [Own.lay (ag:=rB) (cX:=cX) (st:=st) fQ gA aX];refine ⟨_,_,rfl,⟨h6,rfl,ax,aL,aC,ee,_,cX,st,dv _ _ _ |>.trans (if_pos rfl),?_,?_⟩,(Mod.refl (V.aW (.slice b off len cap)) h).set (fun _=>rfl) _,fun bI ae=>.inl ae⟩
    . rw [M6 _ _ _ gA];exact iV
    . rw [List.length_append];unfold mx;have eC:off+us.length<=rB.length:=by rw [jB];omega
      have aN:rB.take (off+len * size)=rB.take off++us:=by rw [<-jB,List.take_add,nk]
      rw [aN,List.append_assoc,List.append_assoc,List.drop_append,List.drop_eq_nil_of_le (by rw [List.length_take];omega),List.nil_append];rw [show off - (rB.take off).length=0 from by rw [List.length_take];omega,List.drop_zero];rw [<-List.append_assoc,List.take_left' (by rw [List.length_append])]
  . rw [show Nat.ble (len+m) cap=false from by rw [<-Bool.not_eq_true,Nat.ble_eq];exact aC];simp only [cond_false];rw [show (Nat.ble (len+m) top&&Nat.ble cap top)=true from by simp only [Bool.and_eq_true,Nat.ble_eq];exact ⟨mU,ee⟩];simp only [cond_true];have J6:l1 h b off us:=⟨aL,rB,.inr ⟨cX,st,fQ⟩,by rw [jB];have:=Nat.mul_le_mul_right size bY;omega,nk⟩;rw [M7 J6 jB];simp only;rw [Cc (by rw [h6];exact hlen) b'];exact ⟨_,_,rfl,dW.grown h6 dc,(Mod.refl _ _).new _,fun b ae=>.inr (by rw [show b=aj h.next from ae,cm];exact Nat.le_refl _)⟩
 case ez b off len idx=>
  obtain ⟨rfl,ax,aL,rfl,rfl,rB,st,fQ,iV,nk⟩:=ad;unfold x0;by_cases hm:m=0
  . subst hm;have:ag=[]:=List.eq_nil_of_length_eq_zero (by omega);subst this;exact ⟨_,h,rfl,⟨h6,rfl,ax,aL,rfl,rfl,rB,st,fQ,by simpa using iV,by simpa using nk⟩,Mod.refl _ _,fun b ae=>.inl ae⟩
  . rw [show Nat.beq m 0=false from by rw [<-Bool.not_eq_true,Nat.beq_eq];exact hm];simp only [cond_false];rw [fQ];simp only [b9.bx,b9.on];rw [show (Nat.beq size size&&(Nat.ble (len+m) top&&fJ ag)&&Nat.beq 0 (0 * size))=true from by
     simp only [Bool.and_eq_true,Nat.beq_eq,Nat.ble_eq];exact ⟨⟨trivial,mU,aX⟩,by omega⟩]
    simp only [cond_true];have J6:l1 h b 0 us:=⟨aL,rB,.inr ⟨size,st,fQ⟩,by omega,by simpa using nk⟩;rw [M7 J6 jB];simp only;rw [Cc (by rw [h6];exact hlen) b'];exact ⟨_,_,rfl,dW.grown (h:=h.set b .dead) h6 dc,((Mod.refl (V.aW (.ez b 0 len 0)) h).set (fun _=>rfl) _).new _,fun bI ae=>.inr (by rw [show bI=aj h.next from ae,cm];exact Nat.le_refl _)⟩
theorem alw (r:bc):aU.opt r none=none:=(rfl)
theorem alx (r:bc) (x:aU):aU.opt r (some x)=some (x.aR r):=(rfl)
theorem IM {k:IntKind} {m d y:Nat} (h:m<=y):bound (some (.int k (m:Int))) d y=some m:=by simp only [bound,V.eo,o8];rw [show (decide ((0:Int)<=(m:Int))&&decide ((m:Int)<=(y:Int)))=true from by simp;omega];simp
theorem AO (d y:Nat):bound none d y=some d:=rfl
theorem dW.cut {B:Nat} {h:ah} {size:Nat} {v:V} {n:Nat} {ag:List V} (H:dW B h size v n ag) {k:IntKind} {m:Nat} (hm:m<=n) (aQ:1<=n):
 ∃c1,nq size v none (some (.int k m)) none=some c1/\dW B h size c1 m (ag.take (m * size))/\∀b,c1.aW b->v.aW b:=by
 obtain ⟨ao,ax⟩:=H;have tX:=Nat.mul_le_mul_right size hm;have h6:(ag.take (m * size)).length=m * size:=by rw [List.length_take];omega
 cases v<;>simp only at ax<;>try (first | omega | exact ax.elim)
 case slice b off len cap=>
  obtain ⟨rfl,aL,bY,ee,fQ,us,cX,st,iV,nk,MB⟩:=ax;have e:nq size (.slice b off len cap) none (some (.int k m)) none=some (.slice b off m cap):=by simp only [nq,xf,IM (show m<=cap by omega),AO];cases Nat.beq cap 0<;>simp
  rw [e];refine ⟨_,rfl,⟨h6,rfl,aL,bY,by omega,fQ,us,cX,st,iV,nk,?_⟩,fun bI ae=>ae⟩;rw [h6,<-MB,List.take_take];congr 1;omega
 case ez b off len idx=>
  obtain ⟨rfl,aL,bY,rfl,rfl,us,st,iV,nk,MB⟩:=ax;have e:nq size (.ez b 0 len 0) none (some (.int k m)) none=some (.ez b 0 m 0):=by simp only [nq,uQ,IM hm,AO];rw [show Nat.blt 0 len=true from by rw [Nat.blt_eq];omega];simp
  rw [e];refine ⟨_,rfl,⟨h6,rfl,aL,bY,rfl,rfl,us,st,iV,by omega,?_⟩,fun bI ae=>ae⟩;rw [h6,<-MB,List.take_take];congr 1;omega
theorem akO (b:aO) (o:Nat):ur (.ptr b o)=some (.ptr b o):=rfl
theorem akn (k bo:IntKind) (a b:Int):kK (fun b a=>!Int.leB a b) [.int k a,.int bo b]=some (.int k (if b<a then b else a)):=by
 simp only [kK,w2,V.eo,o8];by_cases h:b<a
 . rw [if_pos h];have:¬a<=b:=by omega
   simp [this]
 . rw [if_neg h];have:a<=b:=by omega
   simp [this]
theorem akw (k bo:IntKind) (a b:Int):kK (fun b a=>!Int.leB b a) [.int k a,.int bo b]=some (.int k (if a<b then b else a)):=by
 simp only [kK,w2,V.eo,o8];by_cases h:a<b
 . rw [if_pos h];have:¬b<=a:=by omega
   simp [this]
 . rw [if_neg h];have:b<=a:=by omega
   simp [this]
end
section
open Go Go.RowKit Go.ChangeShapes Go.WideShapes
variable [Lay]
section
variable {H:Type} {enc:TypeId × Value->H} {P:Program}
end
end
section
open Go Go.RowKit
variable [Lay]
theorem bf.below {ay:Fr} {E:Env} {h:ah} {w w':World} (s:bf ay E h w) (ae:Below w.heap.size w w'):bf ay E h w':=by
 have b':ay.w.heap.size<=w.heap.size:=s.frame.size;have gB:∀(k:Nat) (o:Obj),w.heap[k]? =some o->w'.heap[k]? =some o:=by
  intro k o aD;rw [ae.block k,aD];by_cases aT:k<w.heap.size
  . exact aT
  . rw [Array.getElem?_eq_none (by omega)] at aD;cases aD
 refine ⟨fun b af=>?_,s.qf,s.inj,s.fresh,s.frame.trans (ae.mono b'),s.laid,s.base⟩;have:=s.aW b af;cases aD:h.get b<;>rw [aD] at this<;>simp only [hx] at this ⊢
 . obtain ⟨ao,p,c,el,bZ,ax,aL,bY,ee⟩:=this;exact ⟨ao,p,c,el,bZ,ax,aL,gB _ _ bY,ee⟩
 . obtain ⟨ao,p,c,el,bZ,ax,aL,bY,ee⟩:=this;exact ⟨ao,p,c,el,bZ,ax,aL,gB _ _ bY,ee⟩
 . obtain ⟨p,ao,ax,aL,bY⟩:=this;exact ⟨p,ao,ax,aL,gB _ _ bY⟩
 . obtain ⟨p,a,ao,ax,aL,bY⟩:=this;exact ⟨p,a,ao,ax,gB _ _ aL,bY⟩
 . obtain ⟨p,o,ao,ax,aL,bY⟩:=this;exact ⟨p,o,ao,ax,gB _ _ aL,bY⟩
 . obtain ⟨p,ao,ax,aL⟩:=this;exact ⟨p,ao,ax,gB _ _ aL⟩
 . obtain ⟨p,a,c,l,ao,ax,aL,bY⟩:=this;exact ⟨p,a,c,l,ao,ax,gB _ _ aL,bY⟩
 . obtain ⟨p,m,a,ao,ax,aL,bY,ee⟩:=this;exact ⟨p,m,a,ao,ax,aL,gB _ _ bY,ee⟩
theorem ajo {P:Program} {f:FuncId} {args:List V} {v:V} {h:ah} (H:∀E xs w,Lay.ok w->bh E args xs->Calls P f xs.toArray w fun e w'=>∃x,e=.returned x/\Rel E v x/\Below w.heap.size w w')
 (ay:Fr) (E:Env) (w:World) (xs:List Value) (ai:bh E args xs) (s:bf ay E h w):Calls P f xs.toArray w fun e w'=>∃aw x,e=.returned x/\E.le aw/\Rel aw v x/\bf ay aw h w':=by
 refine (H E xs w (Lay.gB s.laid s.frame) ai).mono fun e w' q=>?_;obtain ⟨x,rfl,ba,ae⟩:=q;exact ⟨E,x,rfl,Env.le.refl E,ba,s.below ae⟩
theorem ac0 {P:Program} {f:FuncId} {fn:Func} {e:Array Value->Sem Value} (aB:P.funcs[f]? =some fn) (aQ:(fn.name == "runtime.NumGoroutine")=false) (ae:fn.body.isNone=true) (aa:Extern.findNext fn=none) (ad:Extern.find fn=some e)
 {xs:Array Value} {x:Value} {w:World} (aG:(e xs).run P w=.ok x w):(callFunc f xs).run P w=.ok (.value x) w:=by
 simp only [callFunc,Sem.run_bind,run_program,Result.andThen_ok,aB];rw [if_neg (by rw [aQ];simp),if_pos ae];simp only [Sem.run_bind,aa,ad];have hm:(mark (.extern f)).run P w=.ok () w:=rfl;rw [hm];simp only [Result.andThen_ok,aG,Sem.run_pure]
def BT (c:Nat):List UInt8->Nat->Int
 | [],_=>-1
 | b::l,i=>bif Nat.beq b.toNat c then .ofNat i else BT c l (i+1)
theorem TH (c:Nat) (aC:c<256):∀(l:List UInt8) (i:Nat),BT c l i=if Lib.indexByte l c.toUInt8=-1 then -1 else Lib.indexByte l c.toUInt8+i
 | [],i=>by simp [BT,Lib.indexByte]
 | b::l,i=>by
   have jW:=Lib.indexByte_ge l c.toUInt8;have tS:(b.toNat=c)↔(b == c.toUInt8)=true:=by
    rw [beq_iff_eq,<-UInt8.toNat_inj];have:c.toUInt8.toNat=c:=by show c % 256=c;omega
    rw [this]
   have e:Lib.indexByte (b::l) c.toUInt8=if (b == c.toUInt8)=true then 0 else if (Lib.indexByte l c.toUInt8 == -1)=true then -1 else Lib.indexByte l c.toUInt8+1:=rfl;simp only [BT,TH c aC l (i+1),h3];by_cases h:b.toNat=c
   . rw [if_pos (tS.1 h)] at e;rw [if_pos h,e];simp
   . rw [if_neg (fun e=>h (tS.2 e))] at e;rw [if_neg h];by_cases ad:Lib.indexByte l c.toUInt8=-1
     . rw [ad] at e;simp only [beq_self_eq_true,if_true] at e;simp [ad,e]
     . have aH:(Lib.indexByte l c.toUInt8 == -1)=false:=by simpa using ad
       rw [aH] at e;simp only [Bool.false_eq_true,if_false] at e;rw [if_neg ad,e,if_neg (by omega)];omega
def preB:List UInt8->List UInt8->Bool
 | [],_=>true
 | _::_,[]=>false
 | a::x,b::y=>bif Nat.beq a.toNat b.toNat then preB x y else false
theorem Mm:∀(x y:List UInt8),preB x y=x.isPrefixOf y
 | [],y=>by cases y<;>rfl
 | _::_,[]=>rfl
 | a::x,b::y=>by
   simp only [preB,List.isPrefixOf,h3,Mm x y];by_cases h:a.toNat=b.toNat
   . have:a=b:=UInt8.toNat_inj.1 h;subst this;simp
   . have:(a == b)=false:=by
      rw [beq_eq_false_iff_ne];exact fun e=>h (by rw [e])
     rw [if_neg h,this];rfl
def hasB:List UInt8->List UInt8->Bool
 | [],sub=>preB sub []
 | b::l,sub=>bif preB sub (b::l) then true else hasB l sub
theorem Sf:∀(s sub:List UInt8),hasB s sub=Lib.contains s sub
 | [],sub=>by simp only [hasB,Mm,Lib.contains,Lib.index];cases sub<;>simp
 | b::l,sub=>by
   simp only [hasB,Mm];have bd:=Sf l sub;unfold Lib.contains at bd ⊢;unfold Lib.index;cases h:sub.isPrefixOf (b::l) with
   | true=>simp
   | false=>
     simp only [cond_false,Bool.false_eq_true,if_false,bd];have jW:=Lib.index_ge l sub;cases ad:(Lib.index l sub == -1) with
     | true=>
       have:Lib.index l sub=-1:=by simpa using ad
       simp [this]
     | false=>
       have:Lib.index l sub≠-1:=by simpa using ad
       simp only [Bool.false_eq_true,if_false];rw [Bool.eq_iff_iff,decide_eq_true_eq,decide_eq_true_eq];omega
def Jj:xV:=⟨fun args h=>match args with
 | [x,y]=>(match x with
   | .str s=>(match y with
     | .str sub=>bif Nat.ble s.length 100000 then .val (.bool (hasB s sub)) h else .fail
     | _=>.fail)
   | _=>.fail)
 | _=>.fail⟩
theorem ab6 {args:List V} {h ab:ah} {v:V} (he:Jj.run args h=.val v ab):∃s sub,args=[.str s,.str sub]/\s.length<=100000/\v=.bool (Lib.contains s sub)/\ab=h:=by
 simp only [Jj] at he
 split at he
 case h_2=>cases he
 split at he
 case h_2=>cases he
 split at he
 case h_2=>cases he
 obtain ⟨aC,aa⟩:=jv he;simp only [a7.val.injEq] at aa;obtain ⟨rfl,rfl⟩:=aa;exact ⟨_,_,rfl,Nat.le_of_ble_eq_true aC,by rw [Sf],rfl⟩
def FF:xV:=⟨fun args h=>match args with
 | [x,y]=>(match x with
   | .str s=>(match y with
     | .int k c=>bif oL k .u8&&(Int.leB 0 c&&Nat.blt c.toNat 256) then .val (.int .i64 (BT c.toNat s 0)) h else .fail
     | _=>.fail)
   | _=>.fail)
 | _=>.fail⟩
theorem agU {args:List V} {h ab:ah} {v:V} (he:FF.run args h=.val v ab):∃s c,args=[.str s,.int .u8 c]/\v=.int .i64 (Lib.indexByte s c.toNat.toUInt8)/\ab=h:=by
 simp only [FF] at he
 split at he
 case h_2=>cases he
 split at he
 case h_2=>cases he
 split at he
 case h_2=>cases he
 rename_i s _ k c;obtain ⟨aC,aa⟩:=jv he;simp only [Bool.and_eq_true,Nat.blt_eq] at aC;have aD:=tH aC.1;subst aD;simp only [a7.val.injEq] at aa;obtain ⟨rfl,rfl⟩:=aa;refine ⟨s,c,rfl,?_,rfl⟩;rw [TH _ aC.2.2];by_cases h:Lib.indexByte s c.toNat.toUInt8=-1
 . rw [if_pos h,h]
 . rw [if_neg h];simp
theorem agT {P:Program} {f:FuncId} {fn:Func} (aB:P.funcs[f]? =some fn) (aQ:(fn.name == "runtime.NumGoroutine")=false) (ae:fn.body.isNone=true) (aa:Extern.findNext fn=none) (ad:Extern.find fn=some Extern.BytealgIndexByte.indexByte)
 {args:List V} {h ab:ah} {v:V} (he:FF.run args h=.val v ab) (ay:Fr) (E:Env) (w:World) (xs:List Value) (ai:bh E args xs) (s:bf ay E h w):
 ∃aw x w',(callFunc f xs.toArray).run P w=.ok (.value x) w'/\E.le aw/\Rel aw v x/\bf ay aw ab w':=by
 obtain ⟨t,c,rfl,rfl,rfl⟩:=agU he;obtain ⟨y,cT,rfl,ao,z,iF,rfl,ax,rfl⟩:=ai;simp only [Rel] at ao ax;subst ao ax;exact ⟨E,_,w,ac0 aB aQ ae aa ad (Lib.run_indexByteString _ _ _),Env.le.refl E,by simp [Rel],s⟩
theorem abY {P:Program} {f:FuncId} (a1:Nat.beq f dt=false) {v:V} (ba:∀E x,x=.bool true->Rel E v x) (kh:∃fn,P.funcs[f]? =some fn/\fn.body.isSome=true) (H:∀w,Lay.ok w->Calls P f #[] w fun e w'=>e=.returned (.bool true)/\Below w.heap.size w w') (h:ah):
 gI P f [] h v h:=by
 refine ⟨fun e=>by subst e;simp at a1,.inl ⟨kh,fun ay E w xs ai s=>?_⟩⟩;simp only [bh] at ai;subst ai;refine (H w (Lay.gB s.laid s.frame)).mono fun e w' q=>?_;obtain ⟨rfl,ae⟩:=q;exact ⟨E,_,rfl,fun _ _ q=>q,ba E _ rfl,s.below ae⟩
def rC (E:Env) (h:ah) (p:jr):Env:=fun b=>if b=aj h.next then some p else E b
theorem Xz (E:Env) (h:ah) (p:jr):rC E h p (aj h.next)=some p:=if_pos rfl
theorem Nv {ay:Fr} {E:Env} {h:ah} {w:World} (s:bf ay E h w) (p:jr):E.le (rC E h p):=fun b q aA=>by unfold rC;rw [if_neg (fun e=>by rw [e,s.fresh _ (Nat.le_refl _)] at aA;cases aA)];exact aA
theorem amX {W:World} {E:Env} {h:ah} (s:bf ⟨W,fun _=>none⟩ E h W) (p:jr) (k:b9) (aX:k.own=false) (aD:hx W.heap.size (rC E h p) W (aj h.next) k):
 bf ⟨W,fun _=>none⟩ (rC E h p) (h.new k) W:=by
 refine ⟨fun b _=>?_,fun _ _ h=>(by cases h),fun b bI q ep aa ad aN aZ aA=>?_,fun i aq=>?_,s.frame,s.laid,fun b q n cs st aa aN=>by
  rw [iL] at aa;by_cases bS:aj h.next=b
  . rw [if_pos bS] at aa;rw [aa] at aX;cases aX
  . rw [if_neg bS] at aa;unfold rC at aN;rw [if_neg (fun e=>bS e.symm)] at aN;exact s.base _ _ _ _ _ aa aN⟩
 . rw [iL];by_cases e:aj h.next=b
   . subst e;rw [if_pos rfl];exact aD
   . rw [if_neg e];exact (s.aW b rfl).mono (Nv s p)
 . rw [iL] at aa ad;by_cases bS:aj h.next=b
   . rw [if_pos bS,aX] at aa;cases aa
   . by_cases bX:aj h.next=bI
     . rw [if_pos bX,aX] at ad;cases ad
     . rw [if_neg bS] at aa;rw [if_neg bX] at ad;unfold rC at aN aZ;rw [if_neg (fun e=>bS e.symm)] at aN;rw [if_neg (fun e=>bX e.symm)] at aZ;exact s.inj b bI q ep aa ad aN aZ aA
 . rw [gF] at aq;unfold rC;rw [if_neg (fun e=>by have:=ed e;omega)];exact s.fresh i (by omega)
theorem amY {W:World} {E:Env} {h:ah} (s:bf ⟨W,fun _=>none⟩ E h W) {k base cap:Nat} {c:Array Value} {el:TypeId} {bZ:Nat × Nat} (aD:W.heap[k]? =some (.cells c el bZ)) {ag:List V}
 (aC:base+ag.length<=c.size) (aG:∀i v y,ag[i]? =some v->c[base+i]? =some y->Rel E v y):
 bf ⟨W,fun _=>none⟩ (rC E h ⟨k,base,cap⟩) (h.new (.ro ag)) W:=by
 refine amX s _ _ rfl ?_;have aT:k<W.heap.size:=by
  by_cases aT:k<W.heap.size
  . exact aT
  . rw [Array.getElem?_eq_none (by omega)] at aD;cases aD
 refine ⟨trivial,⟨k,base,cap⟩,c,el,bZ,Xz _ _ _,aT,aD,aC,fun i y aq a1=>?_⟩;have:T.get .bad (aj i) (dY .e 0 ag)=ag[i]:=by have:=EH ag 0 i .e;rw [Nat.zero_add] at this;rw [this,if_pos aq,List.getElem?_eq_getElem aq];rfl
 rw [this];exact Rel.mono (Nv s _) _ _ (aG i _ y (List.getElem?_eq_getElem aq) a1)
end
section
open Go Go.RowKit
variable [Lay]
section
variable (P:Program)
def zV:List Field->Nat->Option Nat
 | [],o=>some o
 | f::cl,o=>if f.offset=o then zV cl (o+P.cellsOf f.type) else none
def xm:Bool:=(List.range P.types.size).all fun t=>match P.underlying t with
 | some (.struct cl)=>decide (zV P cl.toList 0=some (P.cellsOf t))
 | _=>true
def dC (h:ah):Nat->Nat->TypeId->List V->Prop
 | 0,_,_,_=>False
 | n+1,m,t,ag=>match P.underlying t with
   | some .bool=>∃b,ag=[.bool b]
   | some (.int k)=>∃i,ag=[.int k i]/\(Lit.int k i).wf=true
   | some .string=>∃s:List UInt8,ag=[.str s]/\s.length+1<=m
   | some (.slice e)=>1<=m/\(ag=[.bU]\/(∃b i j k,ag=[.ic b i j k])\/P.cellsOf e=0\/
      ∃b len cap,ag=[.slice b 0 len cap]/\0<len/\len<=cap/\Old h b/\∃us,Rd h b us/\us.length=len * P.cellsOf e/\∃ms:List Nat,ms.length=len/\ms.sum+1<=m/\
       ∀(i k:Nat),ms[i]? =some k->1<=k/\dC h n k e ((us.drop (i * P.cellsOf e)).take (P.cellsOf e)))
   | some (.struct cl)=>ag.length=P.cellsOf t/\∃ms:List Nat,ms.length=cl.toList.length/\ms.sum+1<=m/\∀(i:Nat) (f:Field) (k:Nat),cl.toList[i]? =some f->ms[i]? =some k->1<=k/\dC h n k f.type ((ag.drop f.offset).take (P.cellsOf f.type))
   | some (.pointer e)=>1<=m/\(ag=[.dX]\/P.cellsOf e=0\/∃b,ag=[.ptr b 0]/\Old h b/\∃us,Rd h b us/\us.length=P.cellsOf e/\∃k,k+1<=m/\dC h n k e us)
   | some (.map _ _)=>ag=[.iS]\/ag=[.bad]
   | some (.interface _)=>ag=[.nilIface]\/ag=[.bad]
   | _=>True
end
theorem dC.ext {P:Program} {h ab:ah} (e:Ext h ab):∀(n m:Nat) (t:TypeId) (ag:List V),dC P h n m t ag->dC P ab n m t ag
 | 0,_,_,_,H=>H
 | n+1,m,t,ag,H=>by
   unfold dC at H ⊢
   split at H<;>try exact H
   . refine ⟨H.1,?_⟩;rcases H.2 with H | H | H | ⟨b,len,cap,aa,ad,aH,cI,us,bK,bT,ms,en,gg,km⟩
     . exact .inl H
     . exact .inr (.inl H)
     . exact .inr (.inr (.inl H))
     . exact .inr (.inr (.inr ⟨b,len,cap,aa,ad,aH,e.bP cI,us,e.rd cI bK,bT,ms,en,gg,fun i k aD=>⟨(km i k aD).1,dC.ext e n _ _ _ (km i k aD).2⟩⟩))
   . obtain ⟨aa,ms,ad,aH,bt⟩:=H;exact ⟨aa,ms,ad,aH,fun i f k aB aD=>⟨(bt i f k aB aD).1,dC.ext e n _ _ _ (bt i f k aB aD).2⟩⟩
   . refine ⟨H.1,?_⟩;rcases H.2 with H | H | ⟨b,aa,cI,us,bK,bT,k,en,gg⟩
     . exact .inl H
     . exact .inr (.inl H)
     . exact .inr (.inr ⟨b,aa,e.bP cI,us,e.rd cI bK,bT,k,en,dC.ext e n _ _ _ gg⟩)
mutual
def fV {H:Type}:DataW H->Nat
 | .lit (.string bytes)=>bytes.length+1
 | .lit _=>1
 | .nil=>1
 | .ptr d=>fV d+1
 | .slice elems spare=>l' elems+l' spare+1
 | .agg parts=>l' parts+1
 | .iface _ d=>fV d+1
 | .map entries=>DW entries+1
 | .held _=>1
def l' {H:Type}:List (DataW H)->Nat
 | []=>0
 | d::r=>fV d+l' r
def DW {H:Type}:List (Lit × DataW H)->Nat
 | []=>0
 | x::r=>IQ x+DW r
def IQ {H:Type}:Lit × DataW H->Nat
 | (.string bytes,d)=>bytes.length+fV d+1
 | (_,d)=>fV d+1
end
theorem r0 {H:Type} (d:DataW H):1<=fV d:=by
 cases d with
 | lit l=>cases l<;>simp [fV]
 | _=>simp [fV]
theorem IP {H:Type}:∀l:List (DataW H),l' l=(l.map fV).sum
 | []=>by simp [l']
 | d::r=>by simp only [l',List.map_cons,List.sum_cons,IP r]
theorem D7 {w:World} {base:Nat} {a:Addr} {n:Nat} {l:List Value} (h:w.cells? base a n=some l):l.length=n/\∀i,i<n->w.cell? (a.add i)=l[i]? :=by
 unfold World.cells? at h
 split at h
 . exact ⟨by simpa using mapM_some_length h,fun i aq=>mapM_some_get h i i (by simp [aq])⟩
 . cases h
theorem Wd {E aw:Env} (he:E.le aw) {ag:List V} {l:List Value} (H:bh E ag l):bh aw ag l:=bh.mono he ag l H
section
variable {H:Type} {enc:TypeId × Value->H} {P:Program} {W:World} {base:Nat} {sp:Nat->Bool} {held:Bool}
def Lays (P:Program) (W:World) (n m:Nat) (t:TypeId) (cs:List Value):Prop:=
 ∀(E:Env) (h:ah),bf ⟨W,fun _=>none⟩ E h W->∃aw ab ag,E.le aw/\Ext h ab/\bf ⟨W,fun _=>none⟩ aw ab W/\bh aw ag cs/\ag.length=cs.length/\dC P ab n m t ag
theorem TW (n size:Nat) (e:TypeId):∀(pieces:List (List Value)) (ms:List Nat),ms.length=pieces.length->(∀(i:Nat) (l:List Value) (k:Nat),pieces[i]? =some l->ms[i]? =some k->l.length=size/\Lays P W n k e l)->
 ∀(E:Env) (h:ah),bf ⟨W,fun _=>none⟩ E h W->∃aw ab us,E.le aw/\Ext h ab/\bf ⟨W,fun _=>none⟩ aw ab W/\bh aw us pieces.flatten/\us.length=pieces.length * size/\
  ∀(i k:Nat),ms[i]? =some k->dC P ab n k e ((us.drop (i * size)).take size)
 | [],[],_,_,E,h,s=>⟨E,h,[],fun _ _ q=>q,Ext.refl h,s,rfl,by simp,fun i k aq=>by simp at aq⟩
 | [],_::_,az,_,_,_,_=>by simp at az
 | _::_,[],az,_,_,_,_=>by simp at az
 | l::ls,m::ms,lC,af,E,h,s=>by
   obtain ⟨az,H⟩:=af 0 l m rfl rfl;obtain ⟨ej,aa,ag,bN,a2,a3,a4,a5,hN⟩:=H E h s;obtain ⟨bL,ad,us,cn,ch,gk,l8,l9,nJ⟩:=TW n size e ls ms (by simpa using lC) (fun i l k ao ax=>af (i+1) l k (by simpa using ao) (by simpa using ax)) ej aa a3;refine ⟨bL,ad,ag++us,bN.trans cn,a2.trans ch,gk,?_,?_,?_⟩
   . rw [List.flatten_cons];exact bh.append (Wd cn a4) l8
   . rw [List.length_append,l9,a5,az,List.length_cons,Nat.add_mul];omega
   . intro i k aq;cases i with
     | zero=>
       rw [Nat.zero_mul,List.drop_zero,List.take_left' (by rw [a5,az])];simp only [List.getElem?_cons_zero,Option.some.injEq] at aq;subst aq;exact dC.ext ch _ _ _ _ hN
     | succ i=>
       rw [Nat.add_mul,Nat.one_mul,Nat.add_comm,<-List.drop_drop,List.drop_left' (by rw [a5,az])];exact nJ i k (by simpa using aq)
theorem TV (n:Nat):∀(cl:List Field) (ms:List Nat) (o cb:Nat) (cs:List Value),zV P cl o=some cb->cs.length=cb->ms.length=cl.length->(∀(i:Nat) (f:Field) (k:Nat),cl[i]? =some f->ms[i]? =some k->Lays P W n k f.type ((cs.drop f.offset).take (P.cellsOf f.type)))->
 o<=cb/\∀(E:Env) (h:ah),bf ⟨W,fun _=>none⟩ E h W->∃aw ab ag,E.le aw/\Ext h ab/\bf ⟨W,fun _=>none⟩ aw ab W/\bh aw ag (cs.drop o)/\ag.length=cb-o/\
  ∀(i:Nat) (f:Field) (k:Nat),cl[i]? =some f->ms[i]? =some k->o<=f.offset/\dC P ab n k f.type ((ag.drop (f.offset-o)).take (P.cellsOf f.type))
 | [],_::_,_,_,_,_,_,lC,_=>by simp at lC
 | _::_,[],_,_,_,_,_,lC,_=>by simp at lC
 | [],[],o,cb,cs,au,az,_,_=>by simp only [zV,Option.some.injEq] at au;subst au;refine ⟨Nat.le_refl _,fun E h s=>⟨E,h,[],fun _ _ q=>q,Ext.refl h,s,?_,by simp,fun i f k aB=>by simp at aB⟩⟩;rw [List.drop_eq_nil_of_le (by omega)];rfl
 | f::cl,m::ms,o,cb,cs,au,az,lC,af=>by
   simp only [zV] at au;by_cases aB:f.offset=o
   . rw [if_pos aB] at au;obtain ⟨g1,g2⟩:=TV n cl ms (o+P.cellsOf f.type) cb cs au az (by simpa using lC) (fun i f k ao ax=>af (i+1) f k (by simpa using ao) (by simpa using ax));refine ⟨by omega,fun E h s=>?_⟩;have wm:=af 0 f m rfl rfl;obtain ⟨ej,aa,ag,bN,a2,a3,a4,a5,hN⟩:=wm E h s;obtain ⟨bL,ad,us,cn,ch,gk,l8,l9,nJ⟩:=g2 ej aa a3;have mh:ag.length=P.cellsOf f.type:=by rw [a5,List.length_take,List.length_drop,aB];omega
     refine ⟨bL,ad,ag++us,bN.trans cn,a2.trans ch,gk,?_,?_,?_⟩
     . have e:cs.drop o=(cs.drop f.offset).take (P.cellsOf f.type)++cs.drop (o+P.cellsOf f.type):=by
        rw [aB,<-List.drop_drop,List.take_append_drop]
       rw [e];exact bh.append (Wd cn a4) l8
     . rw [List.length_append,mh,l9];omega
     . intro i g k aF aD;cases i with
       | zero=>
         simp only [List.getElem?_cons_zero,Option.some.injEq] at aF aD;subst aF aD;refine ⟨by omega,?_⟩;rw [aB,Nat.sub_self,List.drop_zero,List.take_left' mh];exact dC.ext ch _ _ _ _ hN
       | succ i=>
         obtain ⟨bS,bX⟩:=nJ i g k (by simpa using aF) (by simpa using aD);refine ⟨by omega,?_⟩;rw [show g.offset-o=P.cellsOf f.type + (g.offset - (o+P.cellsOf f.type)) from by omega,<-List.drop_drop,List.drop_left' mh];exact bX
   . rw [if_neg aB] at au;cases au
theorem QA {w:World} {a:Addr} {y:Value} (h:w.cell? a=some y):a.spot=none/\∃c el bZ,w.heap[a.block]? =some (.cells c el bZ)/\c[a.off]? =some y:=by
 refine ⟨World.cell?_spot h,?_⟩;unfold World.cell? at h
 split at h
 . rename_i c el bZ bk
   split at h
   . cases h
   . exact ⟨c,el,bZ,bk,h⟩
 . cases h
theorem ZC (a:Addr) (n:Nat):(a.add n).block=a.block:=by unfold Addr.add;split<;>rfl
theorem ZD (a:Addr) (n:Nat):(a.add n).off=a.off+n:=by unfold Addr.add;split<;>simp_all
theorem amz {w:World} {a:Addr} {l:List Value} (a8:0<l.length) (h:∀i,i<l.length->w.cell? (a.add i)=l[i]?):
 a.spot=none/\∃c el bZ,w.heap[a.block]? =some (.cells c el bZ)/\a.off+l.length<=c.size/\∀i,i<l.length->c[a.off+i]? =l[i]? :=by
 have yB:w.cell? (a.add 0)=some l[0]:=by rw [h 0 a8];exact List.getElem?_eq_getElem a8
 obtain ⟨s1,c,el,bZ,s2,np⟩:=QA yB;have cz:a.add 0=a:=by unfold Addr.add;simp
 rw [cz] at s1 s2 np;have key:∀i,i<l.length->c[a.off+i]? =l[i]? :=by intro i aq;have q:=h i aq;rw [List.getElem?_eq_getElem aq] at q ⊢;obtain ⟨_,gN,apH,apJ,t2,t3⟩:=QA q;rw [ZC,s2] at t2;rw [ZD] at t3;simp only [Option.some.injEq,Obj.cells.injEq] at t2;obtain ⟨rfl,_,_⟩:=t2;exact t3
 refine ⟨s1,c,el,bZ,s2,?_,key⟩;have:=key (l.length-1) (by omega);rw [List.getElem?_eq_getElem (by omega)] at this;have aT:=(Array.getElem?_eq_some_iff.1 this).1;omega
theorem XA {E:Env} {h:ah} (s:bf ⟨W,fun _=>none⟩ E h W) {a:Addr} {cap:Nat} {l:List Value} (a8:0<l.length) (aC:∀i,i<l.length->W.cell? (a.add i)=l[i]?) {us:List V} (aG:bh E us l):
 ∃aw ab b,E.le aw/\Ext h ab/\bf ⟨W,fun _=>none⟩ aw ab W/\Old ab b/\a.spot=none/\aw b=some ⟨a.block,a.off,cap⟩/\Rd ab b us:=by
 obtain ⟨s1,c,el,bZ,s2,np,zO⟩:=amz a8 aC;have Fo:us.length=l.length:=(bh.length aG).symm;refine ⟨rC E h ⟨a.block,a.off,cap⟩,h.new (.ro us),aj h.next,Nv s _,(Ext.refl h).new _,amY s s2 (by omega) fun i v y ba a1=>?_,U4,s1,Xz _ _ _,.inl (nQ _)⟩;have aq:i<l.length:=by have:=(List.getElem?_eq_some_iff.1 ba).1;omega
 rw [zO i aq] at a1;obtain ⟨xx,aN,aZ⟩:=bh.get aG i v ba;rw [a1] at aN;simp only [Option.some.injEq] at aN;rw [aN];exact aZ
theorem RJ {α:Type} (size:Nat):∀(pieces:List (List α)) (i j:Nat),(∀l ∈ pieces,l.length=size)->i<pieces.length->j<size->pieces.flatten[i * size+j]? =(pieces[i]?).bind (·[j]?)
 | [],i,j,_,aq,_=>by simp at aq
 | l::ls,i,j,af,aq,a6=>by
   have az:l.length=size:=af l (by simp);cases i with
   | zero=>
     rw [Nat.zero_mul,Nat.zero_add,List.flatten_cons,List.getElem?_append_left (by omega)];simp
   | succ i=>
     rw [List.flatten_cons,List.getElem?_append_right (by rw [az,Nat.add_mul];omega)];rw [show (i+1) * size+j-l.length=i * size+j from by rw [az,Nat.add_mul];omega];rw [RJ size ls i j (fun l az=>af l (by simp [az])) (by simpa using aq) a6];simp
theorem RL {α:Type} (size:Nat):∀(pieces:List (List α)),(∀l ∈ pieces,l.length=size)->pieces.flatten.length=pieces.length * size
 | [],_=>by simp
 | l::ls,af=>by rw [List.flatten_cons,List.length_append,RL size ls (fun l az=>af l (by simp [az])),af l (by simp),List.length_cons,Nat.add_mul];omega
theorem Vn {α:Type} (R:Nat->α->Prop):∀(len:Nat),(∀i,i<len->∃l,R i l)->∃bj:List α,bj.length=len/\∀i l,bj[i]? =some l->R i l
 | 0,_=>⟨[],rfl,fun i l q=>by simp at q⟩
 | m+1,h=>by
   obtain ⟨bj,ao,ax⟩:=Vn R m (fun i aq=>h i (by omega));obtain ⟨l,aa⟩:=h m (by omega);refine ⟨bj++[l],by simp [ao],fun i cG fP=>?_⟩;by_cases aq:i<bj.length
   . rw [List.getElem?_append_left aq] at fP;exact ax i cG fP
   . rw [List.getElem?_append_right (by omega)] at fP;have cz:i-bj.length=0:=by
      by_cases q:i-bj.length=0
      . exact q
      . rw [List.getElem?_eq_none (by simp;omega)] at fP;cases fP
     rw [cz] at fP;simp at fP;subst fP;obtain rfl:i=m:=by omega
     exact aa
theorem FO (cK:xm P=true) (eY:laidOutB P=true):∀(n:Nat) (t:TypeId) (cs:List Value) (x:DataW H × List MemPlace),t<P.types.size->DataW.trod enc P W base sp held n t cs=some x->Lays P W n (fV x.1) t cs
 | 0,t,cs,x,_,h=>by simp [DataW.trod] at h
 | n+1,t,cs,x,aT,h=>by
   have DR:∀(cs:List Value),(∀ab ag,ag.length=cs.length->dC P ab (n+1) (fV x.1) t ag)->Lays P W (n+1) (fV x.1) t cs:=by
    intro cs H E h s;refine ⟨E,h,cs.map fun _=>.bad,fun _ _ q=>q,Ext.refl h,s,?_,by simp,H _ _ (by simp)⟩;clear H
    induction cs with
    | nil=>rfl
    | cons c cs bd=>exact ⟨c,cs,rfl,by simp [Rel],bd⟩
   cases hu:P.underlying t with
   | none=>
     refine DR cs fun ab ag _=>?_;simp only [dC,hu]
   | some u=>
     cases u with
     | bool=>
       obtain ⟨b,rfl,_⟩:=DataW.trod_bool hu h;intro E h s;exact ⟨E,h,[.bool b],fun _ _ q=>q,Ext.refl h,s,⟨_,_,rfl,rfl,rfl⟩,rfl,by simp only [dC,hu];exact ⟨b,rfl⟩⟩
     | int k=>
       obtain ⟨i,rfl,_,hw⟩:=DataW.trod_int hu h;intro E h s;exact ⟨E,h,[.int k i],fun _ _ q=>q,Ext.refl h,s,⟨_,_,rfl,rfl,rfl⟩,rfl,by simp only [dC,hu];exact ⟨i,rfl,hw⟩⟩
     | string=>
       obtain ⟨b,rfl,rfl,_⟩:=DataW.trod_string hu h;intro E h s;exact ⟨E,h,[.str b.data.toList],fun _ _ q=>q,Ext.refl h,s,⟨_,_,rfl,rfl,rfl⟩,rfl,by simp only [dC,hu,fV];exact ⟨_,rfl,Nat.le_refl _⟩⟩
     | struct cl=>
       obtain ⟨xs,fW,aQ,rfl,az,y_,aB⟩:=DataW.trod_struct hu h;obtain rfl:n=fW:=by omega
       have af':zV P cl.toList 0=some (P.cellsOf t):=by unfold xm at cK;rw [List.all_eq_true] at cK;have:=cK t (List.mem_range.2 aT);rw [hu] at this;exact of_decide_eq_true this
       have qW:∀(i:Nat) (f:Field) (k:Nat),cl.toList[i]? =some f->(xs.map fun x=>fV x.1)[i]? =some k->Lays P W n k f.type ((cs.drop f.offset).take (P.cellsOf f.type)):=by
        intro i f k aq aD;have oS:f ∈ cl.toList:=List.mem_of_getElem? aq;have iP:cl[i]? =some f:=by simpa using aq
        have:=aB i f iP;have SE:i<xs.length:=by rw [y_];exact (Array.getElem?_eq_some_iff.1 iP).1
        rw [List.getElem?_eq_getElem SE] at this;rw [List.getElem?_map,List.getElem?_eq_getElem SE,Option.map_some,Option.some.injEq] at aD;subst aD;exact FO cK eY n _ _ _ ((kid_struct eY aT hu).1 f oS) this
       intro E h s;obtain ⟨_,g⟩:=TV n cl.toList (xs.map fun x=>fV x.1) 0 _ cs af' az (by simp [y_]) qW;obtain ⟨aw,ab,ag,bN,a2,a3,a4,a5,hN⟩:=g E h s;refine ⟨aw,ab,ag,bN,a2,a3,by simpa using a4,by rw [a5,az];omega,?_⟩;simp only [dC,hu];refine ⟨by omega,xs.map fun x=>fV x.1,by simp [y_],?_,fun i f k oS aD=>⟨?_,by simpa using (hN i f k oS aD).2⟩⟩
       . simp only [fV,IP,List.map_map];exact Nat.le_refl _
       . rw [List.getElem?_map,Option.map_eq_some_iff] at aD;obtain ⟨y,_,rfl⟩:=aD;exact r0 _
     | slice e=>
       rcases DataW.trod_slice hu h with ⟨rfl,rfl⟩ | ⟨a,len,cap,elems,rest,fW,aQ,rfl,rfl,ae,sh,_,Sq,ae4,_,_⟩
       . intro E h s;exact ⟨E,h,[.bU],fun _ _ q=>q,Ext.refl h,s,⟨_,_,rfl,rfl,rfl⟩,rfl,by simp only [dC,hu];exact ⟨r0 _,.inl trivial⟩⟩
       . obtain rfl:n=fW:=by omega
         by_cases aM:P.cellsOf e=0
         . refine DR _ fun ab ag _=>?_;simp only [dC,hu];exact ⟨r0 _,.inr (.inr (.inl aM))⟩
         by_cases nW:len=0
         . subst nW;intro E h s;refine ⟨E,h,[.ic .z 0 0 0],fun _ _ q=>q,Ext.refl h,s,⟨_,_,rfl,?_,rfl⟩,rfl,by simp only [dC,hu];exact ⟨r0 _,.inr (.inl ⟨_,_,_,_,rfl⟩)⟩⟩;simp only [Rel];exact ⟨_,_,rfl⟩
         . -- its elements
           have jD:∀i,i<len->∃l,W.cells? base (a.add (i * P.cellsOf e)) (P.cellsOf e)=some l/\∀k:Nat,(elems.map fun x=>fV x.1)[i]? =some k->Lays P W n k e l:=by intro i aq;have:=ae4 i aq;rw [List.getElem?_eq_getElem (by omega)] at this;rw [Option.bind_eq_some_iff] at this;obtain ⟨l,aa,ad⟩:=this;refine ⟨l,aa,fun k aD=>?_⟩;rw [List.getElem?_map,List.getElem?_eq_getElem (by omega),Option.map_some,Option.some.injEq] at aD;subst aD;exact FO cK eY n _ _ _ (kid_slice eY aT hu) ad
           obtain ⟨pieces,h7,hF⟩:∃pieces:List (List Value),pieces.length=len/\∀i (l:List Value),pieces[i]? =some l->W.cells? base (a.add (i * P.cellsOf e)) (P.cellsOf e)=some l/\∀k:Nat,(elems.map fun x=>fV x.1)[i]? =some k->Lays P W n k e l:=by exact Vn (fun i l=>W.cells? base (a.add (i * P.cellsOf e)) (P.cellsOf e)=some l/\∀k:Nat,(elems.map fun x=>fV x.1)[i]? =some k->Lays P W n k e l) len jD
           have jd:∀(i:Nat) (l:List Value) (k:Nat),pieces[i]? =some l->(elems.map fun x=>fV x.1)[i]? =some k->l.length=P.cellsOf e/\Lays P W n k e l:=by intro i l k aq aD;obtain ⟨ao,ax⟩:=hF i l aq;exact ⟨(D7 ao).1,ax k aD⟩
           have SR:∀l ∈ pieces,l.length=P.cellsOf e:=by intro l az;obtain ⟨i,aq⟩:=List.getElem?_of_mem az;exact (D7 (hF i l aq).1).1
           intro E h s;obtain ⟨ej,aa,us,bN,a2,a3,a4,a5,hN⟩:=TW n (P.cellsOf e) e pieces (elems.map fun x=>fV x.1) (by simp [Sq,h7]) jd E h s;have qW:=RL (P.cellsOf e) pieces SR;have Bw:0<len * P.cellsOf e:=Nat.mul_pos (by omega) (by omega);have vX:∀i,i<pieces.flatten.length->W.cell? (a.add i)=pieces.flatten[i]? :=by
            intro q aA;rw [qW] at aA;have SJ:q % P.cellsOf e<P.cellsOf e:=Nat.mod_lt _ (by omega);have hdiv:q / P.cellsOf e<pieces.length:=Nat.div_lt_of_lt_mul (by rw [Nat.mul_comm];exact aA);have yU:q / P.cellsOf e * P.cellsOf e+q % P.cellsOf e=q:=by rw [Nat.mul_comm];exact Nat.div_add_mod q _
            rw [<-yU,RJ (P.cellsOf e) pieces _ _ SR hdiv SJ,List.getElem?_eq_getElem hdiv];obtain ⟨ao,_⟩:=hF _ _ (List.getElem?_eq_getElem hdiv);have:=(D7 ao).2 _ SJ;rw [Option.bind_some,<-this];congr 1;unfold Addr.add;by_cases b6:q / P.cellsOf e * P.cellsOf e=0
            . rw [b6];simp
            . by_cases z2:q % P.cellsOf e=0
              . rw [z2];simp
              . have z3:¬(q / P.cellsOf e * P.cellsOf e+q % P.cellsOf e=0):=by omega
                rw [if_neg b6,if_neg z2,if_neg z3];simp [Nat.add_assoc]
           obtain ⟨bL,ad,b,cn,ch,gk,l8,l9,nJ,DP⟩:=XA a3 (cap:=cap) (by rw [qW,h7];exact Bw) vX a4;refine ⟨bL,ad,[.slice b 0 len cap],bN.trans cn,a2.trans ch,gk,⟨_,_,rfl,?_,rfl⟩,rfl,?_⟩
           . simp only [Rel];refine ⟨_,nJ,sh,?_⟩;obtain ⟨aai,ak4,st⟩:=a;simp only at l9;subst l9;rfl
           . simp only [dC,hu];refine ⟨r0 _,.inr (.inr (.inr ⟨b,len,cap,rfl,by omega,sh,l8,us,DP,by rw [a5,h7],elems.map fun x=>fV x.1,by simp [Sq],?_,fun i k aD=>⟨?_,dC.ext ch _ _ _ _ (hN i k aD)⟩⟩))⟩
             . simp only [fV,IP,List.map_map];exact Nat.add_le_add_right (Nat.le_add_right _ _) 1
             . rw [List.getElem?_map,Option.map_eq_some_iff] at aD;obtain ⟨y,_,rfl⟩:=aD;exact r0 _
     | pointer e=>
       rcases DataW.trod_pointer hu h with ⟨rfl,rfl⟩ | ⟨a,nL,y,fW,aQ,rfl,rfl,aC,a1⟩
       . intro E h s;exact ⟨E,h,[.dX],fun _ _ q=>q,Ext.refl h,s,⟨_,_,rfl,rfl,rfl⟩,rfl,by simp only [dC,hu];exact ⟨r0 _,.inl trivial⟩⟩
       . obtain rfl:n=fW:=by omega
         by_cases aM:P.cellsOf e=0
         . refine DR _ fun ab ag _=>?_;simp only [dC,hu];exact ⟨r0 _,.inr (.inl aM)⟩
         . intro E h s;obtain ⟨ao,ax⟩:=D7 aC;obtain ⟨ej,aa,us,bN,a2,a3,a4,a5,hN⟩:=FO cK eY n _ _ _ (kid_pointer eY aT hu) a1 E h s;obtain ⟨bL,ad,b,cn,ch,gk,l8,l9,nJ,DP⟩:=XA a3 (cap:=0) (by omega) (fun i aq=>ax i (by omega)) a4;refine ⟨bL,ad,[.ptr b 0],bN.trans cn,a2.trans ch,gk,⟨_,_,rfl,?_,rfl⟩,rfl,?_⟩
           . simp only [Rel];refine ⟨_,nJ,?_⟩;obtain ⟨aai,ak4,st⟩:=a;simp only at l9;subst l9;rfl
           . simp only [dC,hu];exact ⟨r0 _,.inr (.inr ⟨b,rfl,l8,us,DP,by omega,_,Nat.le_refl _,dC.ext ch _ _ _ _ hN⟩)⟩
     | map k e=>
       have hh:cs.length=1:=by
        unfold DataW.trod at h;rw [hu] at h
        split at h<;>simp_all
       intro E h s;refine ⟨E,h,[.bad],fun _ _ q=>q,Ext.refl h,s,?_,by simp [hh],by simp only [dC,hu];exact .inr trivial⟩
       match cs,hh with
       | [c],_=>exact ⟨c,[],rfl,by simp [Rel],rfl⟩
     | interface ms=>
       have hh:cs.length=1:=by
        unfold DataW.trod at h;rw [hu] at h
        split at h<;>simp_all
       intro E h s;refine ⟨E,h,[.bad],fun _ _ q=>q,Ext.refl h,s,?_,by simp [hh],by simp only [dC,hu];exact .inr trivial⟩
       match cs,hh with
       | [c],_=>exact ⟨c,[],rfl,by simp [Rel],rfl⟩
     | _=>
       refine DR cs fun ab ag _=>?_;simp only [dC,hu]
def oD (P:Program) (h:ah) (n m:Nat) (t:TypeId) (v:V):Prop:=
 match P.underlying t with
 | some (.struct _) | some (.array _ _)=>∃ag,v=.agg ag/\dC P h n m t ag
 | _=>dC P h n m t [v]
theorem oD.ext {h ab:ah} (e:Ext h ab) {n m:Nat} {t:TypeId} {v:V} (H:oD P h n m t v):oD P ab n m t v:=by
 unfold oD at H ⊢
 split at H
 . obtain ⟨ag,ao,ax⟩:=H;exact ⟨ag,ao,dC.ext e _ _ _ _ ax⟩
 . obtain ⟨ag,ao,ax⟩:=H;exact ⟨ag,ao,dC.ext e _ _ _ _ ax⟩
 . exact dC.ext e _ _ _ _ H
theorem ajI (cK:xm P=true) (eY:laidOutB P=true) {r:Reach} {vr:Nat} {t:TypeId} {v:Value} {d:DataW H} {p:List MemPlace} (aT:t<P.types.size) (bF:Value.okWide P W r vr t v) (bb:DataW.Trod enc P W base sp held t v d p) {E:Env} {h:ah} (s:bf ⟨W,fun _=>none⟩ E h W):
 ∃n aw ab x,E.le aw/\Ext h ab/\bf ⟨W,fun _=>none⟩ aw ab W/\Rel aw x v/\oD P ab n (fV d) t x:=by
 obtain ⟨fuel,aB⟩:=bb;obtain ⟨aw,ab,ag,bN,a2,a3,a4,a5,hN⟩:=FO cK eY _ _ _ _ aT aB E h s;have agg:(∃cs,v=.agg cs)->∃x,Rel aw x v/\x=.agg ag:=by rintro ⟨cs,rfl⟩;exact ⟨.agg ag,by simp only [Rel];exact ⟨cs,rfl,a4⟩,rfl⟩
 have one:v.cells=#[v]->∃x,Rel aw x v/\ag=[x]:=by
  intro aC;rw [aC] at a4 a5
  match ag,a4,a5 with
  | [x],⟨y,cT,aN,aZ,bJ⟩,_=>
    simp only [List.cons.injEq] at aN;exact ⟨x,aN.1 ▸ aZ,rfl⟩
 refine ⟨fuel,aw,ab,?_⟩;unfold Value.okWide at bF;cases hu:P.underlying t with
 | none=>
   rw [hu] at bF;simp only [Cell.okWide,Cell.ok,hu] at bF
 | some u=>
   rw [hu] at bF;unfold oD;rw [hu];cases u<;>simp only at bF ⊢<;>first
    | (obtain ⟨cs,ba,_⟩:=bF
       obtain ⟨x,ao,ax⟩:=agg ⟨cs,ba⟩;exact ⟨x,bN,a2,a3,ao,ag,ax,hN⟩)
    | (have aC:v.cells=#[v]:=by
        cases v<;>first
         | rfl
         | (simp only [Cell.okWide,Cell.ok,hu] at bF)
       obtain ⟨x,ao,ax⟩:=one aC;exact ⟨x,bN,a2,a3,ao,ax ▸ hN⟩)
def nE (P:Program) (h:ah):Nat->List TypeId->List V->Prop
 | _,[],[]=>True
 | m,t::cJ,v::ag=>∃k bo,k+bo<=m/\(∃n,oD P h n k t v)/\nE P h bo cJ ag
 | _,_,_=>False
theorem nE.mono {h:ah}:∀{m cj:Nat} {cJ:List TypeId} {ag:List V},m<=cj->nE P h m cJ ag->nE P h cj cJ ag
 | _,_,[],[],_,H=>by unfold nE;trivial
 | _,_,[],_::_,_,H=>H.elim
 | _,_,_::_,[],_,H=>H.elim
 | _,_,_::_,_::_,hm,⟨k,bo,aD,H,ku⟩=>⟨k,bo,Nat.le_trans aD hm,H,ku⟩
theorem TU (cK:xm P=true) (eY:laidOutB P=true) {r:Reach} {vr:Nat}:∀{cJ:List TypeId} {ag:List Value} {ds:List (DataW H)} {p:List MemPlace},(∀t ∈ cJ,t<P.types.size)->(∀(j:Nat) t v,cJ[j]? =some t->ag[j]? =some v->Value.okWide P W r vr t v)->
 DataW.TrodAll enc P W base sp held cJ ag ds p->∀{E:Env} {h:ah},bf ⟨W,fun _=>none⟩ E h W->∃aw ab xs,E.le aw/\Ext h ab/\bf ⟨W,fun _=>none⟩ aw ab W/\bh aw xs ag/\nE P ab (l' ds) cJ xs
 | [],[],ds,p,_,_,_,E,h,s=>⟨E,h,[],fun _ _ q=>q,Ext.refl h,s,rfl,by unfold nE;trivial⟩
 | [],_::_,ds,p,_,_,bb,E,h,s=>by cases ds<;>exact bb.elim
 | _::_,[],ds,p,_,_,bb,E,h,s=>by cases ds<;>exact bb.elim
 | _::_,_::_,[],p,_,_,bb,E,h,s=>bb.elim
 | t::cJ,v::ag,d::ds,p,au,ba,⟨b0,b1,aa,ad,_⟩,E,h,s=>by obtain ⟨n,ej,g1,x,bN,a2,a3,a4,a5⟩:=ajI cK eY (au t (by simp)) (ba 0 t v rfl rfl) aa s;obtain ⟨bL,g2,xs,cn,ch,gk,l8,l9⟩:=TU cK eY (fun t q=>au t (by simp [q])) (fun j t v ao ax=>ba (j+1) t v (by simpa using ao) (by simpa using ax)) ad a3;exact ⟨bL,g2,x::xs,bN.trans cn,a2.trans ch,gk,⟨_,_,rfl,Rel.mono cn _ _ a4,l8⟩,fV d,l' ds,by simp only [l'];exact Nat.le_refl _,⟨n,a5.ext ch⟩,l9⟩
theorem abw (cK:xm P=true) (eY:laidOutB P=true) {r:Reach} {vr:Nat} {f:FuncId} {cJ:List TypeId} {ag:List Value} {ds:List (DataW H)} {p:List MemPlace} (fx:∀t ∈ cJ,t<P.types.size) (ba:∀(j:Nat) t v,cJ[j]? =some t->ag[j]? =some v->Value.okWide P W r vr t v)
 (bb:DataW.TrodAll enc P W base sp held cJ ag ds p) (vS:Lay.ok W) (bH:eF P) (ae:∃fn,P.funcs[f]? =some fn/\fn.body.isSome=true) (aC:∀(h:ah) (xs:List V),nE P h (l' ds) cJ xs->c4 P f xs h fun y _=>y=.bool true):
 Calls P f ag.toArray W fun e w'=>e=.returned (.bool true)/\Below W.heap.size W w':=by
 obtain ⟨E,h,xs,_,_,a3,a4,a5⟩:=TU cK eY fx ba bb (WD W vS);obtain ⟨y,ab,hQ,rfl⟩:=aC h xs a5;refine (hQ.calls bH ae _ E W ag a4 a3).mono fun e w' q=>?_;obtain ⟨aw,x,rfl,_,ax,aL⟩:=q;simp only [Rel] at ax;subst ax;exact ⟨rfl,aL.frame⟩
end
end
section
open Go Go.RowKit
variable [Lay]
section
variable {P:Program} {h:ah} {n m:Nat} {t:TypeId}
theorem dC.pos {ag:List V} (H:dC P h n m t ag):∃k,n=k+1:=by
 cases n with
 | zero=>exact H.elim
 | succ m=>exact ⟨m,rfl⟩
theorem dC.int {ag:List V} {k:IntKind} (H:dC P h n m t ag) (hu:P.underlying t=some (.int k)):∃i,ag=[.int k i]/\(Lit.int k i).wf=true:=by obtain ⟨m,rfl⟩:=H.pos;simpa only [dC,hu] using H
theorem dC.str {ag:List V} (H:dC P h n m t ag) (hu:P.underlying t=some .string):∃s:List UInt8,ag=[.str s]/\s.length+1<=m:=by obtain ⟨_,rfl⟩:=H.pos;simpa only [dC,hu] using H
theorem dC.struct {ag:List V} {cl:Array Field} (H:dC P h n m t ag) (hu:P.underlying t=some (.struct cl)):∃fW,n=fW+1/\ag.length=P.cellsOf t/\∃ms:List Nat,ms.length=cl.toList.length/\ms.sum+1<=m/\
 ∀(i:Nat) (f:Field) (k:Nat),cl.toList[i]? =some f->ms[i]? =some k->1<=k/\dC P h fW k f.type ((ag.drop f.offset).take (P.cellsOf f.type)):=by
 obtain ⟨fW,rfl⟩:=H.pos;refine ⟨fW,rfl,?_⟩;simpa only [dC,hu] using H
def sX (v:V):Prop:=∀b off l c,v=.slice b off l c->l<=c
def Dw (h:ah) (size:Nat) (v:V) (len m:Nat) (Q:Nat->List V->Prop):Prop:=
 v.one=true/\v.cells=[v]/\v.fI=true/\mm v=some (.int .i64 len)/\sX v/\∃(us:List V) (ms:List Nat),gy h size v len us/\ms.length=len/\ms.sum+1<=m/\∀(i k:Nat),ms[i]? =some k->1<=k/\Q k ((us.drop (i * size)).take size)
theorem dC.slice {ag:List V} {e:TypeId} (H:dC P h n m t ag) (hu:P.underlying t=some (.slice e)) (aM:P.cellsOf e≠0):∃fW v len,n=fW+1/\ag=[v]/\Dw h (P.cellsOf e) v len m (fun k=>dC P h fW k e):=by
 obtain ⟨fW,rfl⟩:=H.pos;simp only [dC,hu] at H;obtain ⟨a8,H⟩:=H;rcases H with rfl | ⟨b,i,j,k,rfl⟩ | q | ⟨b,len,cap,rfl,aa,ad,bt,us,bK,bT,ms,en,gg,km⟩
 . exact ⟨fW,_,0,rfl,rfl,rfl,rfl,rfl,rfl,(fun _ _ _ _ e=>by cases e),[],[],⟨by simp,rfl⟩,rfl,by simpa using a8,fun i k aq=>by simp at aq⟩
 . exact ⟨fW,_,0,rfl,rfl,rfl,rfl,rfl,rfl,(fun _ _ _ _ e=>by cases e),[],[],⟨by simp,rfl⟩,rfl,by simpa using a8,fun i k aq=>by simp at aq⟩
 . exact absurd q aM
 . exact ⟨fW,_,len,rfl,rfl,rfl,rfl,rfl,rfl,(fun _ _ _ _ e=>by cases e;exact ad),us,ms,⟨bT,rfl,bt,us,bK,by omega,by simp⟩,en,gg,km⟩
end
end
section
open Go Go.RowKit Go.ChangeShapes Go.WideShapes
variable [Lay]
section
variable {H:Type} {enc:TypeId × Value->H} {P:Program}
theorem Pm (eY:laidOutB P=true) {W ke:World} (ae:Below W.heap.size W ke):∀{cJ:List TypeId} {ag:List Value} {ds:List (DataW H)} {bj:List MemPlace},(cJ.all fun t=>P.readableRec t&&decide (t<P.types.size))=true->
 DataW.TrodAll enc P W 0 (fun _=>true) true cJ ag ds bj->DataW.TrodAll enc P ke 0 (fun b=>decide (b<W.heap.size)) true cJ ag ds bj
 | [],[],[],_,_,h=>h
 | [],_::_,_,_,_,h=>by rename_i ds _;cases ds<;>exact h.elim
 | [],[],_::_,_,_,h=>h.elim
 | _::_,[],_,_,_,h=>by rename_i ds _;cases ds<;>exact h.elim
 | _::_,_::_,[],_,_,h=>h.elim
 | t::cJ,v::ag,d::ds,bj,aG,h=>by have aT:=h.lt;obtain ⟨p,q,aa,ad,rfl⟩:=h;simp only [List.all_cons,Bool.and_eq_true,decide_eq_true_eq] at aG;exact ⟨p,q,Below.trod eY aG.1.1 aG.1.2 aa ae (fun x ai=>aT x (by simp [ai])),Pm eY ae aG.2 ad,rfl⟩
theorem Xk {W:World} {base:Nat} {sp:Nat->Bool} {held:Bool}:∀{cJ:List TypeId} {ag:List Value} {ds:List (DataW H)} {bj:List MemPlace},DataW.TrodAll enc P W base sp held cJ ag ds bj->ds.length=cJ.length
 | [],[],[],_,_=>rfl
 | [],_::_,ds,_,h=>by cases ds<;>exact h.elim
 | [],[],_::_,_,h=>h.elim
 | _::_,[],ds,_,h=>by cases ds<;>exact h.elim
 | _::_,_::_,[],_,h=>h.elim
 | t::cJ,v::ag,d::ds,bj,h=>by obtain ⟨p,q,aa,ad,rfl⟩:=h;simp [Xk ad]
theorem ajx (cK:xm P=true) (eY:laidOutB P=true) {f:FuncId} {fn:Func} {s:ChangeSpec} {ou:TypeId} (fx:(fn.params.toList.all fun t=>P.readableRec t&&decide (t<P.types.size))=true) (Td:s.vars=[]) (afY:fn.resultTypes=#[ou]) (su:P.underlying ou=some .bool)
 (K_:∀ds:List (DataW H),ds.length=fn.params.size->s.fn H (ds++[])={results:=[.lit (.bool true)],args:=ds})
 {B:Nat} (aC:∀(h:ah) (xs:List V),nE P h B fn.params.toList xs->c4 P f xs h fun y _=>y=.bool true)
 {W:World} {base:Nat} {args:Array Value} {ds gs:List (DataW H)} {before:List MemPlace} (aD:l' (ds++gs)<=B) (k4:Lay.ok W) (bH:eF P) (ae:∃fn,P.funcs[f]? =some fn/\fn.body.isSome=true)
 (Lc:∀(j:Nat) t v,fn.params[j]? =some t->args[j]? =some v->Value.okWide P W .any base t v) (vS:DataW.Whole enc P fn.params.toList s.vars false W args.toList ds gs before):
 Calls P f args W fun e ke=>∃v,e=.returned v/\s.post enc P fn false true false false W args v ke:=by
 have aep:=vS;obtain ⟨p,q,hP,Sd,rfl,qX,oV⟩:=vS;rw [Td] at Sd;obtain ⟨rfl,rfl⟩:=trodVars_none Sd;have hlen:ds.length=fn.params.size:=by rw [Xk hP];simp
 have hw:=abw cK eY (vr:=base) (r:=.any) (fun t au=>by have:=List.all_eq_true.1 fx t au;simp only [Bool.and_eq_true,decide_eq_true_eq] at this;exact this.2) (fun j t v aa ad=>Lc j t v (by simpa using aa) (by simpa using ad)) hP k4 bH ae (fun h xs q=>aC h xs (q.mono (by simpa using aD)));simp only [Array.toArray_toList] at hw;refine hw.mono fun e ke ⟨he,Pl⟩=>?_;subst he;refine ⟨_,rfl,ds,[],p++[],[],p,[],aep,?_,?_,?_,Pl.frame _,fun h=>by cases h⟩
 . rw [K_ ds hlen,afY];exact trodAll_mk1 (shut_bool su _)
 . rw [K_ ds hlen];exact Pm eY Pl fx hP
 . rw [K_ ds hlen,Td];rfl
end
end
section
open Go Go.RowKit
variable [Lay]
theorem amS {P:Program} {h:ah} {B:Nat} {xs:List V} (aM:nE P h B [] xs):xs=[]:=by
 match xs,aM with
 | [],_=>rfl
theorem M1 {P:Program} {h:ah} {B:Nat} {t:TypeId} {cJ:List TypeId} {xs:List V} (aM:nE P h B (t::cJ) xs):∃a DC k bo n,xs=a::DC/\k+bo<=B/\oD P h n k t a/\nE P h bo cJ DC:=by
 match xs,aM with
 | a::DC,⟨k,bo,aD,⟨n,a8⟩,aa⟩=>exact ⟨a,DC,k,bo,n,rfl,aD,a8,aa⟩
section
variable {P:Program} {h:ah} {n m:Nat} {t:TypeId} {v:V}
theorem WC {cl:Array Field} (aM:oD P h n m t v) (hu:P.underlying t=some (.struct cl)):∃ag,v=.agg ag/\dC P h n m t ag:=by unfold oD at aM;rw [hu] at aM;exact aM
theorem amT {e:TypeId} (aM:oD P h n m t v) (hu:P.underlying t=some (.slice e)) {c:Nat} (aC:P.cellsOf e=c) (yB:c≠0):∃fW len,Dw h c v len m (fun k=>dC P h fW k e):=by unfold oD at aM;rw [hu] at aM;subst aC;obtain ⟨fW,w,len,_,aN,g⟩:=dC.slice aM hu yB;simp only [List.cons.injEq,and_true] at aN;subst aN;exact ⟨fW,len,g⟩
end
end
section
open Go Go.RowKit
set_option linter.defProp false
variable [Lay]
end
section
open Go Go.RowKit
variable [Lay]
theorem ab4 {P:Program} {aI:List hL} {r:bc} {h:ah} {Q:db->bc->ah->Prop} {a b:aS}:x' P (.bool true) a b aI r h Q=bl P (.c a::aI) .normal r h Q:=by rw [QJ];simp
theorem ab3 {P:Program} {aI:List hL} {r:bc} {h:ah} {Q:db->bc->ah->Prop} {a b:aS}:x' P (.bool false) a b aI r h Q=bl P (.c b::aI) .normal r h Q:=by rw [QJ];simp
theorem Pn (a b:List UInt8):pI a b=decide (a=b):=by rw [vs,Bool.eq_iff_iff];simp
theorem IK (k:IntKind) (b:Int) (d y:Nat):bound (some (.int k b)) d y=if 0<=b/\b<=(y:Int) then some b.toNat else none:=by simp only [bound,V.eo,o8];by_cases aa:0<=b<;>by_cases ad:b<=(y:Int)<;>simp [aa,ad]
theorem am3 (s:List UInt8) (k:IntKind) (b:Int):mw (.str s) none (some (.int k b)) none=if 0<=b/\b<=(s.length:Int) then some (.str (s.take b.toNat)) else none:=by
 simp only [mw,IK];by_cases h:0<=b/\b<=(s.length:Int)
 . simp only [h,and_self,if_true,bound,List.drop_zero,Nat.sub_zero]
 . simp only [h,if_false]
theorem am4 (s:List UInt8) (k:IntKind) (a:Int):mw (.str s) (some (.int k a)) none none=if 0<=a/\a<=(s.length:Int) then some (.str (s.drop a.toNat)) else none:=by
 simp only [mw,AO,IK];by_cases h:0<=a/\a<=(s.length:Int)
 . simp only [h,and_self,if_true];rw [List.take_of_length_le (by rw [List.length_drop];omega)]
 . simp only [h,if_false]
theorem am6 (s:List UInt8) (k bo:IntKind) (a b:Int):mw (.str s) (some (.int k a)) (some (.int bo b)) none=if 0<=a/\a<=b/\b<=(s.length:Int) then some (.str ((s.drop a.toNat).take (b.toNat-a.toNat))) else none:=by
 simp only [mw,IK];by_cases h:0<=b/\b<=(s.length:Int)
 . simp only [h,and_self,if_true];by_cases ad:0<=a/\a<=b
   . have:0<=a/\a<=((b.toNat:Nat):Int):=by omega
     simp only [this,and_self,if_true,ad,h]
   . have aH:¬(0<=a/\a<=((b.toNat:Nat):Int)):=by omega
     have bt:¬(0<=a/\a<=b/\b<=(s.length:Int)):=by omega
     have cI:¬(0<=a/\a<=b/\True):=fun q=>ad ⟨q.1,q.2.1⟩;rw [if_neg cI,if_neg aH]
 . have bt:¬(0<=a/\a<=b/\b<=(s.length:Int)):=by omega
   simp only [h,bt,if_false]
theorem am1 (s:List UInt8):mw (.str s) none none none=some (.str s):=by simp only [mw,AO,List.drop_zero,Nat.sub_zero,List.take_length]
section
variable {P:Program}
theorem amK (a b:List UInt8):(eK.str .eql).run P (.str a) (.str b)=some (.bool (decide (a=b))):=by simp only [eK.run,s3,ry,Pn]
theorem amJ (a b:List UInt8):(eK.str .add).run P (.str a) (.str b)=if a.length+b.length<=top then some (.str (a++b)) else none:=by
 simp only [eK.run,s3,G3];by_cases h:a.length+b.length<=top
 . rw [if_pos h,show Nat.ble (a.length+b.length) top=true from by rw [Nat.ble_eq];exact h];rfl
 . rw [if_neg h,show Nat.ble (a.length+b.length) top=false from by rw [<-Bool.not_eq_true,Nat.ble_eq];exact h];rfl
theorem amL (s:List UInt8) (k:IntKind) (i:Int):sB.run (.str s) (.int k i)=if 0<=i/\i < (s.length:Int) then some (.int .u8 (((s[i.toNat]?).getD 0).toNat:Int)) else none:=by
 simp only [sB,V.eo,o8];by_cases aa:0<=i
 . simp only [aa,decide_true,cond_true,true_and];by_cases ad:i < (s.length:Int)
   . rw [if_pos ad,List.getElem?_eq_getElem (by omega)];rfl
   . rw [if_neg ad,List.getElem?_eq_none (by omega)]
 . simp only [aa,decide_false,cond_false,false_and,if_false]
theorem GM (a b:List UInt8):(eK.str .neq).run P (.str a) (.str b)=some (.bool (!decide (a=b))):=by simp only [eK.run,s3,ry,Pn]
end
end
section
open Go Go.RowKit
set_option linter.defProp false
def aoF:=
 And.intro @ah7<|And.intro @ahd<|And.intro @aih<|And.intro @ahe<|And.intro @aic<|And.intro @aii<|And.intro @aid<|And.intro @ahy<|And.intro @aho<|And.intro @ahl<|And.intro @ahm<|And.intro @ahV<|And.intro @ahu<|And.intro @ah_<|And.intro @ah3<|And.intro @ai9<|And.intro @aib<|And.intro @aje<|And.intro @ahi<|And.intro @aiA<|And.intro @ahL<|And.intro @aiV<|And.intro @ahM<|And.intro @aiW<|And.intro @ah8<|And.intro @aja<|And.intro @ahc<|And.intro @aix<|And.intro @ain<|And.intro @ajk<|And.intro @ahD<|And.intro @aiP<|And.intro @ahI<|And.intro @aiS<|And.intro @aik<|And.intro @aji<|And.intro @aij<|And.intro @ajh<|And.intro @ahA<|@aiM
def aoG:=
 And.intro @ahB<|And.intro @aiN<|And.intro @ahC<|And.intro @aiO<|And.intro @ahG<|And.intro @aiQ<|And.intro @ahH<|And.intro @aiR<|And.intro @ahK<|And.intro @aiU<|And.intro @ahJ<|And.intro @aiT<|And.intro @ahS<|And.intro @ai1<|And.intro @ahz<|And.intro @aiL<|And.intro @ah1<|And.intro @ai8<|And.intro @ah4<|And.intro @ai'<|And.intro @ahq<|And.intro @aiG<|And.intro @ahP<|And.intro @aiZ<|And.intro @ahQ<|And.intro @ai0<|And.intro @ahN<|And.intro @aiX<|And.intro @ah6<|And.intro @ai_<|And.intro @ahg<|And.intro @aiy<|And.intro @ahh<|And.intro @aiz<|And.intro @ail<|And.intro @ajj<|And.intro @ah0<|And.intro @ai7<|And.intro @aio<|@ajl
def aoH:=
 And.intro @ahZ<|And.intro @ai6<|And.intro @aif<|And.intro @ajg<|And.intro @ah9<|And.intro @ajb<|And.intro @ag_<|And.intro @aiv<|And.intro @ahn<|And.intro @aiE<|And.intro @ahO<|And.intro @aiY<|And.intro @ahp<|And.intro @aiF<|And.intro @ahs<|And.intro @aiI<|And.intro @ahr<|And.intro @aiH<|And.intro @aiB<|And.intro @aiC<|And.intro @TK<|And.intro @ahj<|@aht
def aoI:=
 And.intro @anw<|And.intro @am'<|And.intro @ab4<|And.intro @ab3<|And.intro @D4<|And.intro @amx<|And.intro @aal<|And.intro @aak<|And.intro @alz<|And.intro @ac7<|And.intro @ac6<|And.intro @aao<|And.intro @acV<|And.intro @acU<|And.intro @alR<|And.intro @ac2<|And.intro @ak_<|And.intro @ak'<|And.intro @ajT<|And.intro @ajR<|And.intro @ajU<|And.intro @ajS<|And.intro @ajV<|And.intro @FC<|And.intro @Tr<|And.intro @ach<|And.intro @acX<|And.intro @acW<|And.intro @an3<|And.intro @amP<|And.intro @amQ<|And.intro @ak5<|And.intro @ak6<|And.intro @aly<|And.intro @alv<|And.intro @aot<|And.intro @aos<|And.intro @aaa<|And.intro @aab<|@aac
def aoJ:=
 And.intro @aad<|And.intro @Z_<|And.intro @Yh<|And.intro @Yj<|And.intro @Yi<|And.intro @an0<|And.intro @an2<|And.intro @an1<|And.intro @agY<|And.intro @ag0<|And.intro @agZ<|And.intro @ag'<|And.intro @aim<|And.intro @ah2<|And.intro @ahw<|And.intro @ah5<|And.intro @ahW<|And.intro @ahR<|And.intro @ahF<|And.intro @ahE<|And.intro @ahb<|And.intro @ahf<|And.intro @aoa<|And.intro @an_<|And.intro @aj8<|And.intro @aj'<|And.intro @TY<|And.intro @TZ<|And.intro @FP<|And.intro @T4<|And.intro @ano<|And.intro @ajy<|And.intro @nQ<|And.intro @iL<|And.intro @dv<|And.intro @sP<|And.intro @gF<|And.intro @oe<|And.intro @akG<|@abB
def aoK:=
 And.intro @alb<|And.intro @adJ<|And.intro @abF<|And.intro @L_<|And.intro @adN<|And.intro @abO<|And.intro @Ma<|And.intro @adW<|And.intro @abK<|And.intro @alj<|And.intro @adS<|And.intro @abM<|And.intro @alm<|And.intro @adU<|And.intro @abN<|And.intro @aln<|And.intro @adV<|And.intro @abD<|And.intro @ald<|And.intro @adL<|And.intro @abP<|And.intro @alo<|And.intro @adX<|And.intro @abL<|And.intro @alk<|And.intro @adT<|And.intro @abJ<|And.intro @ali<|And.intro @adR<|And.intro @abG<|And.intro @alf<|And.intro @adO<|And.intro @abC<|And.intro @alc<|And.intro @adK<|And.intro @abI<|And.intro @alh<|And.intro @adQ<|And.intro @abE<|@ale
def aoL:=
 And.intro @adM<|And.intro @abH<|And.intro @alg<|And.intro @adP<|And.intro @abA<|And.intro @adI<|And.intro @adY<|And.intro @ajM<|And.intro @ajN<|And.intro @ajL<|And.intro @beq_true<|And.intro @beq_false<|And.intro @Bool.not_true<|And.intro @Bool.not_false<|And.intro @Bool.true_and<|And.intro @Bool.and_true<|And.intro @Bool.false_and<|And.intro @Bool.and_false<|And.intro @Bool.not_not<|And.intro @V.bool.injEq<|And.intro @Nat.zero_add<|And.intro @Nat.add_zero<|And.intro @anT<|And.intro @anU<|And.intro @anS<|And.intro @Bool.true_eq_false<|And.intro @Bool.false_eq_true<|And.intro @anZ<|And.intro @al4<|And.intro @al5<|And.intro @ZZ<|And.intro @ZY<|And.intro @ZV<|And.intro @ZS<|And.intro @aeS<|And.intro @aeU<|And.intro @aeT<|And.intro @ZT<|And.intro @ZU<|@ZW
def aoM:=
 And.intro @ZX<|And.intro @sM<|And.intro @aoS<|And.intro @qa<|And.intro @aoT<|And.intro @Gc<|And.intro @aoU<|And.intro @UR<|And.intro @aoV<|And.intro @L5<|And.intro @aoW<|And.intro @ak0<|And.intro @aoX<|And.intro @ak1<|And.intro @aoY<|And.intro @ak2<|And.intro @aoZ<|And.intro @adE<|And.intro @adB<|And.intro @adD<|And.intro @adC<|And.intro @adF<|And.intro @Bool.or_false<|And.intro @Bool.false_or<|And.intro @Bool.or_true<|And.intro @Bool.true_or<|And.intro @akO<|And.intro @akn<|And.intro @akw<|And.intro @alw<|And.intro @alx<|And.intro @Zm<|And.intro @Zs<|And.intro @Zt<|And.intro @Zu<|And.intro @Zv<|And.intro @Zw<|And.intro @Zx<|And.intro @Zy<|@Zz
def aoN:=
 And.intro @Zl<|And.intro @Zn<|And.intro @Zo<|And.intro @Zp<|And.intro @Zq<|And.intro @Zr<|And.intro @am3<|And.intro @am4<|And.intro @am6<|And.intro @am1<|And.intro @amK<|And.intro @GM<|And.intro @amJ<|@amL
end
section
open Go Go.RowKit
variable [Lay]
theorem vo {B:Nat} {h:ah} {size:Nat} {s:V} {n:Nat} {us cs:List V} (b':1<=size) (H1:dW B h size s n us) (dc:B<=h.next) (hlen:(n+1) * size<=top) (hh:cs.length=size) (aX:fJ cs=true):
 ∃v ab,lr size s (.slice (aj h.next) 0 1 1) (h.new (.bx cs 0 false))=.val v ab/\dW B ab size v (n+1) (us++cs)/\Mod s.aW h ab/\h.next+1<=ab.next/\∀b,v.aW b->s.aW b\/h.next<dr b:=by
 have ai:Ext h (h.new (.bx cs 0 false)):=(Ext.refl h).new _;have ba:gy (h.new (.bx cs 0 false)) size (.slice (aj h.next) 0 1 1) 1 cs:=by refine ⟨by rw [hh];omega,rfl,gi (by rw [gF];omega),cs,.inr ⟨0,false,by rw [nQ]⟩,by omega,by simp⟩
 obtain ⟨v,ab,ao,ax,aL,bY⟩:=O8 b' (H1.ext ai) ba (by rw [gF];omega) hlen aX;refine ⟨v,ab,ao,ax,(ai.mod _).trans aL,by have:=aL.next;rw [gF] at this;exact this,fun b ae=>?_⟩;rcases bY b ae with q | q
 . exact .inl q
 . exact .inr (by rw [gF] at q;omega)
theorem Xn:∀l:List UInt8,ov (ik l)=some l
 | []=>rfl
 | c::l=>by have bd:=Xn l;simp only [ik,ov,bd];simp
theorem DZ:∀l:List UInt8,(ik l).length=l.length
 | []=>rfl
 | c::l=>by simp only [ik,List.length_cons,DZ l]
theorem Py:∀l m:List UInt8,ik (l++m)=ik l++ik m
 | [],m=>rfl
 | c::l,m=>by simp only [ik,List.cons_append,Py l m]
theorem WT {h:ah} {b:aO} {us:List V} {cX:Nat} {st:Bool} {off:Nat} {l:List UInt8} (aF:h.get b=.bx us cX st) (az:off+l.length<=us.length) (hu:(us.drop off).take l.length=ik l):uT b off l.length h=.val (.str l) h:=by unfold uT;rw [aF];simp only [b9.pn,b9.bx];rw [show Nat.ble (off+l.length) us.length=true from by rw [Nat.ble_eq];exact az];simp only [cond_true];rw [EI us l.length off az,hu,Xn]
theorem QL {B:Nat} {h:ah} {v:V} {n:Nat} {l:List UInt8} (H:dW B h 1 v n (ik l)):tD.run v h=.val (.str l) h:=by
 have aa:=H.1;rw [DZ,Nat.mul_one] at aa;have ad:=H.2;cases v<;>simp only at ad<;>try (exact ad.elim)
 case bU=>
  subst ad;rw [List.length_eq_zero_iff] at aa;subst aa;rfl
 case slice=>
  obtain ⟨ao,ax,aL,bY,ee,us,cX,st,fQ,iV,nk⟩:=ad;rw [DZ] at nk;simp only [tD];rw [ao,<-aa];exact WT fQ (by omega) nk
 case ez=>
  obtain ⟨ao,ax,aL,bY,ee,us,st,fQ,iV,nk⟩:=ad;rw [DZ] at nk iV;simp only [tD];rw [ao,bY,<-aa];exact WT fQ (by omega) (by simpa using nk)
theorem Mod.self {b:aO} {h ab:ah} (e:Mod (fun q=>q=b) h ab) (k:b9):Mod (fun q=>q=b) h (ab.set b k):=e.set (fun _=>rfl) k
theorem Mod.fresh {M:aO->Prop} {h ab:ah} (e:Mod M h ab) {i:Nat} (aq:h.next<=i) (k:b9):Mod M h (ab.set (aj i) k):=
 e.set (fun q=>absurd (show dr (aj i)<h.next from q) (by rw [cm];omega)) k
theorem Mod.zU {M N:aO->Prop} {h ad aH:ah} (e:Mod M h ad) (q:Mod N ad aH) (aQ:∀b,N b->h.next<=dr b):Mod M h aH:=
 ⟨Nat.le_trans e.next q.next,fun b aX ae=>by rw [q.get b (e.bP aX) (fun k=>absurd (show dr b<h.next from aX) (by have:=aQ b k;omega)),e.get b aX ae]⟩
inductive D where
 | i (k:IntKind) (n:Int)
 | b (x:Bool)
 | s (x:List UInt8)
 | l (size:Nat) (es:List (List D))
inductive b5 (F:aO->Prop) (h:ah):List D->List V->Prop
 | nil:b5 F h [] []
 | i {k:IntKind} {n:Int} {ds:List D} {ag:List V} (t:b5 F h ds ag):b5 F h (.i k n::ds) (.int k n::ag)
 | b {x:Bool} {ds:List D} {ag:List V} (t:b5 F h ds ag):b5 F h (.b x::ds) (.bool x::ag)
 | s {x:List UInt8} {ds:List D} {ag:List V} (ae:x.length<=top) (t:b5 F h ds ag):b5 F h (.s x::ds) (.str x::ag)
 | l {size:Nat} {es:List (List D)} {v:V} {us:List (List V)} {ds:List D} {ag:List V} (aG:sX v) (ae:es.length<=top) (aM:gy h size v es.length us.flatten) (hu:us.length=es.length) (bn:∀u ∈ us,u.length=size)
    (kids:∀(i:Nat) (e:List D) (u:List V),es[i]? =some e->us[i]? =some u->b5 F h e u) (aB:∀b,v.aW b->F b) (t:b5 F h ds ag):b5 F h (.l size es::ds) (v::ag)
structure dj (F:aO->Prop) (h:ah) (size:Nat) (es:List (List D)) (v:V):Prop where
 room:sX v
 le:es.length<=top
 ex:∃us:List (List V),gy h size v es.length us.flatten/\us.length=es.length/\(∀u ∈ us,u.length=size)/\∀(i:Nat) (e:List D) (u:List V),es[i]? =some e->us[i]? =some u->b5 F h e u
 EC:∀b,v.aW b->F b
section
variable {F:aO->Prop} {h ab:ah} {ds:List D} {ag:List V}
theorem b5.mod {ev M:aO->Prop} (m:Mod M h ab) (c6:∀b,F b->Old h b->¬M b/\ev b) (H:b5 F h ds ag):b5 ev ab ds ag:=by
 induction H with
 | nil=>exact .nil
 | i t bd=>exact .i bd
 | b t bd=>exact .b bd
 | s ae t bd=>exact .s ae bd
 | l aG ae aM hu bn kids aB t ue sy=>exact .l aG ae (aM.mod m fun b q=>(c6 b (aB b q) (aM.bP q)).1) hu bn ue (fun b q=>(c6 b (aB b q) (aM.bP q)).2) sy
theorem b5.ext (H:b5 F h ds ag) (e:Ext h ab):b5 F ab ds ag:=by
 induction H with
 | nil=>exact .nil
 | i t bd=>exact .i bd
 | b t bd=>exact .b bd
 | s ae t bd=>exact .s ae bd
 | l aG ae aM hu bn kids aB t ue sy=>exact .l aG ae (aM.ext e) hu bn ue aB sy
theorem b5.hJ {ev:aO->Prop} (H:b5 F h ds ag) (w:∀b,F b->ev b):b5 ev h ds ag:=by
 induction H with
 | nil=>exact .nil
 | i t bd=>exact .i bd
 | b t bd=>exact .b bd
 | s ae t bd=>exact .s ae bd
 | l aG ae aM hu bn kids aB t ue sy=>exact .l aG ae aM hu bn ue (fun b q=>w b (aB b q)) sy
theorem b5.bP (H:b5 F h ds ag):b5 (fun b=>F b/\Old h b) h ds ag:=by
 induction H with
 | nil=>exact .nil
 | i t bd=>exact .i bd
 | b t bd=>exact .b bd
 | s ae t bd=>exact .s ae bd
 | l aG ae aM hu bn kids aB t ue sy=>exact .l aG ae aM hu bn ue (fun b q=>⟨aB b q,aM.bP q⟩) sy
theorem b5.fJ (H:b5 F h ds ag):fJ ag=true:=by
 induction H with
 | nil=>rfl
 | i t bd=>simpa [Go.Proofs.YthemdhlheglhoaaGreatDoor.aY.fJ,V.one] using bd
 | b t bd=>simpa [Go.Proofs.YthemdhlheglhoaaGreatDoor.aY.fJ,V.one] using bd
 | s ae t bd=>simpa [Go.Proofs.YthemdhlheglhoaaGreatDoor.aY.fJ,V.one] using bd
 | l aG ae aM hu bn kids aB t ue sy=>simp only [Go.Proofs.YthemdhlheglhoaaGreatDoor.aY.fJ,aM.one.1,sy,Bool.and_self]
theorem b5.int {k:IntKind} {n:Int} (H:b5 F h (.i k n::ds) ag):∃us,ag=.int k n::us/\b5 F h ds us:=by
 cases H with
 | i t=>exact ⟨_,rfl,t⟩
theorem b5.str {x:List UInt8} (H:b5 F h (.s x::ds) ag):∃us,ag=.str x::us/\x.length<=top/\b5 F h ds us:=by
 cases H with
 | s ae t=>exact ⟨_,rfl,ae,t⟩
theorem b5.fo {size:Nat} {es:List (List D)} (H:b5 F h (.l size es::ds) ag):∃v us,ag=v::us/\dj F h size es v/\b5 F h ds us:=by
 cases H with
 | l aG ae aM hu bn kids aB t=>exact ⟨_,_,rfl,⟨aG,ae,⟨_,aM,hu,bn,kids⟩,aB⟩,t⟩
theorem b5.no (H:b5 F h [] ag):ag=[]:=by cases H;rfl
end
theorem EA {size:Nat}:∀(us:List (List V)) (i:Nat) (u:List V),(∀u ∈ us,u.length=size)->us[i]? =some u->(us.flatten.drop (i * size)).take size=u
 | [],i,u,_,h=>by simp at h
 | w::us,0,u,az,h=>by simp only [List.getElem?_cons_zero,Option.some.injEq] at h;subst h;rw [Nat.zero_mul,List.drop_zero,List.flatten_cons,List.take_left' (az _ (by simp))]
 | w::us,i+1,u,az,h=>by rw [show (i+1) * size=size+i * size from by rw [Nat.succ_mul,Nat.add_comm],<-List.drop_drop,List.flatten_cons,List.drop_left' (az _ (by simp))];exact EA us i u (fun u hu=>az u (by simp [hu])) (by simpa using h)
theorem A8 {size:Nat}:∀(us:List (List V)),(∀u ∈ us,u.length=size)->us.flatten.length=us.length * size
 | [],_=>by simp
 | w::us,az=>by rw [List.flatten_cons,List.length_append,az w (by simp),A8 us (fun u hu=>az u (by simp [hu])),List.length_cons,Nat.succ_mul,Nat.add_comm]
section
variable {F:aO->Prop} {h ab:ah} {size:Nat} {es:List (List D)} {v:V}
theorem dj.cons {ds:List D} {ag:List V} (H:dj F h size es v) (t:b5 F h ds ag):b5 F h (.l size es::ds) (v::ag):=by obtain ⟨us,a,b,c,d⟩:=H.ex;exact .l H.room H.le a b c d H.EC t
theorem dj.ext (H:dj F h size es v) (e:Ext h ab):dj F ab size es v:=by obtain ⟨us,a,b,c,d⟩:=H.ex;exact ⟨H.room,H.le,⟨us,a.ext e,b,c,fun i x u ao ax=>(d i x u ao ax).ext e⟩,H.EC⟩
theorem dj.mod {ev M:aO->Prop} (m:Mod M h ab) (c6:∀b,F b->Old h b->¬M b/\ev b) (H:dj F h size es v):dj ev ab size es v:=by obtain ⟨us,a,b,c,d⟩:=H.ex;exact ⟨H.room,H.le,⟨us,a.mod m fun x q=>(c6 x (H.EC x q) (a.bP q)).1,b,c,fun i x u ao ax=>(d i x u ao ax).mod m c6⟩,fun x q=>(c6 x (H.EC x q) (a.bP q)).2⟩
theorem dj.len (H:dj F h size es v):mm v=some (.int .i64 es.length):=by obtain ⟨us,a,_⟩:=H.ex;exact a.len
theorem dj.one (H:dj F h size es v):v.one=true/\v.cells=[v]/\v.fI=true:=by obtain ⟨us,a,_⟩:=H.ex;exact a.one
theorem dj.at (H:dj F h size es v) {k:IntKind} {i:Nat} (aq:i<es.length):
 ∃b off u,lH size v (.int k i)=some (.ptr b (off+i * size))/\b5 F h es[i] u/\u.length=size/\(∀ab,Ext h ab->n1 size (ab.get b) (off+i * size)=some (.agg u))/\∀ab,Ext h ab->∀j,j<size->kI (ab.get b) (off+i * size+j)=u[j]? :=by
 obtain ⟨us,aa,ad,az,aH⟩:=H.ex;have yK:i<us.length:=by omega
 have hu:=List.getElem?_eq_getElem yK;obtain ⟨b,off,aN,aZ⟩:=aa.dD (k:=k) aq;have aB:=EA us i _ az hu;have qW:=A8 us az;have hle:i * size+size<=us.length * size:=by have:=Nat.mul_le_mul_right size (show i+1<=us.length by omega);rw [Nat.succ_mul] at this;exact this
 have Fo:us[i].length=size:=az _ (List.getElem_mem yK);refine ⟨b,off,us[i],aN,aH i _ _ (List.getElem?_eq_getElem aq) hu,Fo,fun ab e=>?_,fun ab e j a6=>?_⟩
 . rw [(aZ.ext e).ff (i:=i * size) (n:=size) (by omega),aB]
 . rw [Nat.add_assoc,(aZ.ext e).fy (i:=i * size+j) (by omega)];have:((us.flatten.drop (i * size)).take size)[j]? =us[i][j]? :=by rw [aB]
   rw [List.getElem?_take_of_lt a6,List.getElem?_drop] at this;rw [<-this,List.getElem?_eq_getElem (by omega)]
end
def Any (_:aO):Prop:=True
theorem W6:∀{ms:List Nat},(∀(i k:Nat),ms[i]? =some k->1<=k)->ms.length<=ms.sum
 | [],_=>Nat.le_refl _
 | m::ms,h=>by have a8:=h 0 m rfl;have:=W6 (ms:=ms) fun i k q=>h (i+1) k (by simpa using q);simp only [List.length_cons,List.sum_cons];omega
theorem W5:∀{ms:List Nat} {i k:Nat},ms[i]? =some k->k<=ms.sum
 | [],_,_,h=>by simp at h
 | m::ms,0,k,h=>by simp only [List.getElem?_cons_zero,Option.some.injEq] at h;subst h;simp only [List.sum_cons];omega
 | m::ms,i+1,k,h=>by have:=W5 (ms:=ms) (i:=i) (k:=k) (by simpa using h);simp only [List.sum_cons];omega
end
section
open Go Go.RowKit
set_option linter.defProp false
variable [Lay]
def al:=And.intro @aoF<|And.intro @aoG @aoH
def aoy:=And.intro @aoI<|And.intro @aoJ<|And.intro @aoK<|And.intro @aoL<|And.intro @aoM @aoN
def aoz:=And.intro @Option.isSome_some.{0}<|And.intro @Option.getD_some.{0}<|And.intro @if_true.{1}<|And.intro @if_false.{1}<|And.intro @true_and<|And.intro @and_true<|And.intro @List.getElem?_cons_zero.{0}<|And.intro @List.getElem?_cons_succ.{0}<|And.intro @List.length_cons.{0}<|And.intro @List.length_nil.{0}<|
 And.intro @List.drop_zero.{0}<|And.intro @List.drop_succ_cons.{0}<|And.intro @List.take_succ_cons.{0}<|And.intro @List.take_zero.{0}<|And.intro @List.cons_append.{0}<|And.intro @List.nil_append.{0}<|And.intro @Option.some.injEq.{0}<|And.intro @exists_eq_left'.{1}<|And.intro @List.cons.injEq.{0}<|
 And.intro @Nat.succ_ne_zero<|And.intro @agN<|And.intro @agM<|And.intro @List.getElem?_nil.{0}<|And.intro @decide_true<|And.intro @decide_false<|And.intro @eq_self.{1}<|And.intro @not_true_eq_false<|And.intro @not_false_eq_true<|And.intro @ite_true.{1} @ite_false.{1}
def br:=And.intro aoy (And.intro aoz (And.intro @hI.eq_1 (And.intro @hI.eq_2 (And.intro @aU.fN.eq_1 (And.intro @aU.fN.eq_2 (And.intro @pq.eq_1 (And.intro @pq.eq_2 (And.intro @pq.eq_3 (And.intro @over.eq_1 (And.intro @over.eq_2 (And.intro @over.eq_3 (And.intro @fJ.eq_1 (@fJ.eq_2)))))))))))))
def aK:=And.intro br (And.intro @db.ends.eq_1 (And.intro @db.ends.eq_2 (And.intro @kA.eq_1 (And.intro @kA.eq_2 (And.intro @kA.eq_3 (And.intro @kA.eq_4 (And.intro @oneOf.eq_1 (And.intro @oneOf.eq_2 top.eq_1))))))))
end
section
open Go Go.RowKit
variable [Lay]
structure Has (h:ah) (n:Nat) (l:List V):Prop where
 lt:n<h.next
 g:h.get (aj n)=.bx l 0 false
theorem Has.ext {h ab:ah} {n:Nat} {l:List V} (B:Has h n l) (e:Ext h ab):Has ab n l:=⟨Nat.lt_of_lt_of_le B.lt e.next,(e.get _ (gi B.lt)).trans B.g⟩
theorem fU (h:ah) (l:List V):∃H,h.new (.bx l 0 false)=H/\Ext h H/\Has H h.next l:=⟨_,rfl,(Ext.refl h).new _,by rw [gF];omega,nQ _⟩
theorem gM (h:ah) (z l:List V):∃H,(h.new (.bx z 0 false)).set (aj h.next) (.bx l 0 false)=H/\Ext h H/\Has H h.next l:=
 ⟨_,rfl,((Ext.refl h).new _).set (Nat.le_refl _) _,by rw [oe,gF];omega,by rw [dv,if_pos rfl]⟩
theorem Has.set {h:ah} {n m:Nat} {l:List V} (B:Has h n l) (hm:n≠m) (k:b9):Has (h.set (aj m) k) n l:=⟨by rw [oe];exact B.lt,by rw [dv,if_neg (by rw [sP];exact fun q=>hm q.symm)];exact B.g⟩
theorem Has.put {h:ah} {n:Nat} {l:List V} (B:Has h n l) (cG:List V):Has (h.set (aj n) (.bx cG 0 false)) n cG:=⟨by rw [oe];exact B.lt,by rw [dv,if_pos rfl]⟩
theorem b5.oi {F:aO->Prop} {h:ah} {ds:List D} {ag:List V} (H:b5 F h ds ag):b5 (Old h) h ds ag:=H.bP.hJ fun _ q=>q.2
theorem dj.oi {F:aO->Prop} {h:ah} {size:Nat} {es:List (List D)} {v:V} (H:dj F h size es v):dj (Old h) h size es v:=by obtain ⟨us,a,b,c,d⟩:=H.ex;exact ⟨H.room,H.le,⟨us,a,b,c,fun i x u ao ax=>(d i x u ao ax).oi⟩,fun b q=>a.bP q⟩
theorem Ga {h:ah} {n:Nat} (aQ:h.next<=n):¬Old h (aj n):=fun q=>by unfold Old at q;rw [cm] at q;omega
theorem pw {i n:Nat} (h:i<n) (aQ:n<=4611686018427387904):IntKind.i64.wrap ((i:Int)+1)=((i+1:Nat):Int):=by rw [wrap_i64 (by omega) (by omega)];rfl
section
variable {ay:Fr} {E bL:Env} {h aC:ah} {w bV:World}
end
section
variable {h aC:ah}
end
inductive C8 (F:aO->Prop) (h:ah):List (Int × List D)->List cE->Prop
 | nil:C8 F h [] []
 | cons {n:Int} {ds:List D} {y:V} {born:Nat} {bw:List (Int × List D)} {es:List cE} (bb:b5 F h ds y.cells) (t:C8 F h bw es):C8 F h ((n,ds)::bw) (⟨.int .i64 n,y,born⟩::es)
structure aph (F:aO->Prop) (h:ah) (bw:List (Int × List D)) (v:V):Prop where
 ex:∃b es,v=.map b/\Old h b/\((∃clock,h.get b=.mp es clock)\/h.get b=.jH es/\(bw.map Prod.fst).Nodup)/\C8 F h bw es/\F b
section
variable {F:aO->Prop} {h ab:ah} {bw:List (Int × List D)} {es:List cE} {v:V}
theorem Wp (k n:Int):lv.run (.int .i64 k) (.int .i64 n)=some (decide (k=n)):=by simp only [lv,V.eo,pP,cond_true,El]
end
section
variable {h aC:ah}
end
end
end Go.Proofs.YthemdhlheglhoaaGreatDoor.aY
