/- The abstract machine and its walks (a verified interpreter of the model's code: plain definitions and lemmas, no condition). Printed by a program from longer texts: names made short. -/
import Derived.Test.YtgmhjhgoamjeeaaGreatDoorM3
import Derived.IntWalk
import Derived.ChangeArms
import Derived.DataReads
import Derived.ChangeBears
import Derived.Carry
import Derived.OpenShut
import Derived.ChangeSame
import Derived.Handed
import Derived.HandedShaped
set_option linter.unusedSectionVars false
set_option linter.unusedSimpArgs false
set_option linter.unusedVariables false
set_option maxHeartbeats 64000000
noncomputable section
namespace Go.Proofs.YtgmhjhgoamjeeaaGreatDoor.a7
section
open Go Go.RowKit
variable [Lay]
def e4 (P:Program) (f:FuncId) (args:List V) (h:ag) (v:V) (ab:ag):Prop:=
 f≠dy/\(((∃fn,P.funcs[f]? =some fn/\fn.body.isSome=true)/\∀(aC:Fr) E w xs,bj E args xs->bc aC E h w->
  Calls P f xs.toArray w fun e w'=>∃az x,e=.returned x/\E.le az/\Rel az v x/\bc aC az ab w')\/
 ∀(aC:Fr) E w xs,bj E args xs->bc aC E h w->∃az x w',(callFunc f xs.toArray).run P w=.ok (.value x) w'/\E.le az/\Rel az v x/\bc aC az ab w')
def NB (P:Program) (args:List V) (b:aQ) (h:ag) (v:V) (ab:ag):Prop:=
 ∀(aC:Fr) E w xs p,bj E args xs->bc aC E h w->E b=some p->
  ∃f tmps assign body,(Instr.yield p.a' xs.toArray).run P w=.ok (.round p.a' f tmps assign body) w/\
   RoundIn (cc none) 0 P p.a' f tmps assign body w fun e w'=>∃az x,e=.returned x/\E.le az/\Rel az v x/\bc aC az ab w'
theorem e4.calls {P:Program} (bI:et P) {f:FuncId} {args:List V} {h ab:ag} {v:V} (H:e4 P f args h v ab) (ak:∃fn,P.funcs[f]? =some fn/\fn.body.isSome=true) (aC:Fr) (E:Env) (w:World) (xs:List Value) (ao:bj E args xs) (s:bc aC E h w):
 Calls P f xs.toArray w fun e w'=>∃az x,e=.returned x/\E.le az/\Rel az v x/\bc aC az ab w':=by
 rcases H.2 with ⟨_,H⟩ | H
 . exact H aC E w xs ao s
 . obtain ⟨az,x,w',aD,_⟩:=H aC E w xs ao s;obtain ⟨fn,aa,ae⟩:=ak;rw [vm bI aa ae] at aD;cases aD
def cr (P:Program) (f:FuncId) (args:List V) (h:ag) (K:V->ag->Prop):Prop:=∃v ab,e4 P f args h v ab/\K v ab
def X8 (P:Program) (args:List V) (b:aQ) (h:ag) (K:V->ag->Prop):Prop:=∃v ab,NB P args b h v ab/\K v ab
def NC (P:Program) (xs:List V) (h:ag) (K:V->ag->Prop):Prop:=∃cy b,xs=cy++[.ptr b 0]/\X8 P cy b h K
def Dk (P:Program) (g:FuncId) (xs:List V) (h:ag) (K:V->ag->Prop):Prop:=if g=dy then NC P xs h K else cr P g xs h K
def V.target (v:V) (args:List V):Option (FuncId × List V):=
 match v with
 | .func g cs=>some (g,args++cs)
 | .mC g cs=>some (g,cs++args)
 | _=>none
theorem UQ {v:V} {args xs:List V} {g:FuncId} (h:v.target args=some (g,xs)) (F:FuncId->List V->ba):v.zK args F=F g xs:=by
 cases v<;>simp only [V.target] at h<;>try (cases h;done)
 all_goals (simp only [ap3,aq9] at h;obtain ⟨rfl,rfl⟩:=h;rfl)
theorem cr.mono {P:Program} {f:FuncId} {args:List V} {h:ag} {K om:V->ag->Prop} (c:cr P f args h K) (aA:∀v ab,K v ab->om v ab):cr P f args h om:=by obtain ⟨v,ab,al,au⟩:=c;exact ⟨v,ab,al,aA v ab au⟩
def l3:dX:=fun _ _ _=>.fail
theorem F_ (P:Program):hb P l3/\hs P l3:=
 ⟨⟨fun _ f args h v ab _ he=>by simp [l3] at he,fun _ f args h v ab _ he=>by simp [l3] at he,fun _ args b h v ab he=>by simp [l3] at he,fun args h v ab he=>by simp [l3] at he⟩,fun f args h v ab he=>by simp [l3] at he⟩
open Classical in
def n' (f:FuncId) (args:List V) (h:ag) (v:V) (ab:ag):dX:=
 fun f1 bC aa=>if f1=f/\bC=args/\aa=h then .val v ab else .fail
theorem UY {P:Program} {f:FuncId} {args:List V} {h ab:ag} {v:V} (H:e4 P f args h v ab):hb P (n' f args h v ab)/\hs P (n' f args h v ab):=by
 refine ⟨⟨fun aC f1 bC aa v1 fF _ he=>?_,fun aC f1 bC aa v1 fF _ he=>?_,fun aC bC b aa v1 fF he=>?_,fun bC aa v1 fF he=>?_⟩,fun f1 bC aa v1 fF he=>?_⟩
 . unfold n' at he
   split at he
   . rename_i av;obtain ⟨rfl,rfl,rfl⟩:=av;simp only [ba.val.injEq] at he;obtain ⟨rfl,rfl⟩:=he;intro E w xs ao s;rcases H.2 with H | H
     . exact .inl ⟨H.1,H.2 aC E w xs ao s⟩
     . exact .inr (H aC E w xs ao s)
   . cases he
 . unfold n' at he
   split at he<;>cases he
 . unfold n' at he
   split at he
   . rename_i av;exact absurd av.1.symm H.1
   . cases he
 . unfold n' at he
   split at he<;>cases he
 . trivial
theorem amP {xs cy:List V} {x y:V} (h:xs++[x]=cy++[y]):xs=cy/\x=y:=by have:=List.append_inj' h rfl;exact ⟨this.1,by simpa using this.2⟩
theorem akR {P:Program} {args:List V} {b:aQ} {h ab:ag} {v:V} (H:NB P args b h v ab):hb P (n' dy (args++[.ptr b 0]) h v ab)/\hs P (n' dy (args++[.ptr b 0]) h v ab):=by
 refine ⟨⟨fun aC f1 bC aa v1 fF cK he=>?_,fun aC f1 bC aa v1 fF _ he=>?_,fun aC bC bM aa v1 fF he=>?_,fun bC aa v1 fF he=>?_⟩,fun f1 bC aa v1 fF he=>?_⟩
 . unfold n' at he
   split at he
   . rename_i av;exact absurd av.1 cK
   . cases he
 . unfold n' at he
   split at he<;>cases he
 . unfold n' at he
   split at he
   . rename_i av;obtain ⟨_,av,rfl⟩:=av;obtain ⟨rfl,ak⟩:=amP av;simp only [V.ptr.injEq,ast] at ak;subst ak;simp only [ba.val.injEq] at he;obtain ⟨rfl,rfl⟩:=he;exact fun E w xs p ao s ai=>H aC E w xs p ao s ai
   . cases he
 . unfold n' at he
   split at he<;>cases he
 . trivial
theorem Lv {f:FuncId} {args:List V} {h ab:ag} {v:V}:n' f args h v ab f args h=.val v ab:=by unfold n';rw [aqf ⟨rfl,rfl,rfl⟩]
def bg.set (r:bg) (d:Option Nat) (v:V):bg:=
 match d with
 | none=>r
 | some d=>fun t=>if t=d then v else r t
def bg.trim (r:bg):List Nat->bg
 | [],_=>.bad
 | u::us,t=>if t=u then r t else bg.trim r us t
def bg.bU:List V->bg
 | [],_=>.bad
 | v::ah,t=>if t=0 then v else bg.bU ah (t-1)
def C_ (r:bg):List Nat->bJ
 | []=>.e
 | t::cM=>T.put .bad (r t) (aG t) (C_ r cM)
theorem WD (r:bg):∀cM:List Nat,eg (C_ r cM)=bg.trim r cM
 | []=>by funext t;simp [eg,C_,bg.trim]
 | u::cM=>by
   funext t;have bd:=congrFun (WD r cM) t;simp only [eg] at bd;simp only [eg,C_,bg.trim,T.iD];by_cases h:t=u
   . subst h;simp
   . rw [aqa (fun e=>h (gZ e).symm),aqa h];exact bd
theorem Am (cS:bJ):∀cM:List Nat,eg (dq cS cM)=bg.trim (eg cS) cM
 | []=>by funext t;simp [eg,dq,bg.trim]
 | u::cM=>by
   funext t;have bd:=congrFun (Am cS cM) t;simp only [eg] at bd;simp only [eg,dq,bg.trim,T.iD];by_cases h:t=u
   . subst h;simp
   . rw [aqa (fun e=>h (gZ e).symm),aqa h];exact bd
theorem MI {r:bg}:∀{cM:List Nat} {t:Nat},t ∈ cM->bg.trim r cM t=r t
 | [],t,h=>by simp at h
 | u::cM,t,h=>by
   simp only [bg.trim];by_cases hu:t=u
   . rw [aqf hu]
   . rw [aqa hu];simp only [aql] at h;exact MI (h.resolve_left hu)
theorem WE {r:bg}:∀{cM:List Nat} {t:Nat},t ∉ cM->bg.trim r cM t=.bad
 | [],t,_=>rfl
 | u::cM,t,h=>by simp only [aql,not_or] at h;simp only [bg.trim];rw [aqa h.1];exact WE h.2
theorem LR (d:Option Nat) (cS:bJ) (v:V):eg ((fQ d).run cS v)=(eg cS).set d v:=by
 cases d with
 | none=>rfl
 | some d=>
   funext t;simp only [eg,fQ,bg.set,T.iD];by_cases h:t=d
   . subst h;simp
   . rw [aqa (fun e=>h (gZ e).symm),aqa h]
abbrev eO:Nat:=17179869185
def Out (ay:Nat) (r:bg):Prop:=∀t,ay<=t->t≠eO->r t=.bad
theorem yA {ay:Nat} {r:bg} (aY:Out ay r):∃cS,eg cS=r:=by
 refine ⟨C_ r (eO::List.range ay),?_⟩;rw [WD];funext t;by_cases h:t<ay
 . exact MI (aqs _ (arF.2 h))
 . by_cases ae:t=eO
   . exact MI (by rw [ae];exact aqy)
   . rw [WE (by simp only [aql,arF,not_or];exact ⟨ae,h⟩),aY t (by omega) ae]
theorem Out.set {ay:Nat} {r:bg} (aY:Out ay r) {d:Option Nat} (aq:e0 ay d=true) (v:V):Out ay (r.set d v):=by
 intro t aK aO;cases d with
 | none=>exact aY t aK aO
 | some d=>
   simp only [e0,ap2,aqA] at aq;simp only [bg.set];rw [aqa (by omega)];exact aY t aK aO
theorem C6 {ay:Nat} {r:bg} {d:Option Nat} (aq:e0 ay d=true) (v:V):r.set d v eO=r eO:=by
 cases d with
 | none=>rfl
 | some d=>
   simp only [e0,ap2,aqA,aqj] at aq;simp only [bg.set];rw [aqa (by have:=aq.2;unfold top at this;unfold eO;omega)]
structure h0 (E:Env) (ay:Nat) (r:bg) (a:Act):Prop where
 size:a.tmps.size=ay
 defers:l_ E (r eO) a.defers
 aj:∀t,t≠eO->Rel E (r t) (a.tmps.getD t undef)
theorem r6 {t:Nat} (h:t<=top):t≠eO:=by unfold top at h;unfold eO;omega
theorem h0.mono {E az:Env} (h:E.le az) {ay:Nat} {r:bg} {a:Act} (k:h0 E ay r a):h0 az ay r a:=
 ⟨k.size,k.defers.mono h,fun t aK=>Rel.mono h _ _ (k.aj t aK)⟩
theorem h0.put {E az:Env} (h:E.le az) {ay:Nat} {r:bg} {a:Act} (k:h0 E ay r a) {d:Option Nat} (aq:e0 ay d=true) {v:V} {x:Value} (ao:Rel az v x):h0 az ay (r.set d v) (a.put d x):=by
 cases d with
 | none=>exact k.mono h
 | some d=>
   have aO:=C6 (r:=r) aq v;simp only [e0,ap2,aqA] at aq;refine ⟨by simp [Act.put,k.size],by rw [aO];exact k.defers.mono h,fun t fH=>?_⟩;simp only [bg.set,Act.put];rw [aqx,aqo];by_cases aK:t=d
   . subst aK;rw [aqf rfl,aqf rfl,aqf (by rw [k.size];exact aq.1)];exact ao
   . rw [aqa aK,aqa (fun e=>aK e.symm),<-aqx];exact Rel.mono h _ _ (k.aj t fH)
def G.wp (P:Program) (g:G) (r:bg) (h:ag) (K:V->ag->Prop):Prop:=
 match g with
 | .call f args=>cr P f (aX.fV r args) h K
 | .qb f args=>∃g xs,(f.aT r).target (aX.fV r args)=some (g,xs)/\Dk P g xs h K
 | g=>∃v ab,g.run P l3 r h=.val v ab/\K v ab
theorem G.Ap {P:Program} {g:G} {r:bg} {h:ag} {K:V->ag->Prop} (H:g.wp P r h K):∃call v ab,(hb P call/\hs P call)/\g.run P call r h=.val v ab/\K v ab:=by
 cases g
 case call f args=>
  obtain ⟨v,ab,al,au⟩:=H;exact ⟨_,v,ab,UY al,Lv,au⟩
 case qb f args=>
  obtain ⟨g,xs,aF,H⟩:=H;unfold Dk at H
  split at H
  rotate_left
  . obtain ⟨v,ab,al,au⟩:=H;refine ⟨_,v,ab,UY al,?_,au⟩;simp only [G.run];rw [UQ aF];exact Lv
  . rename_i aL;subst aL;obtain ⟨cy,b,rfl,v,ab,al,au⟩:=H;refine ⟨_,v,ab,akR al,?_,au⟩;simp only [G.run];rw [UQ aF];exact Lv
 all_goals
  obtain ⟨v,ab,al,au⟩:=H;exact ⟨l3,v,ab,F_ P,al,au⟩
structure br where
 dst:Option Nat
 g:G
 Bo:Option (Nat × Bool)
 rs:List Nat
def br.bad:br:=⟨none,.bad,none,[]⟩
def gate (v:V) (want:Bool) (A B:Prop):Prop:=
 match v with
 | .bool b=>(b=want->A)/\(b=!want->B)
 | .tuple _=>B
 | _=>False
def br.wp (P:Program) (o:br) (r:bg) (h:ag) (K:bg->V->ag->Prop):Prop:=
 match o.Bo with
 | none=>o.g.wp P (r.trim o.rs) h fun v ab=>K (r.set o.dst v) v ab
 | some (d,want)=>gate (r.trim o.rs d) want (o.g.wp P (r.trim o.rs) h fun v ab=>K (r.set o.dst v) v ab) (K (r.set o.dst (.tuple [])) (.tuple []) h)
def sc (P:Program) (ay:Nat) (all:Array Oper) (o:Oper):br:=
 bif e0 ay o.dst&&jv (b3 all o) then
  match o.guard with
  | none=>⟨o.dst,vk P o.op,none,b3 all o⟩
  | some (j,want)=>match all[j]? with
    | some g=>match g.dst with
      | some d=>bif Nat.blt d ay&&Nat.ble d top then ⟨o.dst,vk P o.op,some (d,want),b3 all o⟩ else br.bad
      | none=>br.bad
    | none=>br.bad
 else br.bad
def zV (P:Program) (ay:Nat) (all:Array Oper):List Oper->List br
 | []=>[]
 | o::os=>sc P ay all o::zV P ay all os
theorem VR (P:Program) (ay:Nat) (all:Array Oper):∀l:List Oper,zV P ay all l=l.map (sc P ay all)
 | []=>rfl
 | o::os=>by simp [zV,VR P ay all os]
def aX.isNil:aX->Bool
 | .c .kI=>true
 | _=>false
def qY (P:Program) (ay:Nat) (all:Array Oper) (o:Oper):br:=
 match o.op,o.guard with
 | .binOp op t x y _,none=>match xv P op t with
   | some neg=>bif !((rx x).isNil||(rx y).isNil)&&(e0 ay o.dst&&jv (b3 all o)) then ⟨o.dst,.xo neg (rx x) (rx y),none,b3 all o⟩ else sc P ay all o
   | none=>sc P ay all o
 | _,_=>sc P ay all o
def zW (P:Program) (ay:Nat) (all:Array Oper):List Oper->List br
 | []=>[]
 | o::os=>qY P ay all o::zW P ay all os
theorem br.D5 {P:Program} {r:bg} {h:ag} {K:bg->V->ag->Prop}:¬br.bad.wp P r h K:=by rintro ⟨v,ab,q,_⟩;cases q
theorem br.Ap {P:Program} {ay:Nat} {all:Array Oper} {o:Oper} {r:bg} {h:ag} {K:bg->V->ag->Prop} (H:(sc P ay all o).wp P r h K):
 ∃call v ab,(hb P call/\hs P call)/\e0 ay o.dst=true/\K (r.set o.dst v) v ab/\∀cS,eg cS=r->(cG P ay all o).run call cS h=.val v ab:=by
 unfold sc at H;cases av:(e0 ay o.dst&&jv (b3 all o)) with
 | false=>rw [av] at H;exact absurd H br.D5
 | true=>
   have aq:e0 ay o.dst=true:=by simp only [ap2] at av;exact av.1
   rw [av] at H;simp only [ap8] at H;cases aL:o.guard with
   | none=>
     rw [aL] at H;obtain ⟨call,v,ab,al,au,aJ⟩:=G.Ap H;refine ⟨call,v,ab,al,aq,aJ,fun cS dN=>?_⟩;unfold cG;rw [av];simp only [ap8,aL,jD];refine VP ?_;rw [Am,dN];exact au
   | some oK=>
     obtain ⟨j,want⟩:=oK;rw [aL] at H;simp only at H;cases bG:all[j]? with
     | none=>rw [bG] at H;exact absurd H br.D5
     | some g=>
       rw [bG] at H;simp only at H;cases jk:g.dst with
       | none=>rw [jk] at H;exact absurd H br.D5
       | some d=>
         rw [jk] at H;simp only at H;cases ak:(Nat.blt d ay&&Nat.ble d top) with
         | false=>rw [ak] at H;exact absurd H br.D5
         | true=>
           rw [ak] at H;simp only [ap8,br.wp] at H;have key:cG P ay all o=⟨jD (some (pr (aG d),want)) (fw P o) (b3 all o)⟩:=by unfold cG;rw [av];simp only [ap8,aL,bG,jk,ak]
           have BE:∀cS,eg cS=r->(pr (aG d)).run (dq cS (b3 all o))=r.trim (b3 all o) d:=by intro cS dN;rw [<-dN,<-Am];rfl
           cases bz:r.trim (b3 all o) d<;>rw [bz] at H<;>simp only [gate] at H
           case bool b=>
            by_cases Sf:b=want
            . obtain ⟨call,v,ab,al,au,aJ⟩:=G.Ap (H.1 Sf);refine ⟨call,v,ab,al,aq,aJ,fun cS dN=>?_⟩;rw [key];simp only [jD,BE cS dN,bz];rw [show (bif want then b else !b)=true from by subst Sf;cases b<;>rfl];simp only [ap8];refine VP ?_;rw [Am,dN];exact au
            . have Sc:b=!want:=by cases b<;>cases want<;>simp_all
              refine ⟨l3,.tuple [],h,F_ P,aq,H.2 Sc,fun cS dN=>?_⟩;rw [key];simp only [jD,BE cS dN,bz];rw [show (bif want then b else !b)=false from by subst Sc;cases want<;>rfl];rfl
           case tuple ah=>
            refine ⟨l3,.tuple [],h,F_ P,aq,H,fun cS dN=>?_⟩;rw [key];simp only [jD,BE cS dN,bz]
def o3 (P:Program):List br->bg->ag->(bg->ag->Prop)->Prop
 | [],r,h,K=>K r h
 | o::os,r,h,K=>o.wp P r h fun bb _ ab=>o3 P os bb ab K
structure f_ where
 r:bg
 h:ag
 v:V
def kP (P:Program):List br->bg->ag->(List f_->bg->ag->Prop)->Prop
 | [],r,h,K=>K [] r h
 | o::os,r,h,K=>o.wp P r h fun bb v ab=>kP P os bb ab fun es c2 aF=>K (⟨r,h,v⟩::es) c2 aF
def yS (es:List f_) (aF:ag) (i:Nat):ag:=
 match es[i]? with
 | some e=>e.h
 | none=>aF
def sH (P:Program) (o:Option br) (e:Option f_) (es:List f_) (aF:ag):List Nat->Prop
 | []=>True
 | s::bm=>(match o,e with
   | some o,some e=>o.wp P e.r (yS es aF s) fun _ cQ _=>cQ=e.v
   | _,_=>False)/\sH P o e es aF bm
def p9 (P:Program) (ops:List br) (es:List f_) (aF:ag):List (Nat × List Nat)->Prop
 | []=>True
 | (p,bm)::rest=>sH P ops[p]? es[p]? es aF bm/\p9 P ops es aF rest
inductive aR where
 | bad
 | skip
 | aj (ops:List br)
 | draw (ops:List br) (asks:List (Nat × List Nat))
 | seq (a b:aR)
 | cond (c:aX) (a b:aR)
 | block (id:Nat) (b:aR)
 | loop (b:aR)
 | exit (id:Nat)
 | ret
 | range (f:aX) (bo:List Nat) (ay:Nat) (a b:aR)
def yg (P:Program) (ops:List Oper) (dY aI eF:List Nat):Nat->List Oper->List (Nat × List Nat)
 | _,[]=>[]
 | i,o::os=>bif looks o.op&&!e9 P o.op then
    (posOf aI i,eF.filter (tm P dY ops aI i ((dY[i]?).getD 0)))::yg P ops dY aI eF (i+1) os
   else yg P ops dY aI eF (i+1) os
def GL (P:Program) (ay:Nat) (ops:Array Oper) (order aI:List Nat):aR:=
 bif l6 ops.size order aI&&wg P ops aI then
  .draw (zV P ay ops (hV ops order)) (bif sF P ops.toList then yg P ops.toList (eX [] ops.toList) aI (h_ P aI 0 ops.toList) 0 ops.toList else [])
 else .bad
def eI (P:Program) (ay:Nat):Code->aR
 | .skip=>.skip
 | .label _=>.skip
 | .region _ ops draw=>bif draw then GL P ay ops (u' P ops) (zP (u' P ops) 0 ops.toList) else .aj (zW P ay ops ops.toList)
 | .seq a b=>.seq (eI P ay a) (eI P ay b)
 | .cond c a b=>.cond (rx c) (eI P ay a) (eI P ay b)
 | .block id b=>.block id (eI P ay b)
 | .loop b=>.loop (eI P ay b)
 | .exit id=>.exit id
 | .ret=>.ret
 | .scope b=>eI P ay b
 | .rangeFunc f bo a b=>bif tz ay bo.toList&&(noMark a&&noMark b) then .range (rx f) bo.toList ay (eI P ay a) (eI P ay b) else .bad
 | _=>.bad
structure XH (P:Program) (l:AR) (ay:Nat) (r:bg) (bo:List Nat) (VE alM:aR):Prop where
 aW:l.ay=ay
 aD:eg l.r=r
 ai:l.bo=bo
 bp:eI P ay l.assign=VE
 ak:eI P ay l.body=alM
 nL:tz ay bo=true
 apk:noMark l.assign=true
 gx:noMark l.body=true
 out:Out ay r
def cV.andThen:cV->Prop->Prop->Prop
 | .normal,A,_=>A
 | _,_,B=>B
def cV.leave (id:Nat):cV->cV
 | .exit i=>if i=id then .normal else .exit i
 | e=>e
def ft (P:Program):aR->bg->ag->(cV->bg->ag->Prop)->Prop
 | .bad,_,_,_=>False
 | .skip,r,h,Q=>Q .normal r h
 | .aj ops,r,h,Q=>o3 P ops r h (Q .normal)
 | .draw ops asks,r,h,Q=>kP P ops r h fun es c2 aF=>p9 P ops es aF asks/\Q .normal c2 aF
 | .seq a b,r,h,Q=>ft P a r h fun e bb ab=>e.andThen (ft P b bb ab Q) (Q e bb ab)
 | .cond c a b,r,h,Q=>match c.aT r with
   | .bool t=>(t=true->ft P a r h Q)/\(t=false->ft P b r h Q)
   | _=>False
 | .block id b,r,h,Q=>ft P b r h fun e bb ab=>Q (e.leave id) bb ab
 | .loop b,r,h,Q=>∃(I:bg->ag->Prop) (μ:bg->ag->Nat),I r h/\∀r h,I r h->ft P b r h fun e bb ab=>e.andThen (I bb ab/\μ bb ab<μ r h) (Q e bb ab)
 | .exit id,r,h,Q=>Q (.exit id) r h
 | .ret,r,h,Q=>Q .ret r h
 | .range f bo ay a b,r,h,Q=>∃g cs,f.aT r=.func g cs/\g≠dy/\(∃fn,P.funcs[g]? =some fn/\fn.body.isSome=true)/\∀l,XH P l ay r bo a b->l.st=0->l.hW=none->
    cr P g (.func dy [.ptr (aG (h.next+1)) 0]::cs) ((h.new .h2).new (.fI l)) fun _ ab=>
     ∃eH,ab.get (aG (h.next+1))=.fI eH/\eH.st≠1/\Q (eH.hW.getD .normal) (r.set (some eO) (.tuple (.ptr (aG h.next) 0::(r eO).list))) (ab.set (aG (h.next+1)) .dead)
def aR.plain:aR->Bool
 | .seq a b=>a.plain&&b.plain
 | .cond _ a b=>a.plain&&b.plain
 | .block _ b=>b.plain
 | .loop b=>b.plain
 | .range _ _ _ _ _=>false
 | _=>true
def Dm (P:Program) (ay:Nat) (c:Code) (r:bg) (h:ag) (e:cV) (bb:bg) (ab:ag):Prop:=
 ∀(rd:Option Nat) (aC:Fr) E a w,(rd=none\/noMark c=true)->h0 E ay r a->bc aC E h w->∀Q:Exit->Act->World->Prop,
  (∀az bn w',E.le az->h0 az ay bb bn->bc aC az ab w'->Q (toExit e) bn w')->De rd P c Q a w
section
variable {P:Program} {ay:Nat}
theorem VQ (P:Program) (ay:Nat) (all:Array Oper) (o:Oper):qY P ay all o=sc P ay all o\/∃op t x y u neg,o.op=.binOp op t x y u/\o.guard=none/\xv P op t=some neg/\e0 ay o.dst=true/\jv (b3 all o)=true/\qY P ay all o=⟨o.dst,.xo neg (rx x) (rx y),none,b3 all o⟩:=by
 obtain ⟨dst,op,type,pos,after,guard⟩:=o;cases op<;>try (exact .inl rfl)
 rename_i op t x y u;cases guard with
 | some g=>exact .inl rfl
 | none=>
   simp only [qY];cases ai:xv P op t with
   | none=>exact .inl rfl
   | some neg=>
     simp only;cases av:(!((rx x).isNil||(rx y).isNil)&&(e0 ay dst&&jv (b3 all ⟨dst,.binOp op t x y u,type,pos,after,none⟩))) with
     | false=>exact .inl rfl
     | true=>
       simp only [ap2] at av;exact .inr ⟨op,t,x,y,u,neg,by first | rfl | trivial,by first | rfl | trivial,ai,by first | exact av.2.1 | trivial,by first | exact av.2.2 | trivial,by first | rfl | trivial⟩
theorem br.WZ (bI:et P) {all:Array Oper} {o:Oper} {i:Nat} (aB:all[i]? =some o) {r:bg} {h:ag} {K:bg->V->ag->Prop} (aY:Out ay r) (H:(qY P ay all o).wp P r h K):
 ∃v ab,e0 ay o.dst=true/\K (r.set o.dst v) v ab/\∀(rd:Option Nat) (aC:Fr) E a w,h0 E ay r a->bc aC E h w->∀(Q:Exit->Act->World->Prop) (C:Act->World->Prop),
  (∀az x w',E.le az->Rel az v x->bc aC az ab w'->C (a.put o.dst x) w')->wpOpIn (cc rd) 0 P all Q i C a w:=by
 obtain ⟨cS,dN⟩:=yA aY;rcases VQ P ay all o with e | ⟨op,t,x,y,u,neg,ax,aH,bA,b5,cW,e7⟩
 . rw [e] at H;obtain ⟨call,v,aa,av,aq,H1,cU⟩:=br.Ap H;refine ⟨v,aa,aq,H1,fun rd aC E a w k s Q C yJ=>?_⟩;refine ry bI av.1 av.2 aB (cU cS dN) k.size (fun t aK=>?_) s yJ;have:=congrFun dN t;simp only [eg] at this;rw [this];exact k.aj t (r6 (aqQ (aqu.1 (kV (cU cS dN)).2 t aK)))
 . rw [e7] at H;simp only [br.wp,G.wp,G.run] at H;obtain ⟨v,ab,bz,dM⟩:=H;unfold zQ at bz;cases ar:j5 h ((rx x).aT (r.trim (b3 all o))) ((rx y).aT (r.trim (b3 all o))) with
   | none=>rw [ar] at bz;cases bz
   | some b=>
     rw [ar] at bz;simp only [ba.of,ba.val.injEq] at bz;obtain ⟨rfl,rfl⟩:=bz;refine ⟨_,h,b5,dM,fun rd aC E a w k s Q C yJ=>?_⟩
     have nX:RegRel0 E ay (dq cS (b3 all o)) a:=⟨k.size,fun t aK=>by
      rw [G8 cW aK];by_cases hm:t ∈ b3 all o
      . rw [aqf hm];have:=congrFun dN t;simp only [eg] at this;rw [this];exact k.aj t (r6 aK)
      . rw [aqa hm];simp [Rel]⟩
     have ex:∀z:Operand,(bX z).run (dq cS (b3 all o))=(rx z).aT (r.trim (b3 all o)):=fun z=>by rw [e1,Am,dN]
     rw [<-ex,<-ex] at ar;obtain ⟨dst,akG,type,pos,after,guard⟩:=o;subst ax aH;obtain ⟨Z,fa,cT⟩:=Vo (P:=P) (jL:=x) (ib:=y) s bA ar (dD nX x) (dD nX y);simp only [wpOpIn,aB,Region.wanted,aqB];exact gC rfl (c_.plain s fa cT) fun az v w' al au aJ=>yJ az _ w' al au aJ
theorem W4 (bI:et P) {all:Array Oper}:∀(l:List Oper) (i:Nat),(∀j,l[j]? =all[i+j]?)->∀(r:bg) (h:ag) (K:bg->ag->Prop),Out ay r->o3 P (zW P ay all l) r h K->
 ∃bb ab,K bb ab/\(Out ay bb/\bb eO=r eO)/\∀(rd:Option Nat) (aC:Fr) E a w,h0 E ay r a->bc aC E h w->∀Q:Exit->Act->World->Prop,
  (∀az bn w',E.le az->h0 az ay bb bn->bc aC az ab w'->Q .normal bn w')->wpOpsIn (cc rd) 0 P all Q (List.range' i l.length) a w
 | [],i,_,r,h,K,aY,H=>by refine ⟨r,h,H,⟨aY,rfl⟩,fun rd aC E a w k s Q cD=>?_⟩;simp only [aqN,List.range'_zero,wpOpsIn];exact cD E a w (Env.le.refl E) k s
 | o::os,i,aw,r,h,K,aY,H=>by
   have aB:all[i]? =some o:=by have:=aw 0;simpa using this.symm
   simp only [zW,o3] at H;obtain ⟨v,aa,aq,H1,cU⟩:=br.WZ bI aB aY H;obtain ⟨b',ae,al,au,aJ⟩:=W4 bI os (i+1) (fun j=>by have:=aw (j+1);simp only [aq6] at this;rw [this];congr 1;omega) _ aa K (aY.set aq v) H1;refine ⟨b',ae,al,⟨au.1,au.2.trans (C6 aq v)⟩,fun rd aC E a w k s Q cD=>?_⟩;rw [aqb,List.range'_succ,wpOpsIn_cons];refine cU rd aC E a w k s _ _ fun az x w' cq cx eE=>?_;exact aJ rd aC az _ w' (k.put cq aq cx) eE Q fun bO a2 bN b7 z2 z3=>cD bO a2 bN (cq.trans b7) z2 z3
def toF (e:e5):f_:=⟨eg e.r,e.h,e.v⟩
theorem aee (es:List e5) (aF:ag) (i:Nat):yS (es.map toF) aF i=cj es aF i:=by unfold yS cj;rw [aq2];cases es[i]? <;>rfl
theorem W3 {all:Array Oper}:∀(l:List Oper) (nB:bJ) (h:ag) (K:List f_->bg->ag->Prop),kP P (zV P ay all l) (eg nB) h K->Out ay (eg nB)->
 ∃es pb aF,K (es.map toF) (eg pb) aF/\(Out ay (eg pb)/\eg pb eO=eg nB eO)/\es.length=l.length/\cj es aF 0=h/\ey es pb 0=nB/\
  ∀j o,l[j]? =some o->∃e call,es[j]? =some e/\(hb P call/\hs P call)/\(cG P ay all o).run call e.r e.h=.val e.v (cj es aF (j+1))/\ey es pb (j+1)=(fQ o.dst).run e.r e.v
 | [],nB,h,K,H,aY=>⟨[],nB,h,H,⟨aY,rfl⟩,rfl,rfl,rfl,fun j o bG=>by simp at bG⟩
 | o::os,nB,h,K,H,aY=>by
   simp only [zV,kP] at H;obtain ⟨call,v,aa,av,aq,H1,cU⟩:=br.Ap H;rw [<-LR] at H1;obtain ⟨es,pb,aF,al,au,aJ,bE,c1,eh⟩:=W3 os _ aa _ H1 (by rw [LR];exact aY.set aq v);refine ⟨⟨nB,h,v⟩::es,pb,aF,al,⟨au.1,au.2.trans (by rw [LR];exact C6 aq v)⟩,by simp [aJ],by simp [cj],by simp [ey],fun j b_ bG=>?_⟩;cases j with
   | zero=>
     simp only [aqm,ap3] at bG;subst bG;exact ⟨⟨nB,h,v⟩,call,rfl,av,by rw [yR,bE];exact cU nB rfl,by rw [zT,c1]⟩
   | succ j=>
     obtain ⟨e,c,cq,cx,eE,i_⟩:=eh j b_ (by simpa using bG);exact ⟨e,c,by simpa using cq,cx,by rw [yR];exact eE,by rw [zT];exact i_⟩
theorem NT {o:Option br} {e:Option f_} {es:List f_} {aF:ag}:∀{bm:List Nat},sH P o e es aF bm->∀s ∈ bm,∃b_ c7,o=some b_/\e=some c7/\b_.wp P c7.r (yS es aF s) fun _ cQ _=>cQ=c7.v
 | [],_,s,h=>by simp at h
 | gm::bm,H,s,hm=>by
   simp only [sH] at H;simp only [aql] at hm;rcases hm with rfl | hm
   . cases o with
     | none=>exact H.1.elim
     | some o=>
       cases e with
       | none=>exact H.1.elim
       | some e=>exact ⟨o,e,rfl,rfl,H.1⟩
   . exact NT H.2 s hm
theorem NV {ops:List Oper} {dY aI eF:List Nat} {gs:List br} {es:List f_} {aF:ag}:∀{l:List Oper} {i:Nat},p9 P gs es aF (yg P ops dY aI eF i l)->∀j o,l[j]? =some o->looks o.op=true->e9 P o.op=false->
 sH P gs[posOf aI (i+j)]? es[posOf aI (i+j)]? es aF (eF.filter (tm P dY ops aI (i+j) ((dY[i+j]?).getD 0)))
 | [],i,_,j,o,h,_,_=>by simp at h
 | b_::os,i,H,j,o,h,aa,ae=>by
   simp only [yg] at H;cases j with
   | zero=>
     simp only [aqm,ap3] at h;subst h;rw [aa,ae] at H;simp only [asf,aq1,ap8,p9] at H;exact H.1
   | succ j=>
     have gL:p9 P gs es aF (yg P ops dY aI eF (i+1) os):=by
      cases av:(looks b_.op&&!e9 P b_.op) with
      | true=>rw [av] at H;simp only [ap8,p9] at H;exact H.2
      | false=>rw [av] at H;exact H
     have:=NV gL j o (by simpa using h) aa ae;rw [show i+1+j=i + (j+1) from by omega] at this;exact this
theorem abT (fz:ay<=top) (c':P.follows .mixedOrders=true) (bI:et P) {id:Nat} {ops:Array Oper} {order aI:List Nat} {r:bg} {h:ag} {Q:cV->bg->ag->Prop} (aY:Out ay r)
 (H:ft P (GL P ay ops order aI) r h Q):∃bb ab,Q .normal bb ab/\(Out ay bb/\bb eO=r eO)/\Dm P ay (.region id ops true) r h .normal bb ab:=by
 unfold GL at H;cases aF:(l6 ops.size order aI&&wg P ops aI) with
 | false=>rw [aF] at H;exact H.elim
 | true=>
   rw [aF] at H;simp only [ap8,ft] at H;simp only [ap2] at aF;obtain ⟨h',hO⟩:=aF;unfold l6 at h';simp only [ap2,aqE] at h';obtain ⟨pB,y5,BW,BX⟩:=h';have iK:∀k,k<ops.size->posOf aI k<ops.size/\order[posOf aI k]? =some k:=by
    intro k aA;have aL:aI[k]? =some (posOf aI k):=by unfold posOf;rw [ap4 (by omega)];rfl
    have:=vd BW aL;rw [aqP] at this;exact ⟨by have:=(aqp.1 this).1;omega,this⟩
   have l5:∀p,p<ops.size->∃i,i<ops.size/\posOf aI i=p:=by intro p ai;have aL:order[p]? =some (order[p]'(by omega)):=ap4 (by omega);have:=vd BX aL;rw [aqP] at this;refine ⟨order[p]'(by omega),by have:=(aqp.1 this).1;omega,?_⟩;unfold posOf;rw [this];rfl
   obtain ⟨nB,E3⟩:=yA aY;rw [<-E3] at H aY;obtain ⟨es,pb,a_,⟨Bw,cD⟩,⟨qB,SZ⟩,al,au,aJ,bE⟩:=W3 _ nB h _ H aY;refine ⟨_,a_,cD,⟨qB,by rw [<-E3];exact SZ⟩,fun rd aC E a w aD k s dk Jl=>?_⟩;have step:∀i:Nat,∃call,(hb P call/\hs P call)/\∀o,ops[i]? =some o->∃e,es[posOf aI i]? =some e/\(cG P ay ops o).run call e.r e.h=.val e.v (cj es a_ (posOf aI i+1))/\ey es pb (posOf aI i+1)=(fQ o.dst).run e.r e.v:=by
    intro i;cases aB:ops[i]? with
    | none=>exact ⟨l3,F_ P,fun o h=>by cases h⟩
    | some o=>
      obtain ⟨e,call,cq,cx,eE,i_⟩:=bE _ o (n9 (iK i (ap5.1 aB).1).2 aB);exact ⟨call,cx,fun b_ hP=>by cases hP;exact ⟨e,cq,eE,i_⟩⟩
   obtain ⟨calls,yN⟩:=Classical.axiomOfChoice step;have uF:∀j o,ops[j]? =some o->looks o.op=true->e9 P o.op=false->∃e,es[posOf aI j]? =some e/\∀s ∈ h_ P aI 0 ops.toList,
    tm P (eX [] ops.toList) ops.toList aI j (((eX [] ops.toList)[j]?).getD 0) s=true->∃c ab,(hb P c/\hs P c)/\(cG P ay ops o).run c e.r (cj es a_ s)=.val e.v ab:=by
    intro j o rS d' aej;have bG:=(ap5.1 rS).1;obtain ⟨e,cq,cx,eE⟩:=(yN j).2 o rS;refine ⟨e,cq,fun s aO hm=>?_⟩;cases aw:sF P ops.toList with
    | true=>
      rw [aw] at Bw;simp only [ap8] at Bw;have:=NV Bw j o (by simpa using rS) d' aej;rw [aqP] at this;obtain ⟨b_,c7,b7,z2,z3⟩:=NT this s (arK.2 ⟨aO,hm⟩);rw [VR,aq2,n9 (iK j bG).2 rS] at b7;simp only [arL,ap3] at b7;rw [aq2,cq] at z2;simp only [arL,ap3] at z2;subst b7;subst z2;rw [aee] at z3;obtain ⟨c,v,ab,dU,_,y3,y4⟩:=br.Ap z3;have W8:=y4 e.r rfl;rw [show v=e.v from y3] at W8;exact ⟨c,ab,dU,W8⟩
    | false=>
      have none:∀(l:List Oper),sF P l=false->∀(j:Nat) (o:Oper),l[j]? =some o->e9 P o.op=false:=by
       intro l
       induction l with
       | nil=>intro _ j o h;simp at h
       | cons x l bd=>
         intro h j o aY;simp only [sF,asa] at h;cases j with
         | zero=>simp only [aqm,ap3] at aY;subst aY;exact h.1
         | succ j=>exact bd h.2 j o (by simpa using aY)
      have jo:s=ops.size:=by
       rcases u2 aO with h | ⟨FN,b_,aa,ae,aM⟩
       . simpa using h
       . have:=none _ aw FN b_ aa;unfold ep at ae;rw [this] at ae;cases ae
      have flat:∀d,d<=ops.size->cj es a_ d=cj es a_ 0:=by
       intro d
       induction d with
       | zero=>intro _;rfl
       | succ d bd=>
         intro aq;obtain ⟨i,wN,oF⟩:=l5 d (by omega);have cC:ops[i]? =some ops[i]:=aqr wN;obtain ⟨ab4,bT,bN,_⟩:=(yN i).2 ops[i] cC;rw [oF] at bT bN;have cK:e9 P ops[i].op=false:=none _ aw i _ (by simp);rw [(we cK bN).1,<-bd (by omega)];simp [cj,bT]
      have SO:=(iK j bG).1;have:e.h=cj es a_ s:=by rw [jo,flat ops.size (ap7 _),<-flat (posOf aI j) (by omega)];simp [cj,cq]
      rw [<-this];exact ⟨_,_,(yN j).1,cx⟩
   have hlen:es.length=ops.size:=by rw [al,qQ,pB]
   have C:Cert P ay ops calls es nB h pb a_ (h_ P aI 0 ops.toList) order aI ops.size ops.size false:=
    ⟨hlen,ap7 _,ap7 _,iK,l5,au,aJ,fun i o cC _=>(yN i).2 o cC,
      fun i o cC=>by
       obtain ⟨cP,b7,z2,z3⟩:=QU hO i o cC
       exact ⟨cP,b7,z2,fun _ k ok aA _=>by
        obtain ⟨mk,dU,gn,y3⟩:=z3 k ok aA
        exact ⟨mk,dU,gn,fun ax aH bA=>.inl (y3 ax aH bA)⟩⟩,
      by simpa using FW (P:=P) (aI:=aI) (l:=ops.toList) (i:=0),
      fun j o aa ae=>by simpa using zu (aI:=aI) (i:=0) (j:=j) (l:=ops.toList) (by simpa using aa) ae,
      fun s aO=>by
       rcases u2 aO with h | ⟨j,o,aa,ae,aM⟩
       . exact .inl (.inl (by simpa using h))
       . exact .inr ⟨j,o,by simpa using aa,ae,by simpa using aM⟩,
      fun j o aa ae aM _=>uF j o aa ae aM,fun h=>absurd h (arB _),fun h=>absurd h (arB _)⟩
   have aA:RegRel0 E ay nB a:=⟨k.size,fun t aK=>by have:=congrFun E3 t;simp only [eg] at this;rw [this];exact k.aj t (r6 aK)⟩;have dE:∀k,¬(Array.replicate ops.size false).getD k false=true:=by
    intro k;rw [uB,Array.getElem?_replicate]
    split<;>simp
   have kC:Holds aC aC es a_ aI (kp ops es a_ aI (Array.replicate ops.size false) 0):=
    ⟨rfl,fun _ _=>rfl,fun k aA=>(by obtain ⟨_,_,_,_,a1⟩:=aA;omega),fun k bs aA=>(by obtain ⟨_,_,_,_,a1⟩:=aA;omega)⟩
   obtain ⟨gm,eb,g1,g2,g3,g4,g5,g6⟩:=C.advance ops.size 0 (by omega) (fun k o _ _ _=>dE k) aC kC (E:=E) (w:={w with drawn:=w.drawn}) (by rw [au];exact s.same rfl rfl rfl rfl);have hj:eg pb eO=r eO:=by rw [<-E3];exact SZ
   have fin:∀az bn w',E.le az->RegRel0 az ay pb bn->bn.defers=a.defers->bc aC az a_ w'->dk .normal bn w':=by
    intro az bn w' b7 z2 aoi z3;refine Jl az bn w' b7 ⟨z2.size,by rw [hj,aoi];exact k.defers.mono b7,fun t fH=>?_⟩ z3;by_cases aK:t<=top
    . exact z2.aj t aK
    . have cu:=z2.size;rw [qB t (by omega) fH];simp [Rel]
   refine W0 c' (QW bI (fun i=>(yN i).1.1) (fun i=>(yN i).1.2) C (gR:=E) (D:=a.defers) (fun _=>fin)
    (fun _ _ _ _ _ _ _ h=>absurd h (arB _)) (fun h=>absurd h (arB _)) ops.size _ a _ ?_ ?_)
   . exact aqK asi (by simp)
   . refine ⟨by simp,aA.size,rfl,fun bs aA=>absurd aA (dE bs),fun bs o e aA=>absurd aA (dE bs),E,gm,eb,Env.le.refl E,g1,g3,fun bs o aa ae=>⟨fun h=>absurd h (dE bs),fun h=>by have:=g4 bs o aa ae (arj _);omega⟩,
      fun bs o _ _ h=>absurd h (dE bs),g5,?_,fun t aK=>.inr ⟨fun bs o aA=>absurd aA (dE bs),aA.aj t aK⟩⟩
     exact g6.same rfl rfl rfl rfl
theorem acn {rd:Option Nat} {e:cV} {Q:Exit->Act->World->Prop} {a:Act} {w:World} (h:Q (toExit e) a w):(IW e).wpIn (cc rd) 0 P Q a w:=by
 cases e with
 | normal=>exact wpIn_skip h
 | exit id=>exact wpIn_exit h
 | ret=>exact wpIn_ret h
theorem alL (fz:ay<=top) (c':P.follows .mixedOrders=true) (bI:et P) {f:Operand} {bo:Array Tmp} {x y:Code} {r:bg} {h:ag} {Q:cV->bg->ag->Prop} (aY:Out ay r)
 (H:ft P (eI P ay (.rangeFunc f bo x y)) r h Q):∃e bb ab,Q e bb ab/\(Out ay bb/\((eI P ay (.rangeFunc f bo x y)).plain=true->bb eO=r eO))/\Dm P ay (.rangeFunc f bo x y) r h e bb ab:=by
 simp only [eI] at H ⊢;cases hO:(tz ay bo.toList&&(noMark x&&noMark y)) with
 | false=>rw [hO] at H;exact H.elim
 | true=>
   rw [hO] at H;simp only [ap8,ft] at H ⊢;simp only [ap2] at hO;obtain ⟨g,cs,bz,aL,s0,H⟩:=H;obtain ⟨cS,dN⟩:=yA aY;obtain ⟨v,ab,cX,eH,ax,aH,cD⟩:=H ⟨0,none,aG h.next,ay,cS,bo.toList,x,y⟩ ⟨rfl,dN,rfl,rfl,rfl,hO.1,hO.2.1,hO.2.2,aY⟩ rfl rfl;refine ⟨_,_,_,cD,⟨fun t aa ae=>by simp only [bg.set];rw [aqa ae];exact aY t aa ae,fun z=>by cases z⟩,fun rd aC E a w aD k s dk Jl=>?_⟩;have afl:rd=none:=aD.resolve_right (by simp [noMark]);subst afl;have aF:Rel E (.func g cs) (a.eval f):=by
    rw [<-bz];cases f with
    | tmp t=>
      simp only [rx];cases ak:Nat.ble t top with
      | false=>simp [aX.aT,Rel]
      | true=>
        simp only [ap8,aX.aT];exact k.aj t (r6 (aqQ ak))
    | const v=>exact ts E v
    | func f=>
      simp only [rx];cases ak:Nat.beq f dy with
      | true=>simp [aX.aT,Rel]
      | false=>
        simp only [aqe,aX.aT,Rel];exact .inl ⟨fun e=>by subst e;simp at ak,_,rfl,by simp [bj]⟩
    | global g=>simp [rx,aX.aT,Rel]
   simp only [Rel] at aF;rcases aF with ⟨_,eY,dp,aw⟩ | ⟨JJ,_⟩
   case inr=>exact absurd JJ aL
   refine (wpIn_rangeFunc fun fn _=>?_:(Code.rangeFunc f bo x y).wpIn (cc none) 0 P dk a w);have f0:=s.fresh h.next (ap7 _)
   obtain ⟨eP,wA⟩:∃eP,eP=E.put (aG h.next) ⟨w.heap.size,0,0⟩:=⟨_,rfl⟩;obtain ⟨bT,qH⟩:∃bT:World,bT={w with heap:=w.heap.push (.deferred (some []))}:=⟨_,rfl⟩;have B1:eP (aG h.next)=some ⟨w.heap.size,0,0⟩:=by rw [wA];unfold Env.put;rw [aqf rfl]
   have s1:bc aC eP (h.new .h2) bT:=by rw [wA,qH];refine s.alloc 0 ⟨⟨w.heap.size,0,0⟩,by unfold Env.put;rw [aqf rfl],s.frame.size,by simp⟩
   have pJ:E.le eP:=by rw [wA];exact Env.nk f0
   have w3:bT.heap.size=w.heap.size+1:=by rw [qH];simp
   obtain ⟨o,hP⟩:∃o:Loop,o={state:=.ready,pending:=none,fn,tmps:=a.tmps,params:=bo,assign:=x,body:=y,defers:=w.heap.size}:=⟨_,rfl⟩;obtain ⟨bO,lO⟩:∃bO,bO=eP.put (aG (h.next+1)) ⟨bT.heap.size,0,0⟩:=⟨_,rfl⟩;obtain ⟨bN,uQ⟩:∃bN:World,bN={bT with heap:=bT.heap.push (.loop o)}:=⟨_,rfl⟩;have f1:eP (aG (h.next+1))=none:=s1.fresh (h.next+1) (ap7 _);have mz:eP.le bO:=by rw [lO];exact Env.nk f1
   have B2:bO (aG (h.next+1))=some ⟨bT.heap.size,0,0⟩:=by rw [lO];unfold Env.put;rw [aqf rfl]
   have fI:vM bO ⟨0,none,aG h.next,ay,cS,bo.toList,x,y⟩ o:=by subst hP;refine ⟨rfl,rfl,rfl,rfl,rfl,k.size,fun t aK=>?_,_,mz _ _ B1,rfl⟩;have:=congrFun dN t;simp only [eg] at this;simp only [this];exact Rel.mono (pJ.trans mz) _ _ (k.aj t (r6 aK))
   have s2:bc aC bO ((h.new .h2).new (.fI ⟨0,none,aG h.next,ay,cS,bo.toList,x,y⟩)) bN:=by rw [lO,uQ];refine s1.alloc 0 ⟨⟨bT.heap.size,0,0⟩,o,by show eP.put (aG (h.next+1)) _ (aG (h.next+1))=_;unfold Env.put;rw [aqf rfl],by show aC.w.heap.size<=bT.heap.size;rw [w3];have:=s.frame.size;omega,by simp,?_⟩;have:=fI;rw [lO] at this;exact this
   obtain ⟨im,qy⟩:∃im,im=bT.heap.size:=⟨_,rfl⟩;have a6:Rel bO (.func dy [.ptr (aG (h.next+1)) 0]) (.func (.yield im) #[] #[]):=by simp only [Rel];exact .inr ⟨trivial,_,_,rfl,B2,by rw [qy]⟩
   have qn:bj bO (.func dy [.ptr (aG (h.next+1)) 0]::cs) (.func (.yield im) #[] #[]::eY.toList):=by simp only [bj];exact ⟨_,_,rfl,a6,bj.mono (pJ.trans mz) _ _ aw⟩
   have av:Calls P g (Value.func (Fn.yield im) #[] #[]::eY.toList).toArray bN (rangePost (cc none) 0 P im dk {a with defers:=[{target:=.collected w.heap.size,args:=#[]}]++a.defers}):=(cX.calls bI s0 aC bO bN _ qn s2).mono fun e w' ar=>by
    obtain ⟨az,apX,rfl,al,_,aJ⟩:=ar;simp only [rangePost];have du:=al _ _ B2;have ak:=aJ.at du;rw [ax] at ak;obtain ⟨p',b_,gS,cJ,a_,uM⟩:=ak;rw [du] at gS;cases gS;obtain ⟨t1,t2,t3,t4,t5,t6,t7,t8⟩:=uM;simp only at a_;rw [<-qy] at a_;have J3:(b_.state == LoopState.busy)=false:=by
     rw [t1]
     match ke:eH.st with
     | 0=>rfl
     | 1=>exact absurd ke aH
     | n+2=>rfl
    have k7:=(ap5.1 a_).1
    let ic:World:={w' with heap:=w'.heap.setIfInBounds im (.loop {b_ with state:=.exhausted})}
    have gF:(Instr.endLoop im).run P w'=.ok b_.pending ic:=by
     have qG:(setObj im (.loop {b_ with state:=.exhausted})).run P w'=.ok () ic:=by simp only [setObj,Sem.run,a_];rfl
     simp only [Instr.endLoop,Sem.run_bind,run_getLoop a_,Result.andThen_ok,J3,aqd,aqD,qG,Sem.run_pure]
    have o0:bc aC az (ab.set (aG (h.next+1)) .dead) ic:=by refine aJ.gone (p:=⟨bT.heap.size,0,0⟩) (by rw [ax];rfl) du cJ (by simp [ic]) (fun j bG=>?_) rfl rfl rfl;simp only at bG;simp only [ic,aqo];rw [aqa (fun e=>bG (by rw [<-e,qy]))]
    have gw:h0 az ay (r.set (some eO) (.tuple (.ptr (aG h.next) 0::(r eO).list))) {a with defers:=[{target:=.collected w.heap.size,args:=#[]}]++a.defers}:=by
     refine ⟨k.size,?_,fun t aK=>?_⟩
     . simp only [bg.set,aqB,l_,oh,aqM,aq8];exact ⟨_,_,rfl,⟨_,al _ _ (mz _ _ B1),rfl⟩,(k.defers.mono (pJ.trans (mz.trans al))).list⟩
     . simp only [bg.set];rw [aqa aK];exact Rel.mono (pJ.trans (mz.trans al)) _ _ (k.aj t aK)
    refine ⟨b_.pending,ic,gF,?_⟩;rw [t2];have fin:=Jl az _ ic (pJ.trans (mz.trans al)) gw o0;cases jn:eH.hW with
    | none=>rw [jn] at fin;exact fin
    | some e=>rw [jn] at fin;exact acn fin
   obtain ⟨wy,aeu,s0⟩:=s0;refine ⟨im,[{target:=.collected w.heap.size,args:=#[]}],bN,{target:=.fn (.func g) eY,args:=#[]++#[.func (.yield im) #[] #[]]},bN,g,_,bN,?_,?_,fun _ _=>trivial,?_,fun h=>by simp at h,sP.2 av⟩
   . subst hP uQ qH;have he:=run_enterLoop_outer (P:=P) (w:=w) fn a.tmps bo x y;rw [World.alloc,World.alloc] at he;simp only [Array.size_push] at qy ⊢;rw [qy];exact he
   . simp only [resolve,dp,Deferred.ofValue,Sem.run_pure];simp [Act.eval]
   . simp only [invoke];have e:(#[]++#[Value.func (.yield im) #[] #[]]:Array Value)++eY=(Value.func (.yield im) #[] #[]::eY.toList).toArray:=by apply ar1;simp
     rw [e];exact vm bI aeu s0 _ bN
theorem W1 (fz:ay<=top) (c':P.follows .mixedOrders=true) (bI:et P):∀(c:Code) (r:bg) (h:ag) (Q:cV->bg->ag->Prop),Out ay r->ft P (eI P ay c) r h Q->
 ∃e bb ab,Q e bb ab/\(Out ay bb/\((eI P ay c).plain=true->bb eO=r eO))/\Dm P ay c r h e bb ab:=by
 intro c
 induction c with
 | skip=>
   intro r h Q aY H;exact ⟨.normal,r,h,H,⟨aY,fun _=>rfl⟩,fun rd aC E a w aD k s dk cD=>wpIn_skip (cD E a w (Env.le.refl E) k s)⟩
 | label l=>
   intro r h Q aY H;exact ⟨.normal,r,h,H,⟨aY,fun _=>rfl⟩,fun rd aC E a w aD k s dk cD=>wpIn_label (cD E a w (Env.le.refl E) k s)⟩
 | exit id=>
   intro r h Q aY H;exact ⟨.exit id,r,h,H,⟨aY,fun _=>rfl⟩,fun rd aC E a w aD k s dk cD=>wpIn_exit (cD E a w (Env.le.refl E) k s)⟩
 | ret=>
   intro r h Q aY H;exact ⟨.ret,r,h,H,⟨aY,fun _=>rfl⟩,fun rd aC E a w aD k s dk cD=>wpIn_ret (cD E a w (Env.le.refl E) k s)⟩
 | region id ops draw=>
   intro r h Q aY H;cases draw with
   | true=>
     simp only [eI,ap8] at H;obtain ⟨bb,ab,al,au,aJ⟩:=abT fz c' bI (id:=id) aY H;exact ⟨.normal,bb,ab,al,⟨au.1,fun _=>au.2⟩,aJ⟩
   | false=>
     simp only [eI,aqe,ft] at H;obtain ⟨bb,ab,al,au,aJ⟩:=W4 bI ops.toList 0 (fun j=>by simp) r h _ aY H;refine ⟨.normal,bb,ab,al,⟨au.1,fun _=>au.2⟩,fun rd aC E a w aD k s dk cD=>?_⟩;refine wpIn_region ?_;have:=aJ rd aC E a w k s dk cD;rw [List.range_eq_range'];simpa using this
 | seq x y qK qL=>
   intro r h Q aY H;simp only [eI,ft] at H;obtain ⟨e,a8,aa,al,au,aJ⟩:=qK r h _ aY H;cases e with
   | normal=>
     obtain ⟨e,b',ae,cq,cx,eE⟩:=qL a8 aa Q au.1 al;refine ⟨e,b',ae,cq,⟨cx.1,fun z=>by simp only [eI,aR.plain,ap2] at z;exact (cx.2 z.2).trans (au.2 z.1)⟩,fun rd aC E a w aD k s dk cD=>?_⟩;refine wpIn_seq (aJ rd aC E a w (aD.imp (fun h=>h) fun h=>by simp only [noMark,ap2] at h;exact h.1) k s _ fun az bn w' b7 z2 z3=>?_).wp;exact (eE rd aC az bn w' (aD.imp (fun h=>h) fun h=>by simp only [noMark,ap2] at h;exact h.2) z2 z3 dk fun bO a2 bN dU gn y3=>cD bO a2 bN (b7.trans dU) gn y3).wp
   | exit i=>
     refine ⟨.exit i,a8,aa,al,⟨au.1,fun z=>by simp only [eI,aR.plain,ap2] at z;exact au.2 z.1⟩,fun rd aC E a w aD k s dk cD=>?_⟩;refine wpIn_seq (aJ rd aC E a w (aD.imp (fun h=>h) fun h=>by simp only [noMark,ap2] at h;exact h.1) k s _ fun az bn w' b7 z2 z3=>?_).wp;exact cD az bn w' b7 z2 z3
   | ret=>
     refine ⟨.ret,a8,aa,al,⟨au.1,fun z=>by simp only [eI,aR.plain,ap2] at z;exact au.2 z.1⟩,fun rd aC E a w aD k s dk cD=>?_⟩;refine wpIn_seq (aJ rd aC E a w (aD.imp (fun h=>h) fun h=>by simp only [noMark,ap2] at h;exact h.1) k s _ fun az bn w' b7 z2 z3=>?_).wp;exact cD az bn w' b7 z2 z3
 | cond c x y qK qL=>
   intro r h Q aY H;simp only [eI,ft] at H;cases bz:(rx c).aT r<;>rw [bz] at H<;>simp only at H<;>try (exact H.elim)
   rename_i t;have av:∀E a,h0 E ay r a->a.eval c=.bool t:=by
    intro E a k;cases c with
    | tmp d=>
      simp only [rx] at bz;cases ak:Nat.ble d top with
      | false=>rw [ak] at bz;simp [aX.aT] at bz
      | true=>
        rw [ak] at bz;simp only [ap8,aX.aT] at bz;have:=k.aj d (r6 (aqQ ak));rw [bz] at this;simp only [Rel] at this;exact this
    | const v=>
      simp only [rx,aX.aT] at bz;have:=ts E v;rw [bz] at this;simp only [Rel] at this;exact this
    | func f=>
      simp only [rx] at bz;cases ak:Nat.beq f dy<;>rw [ak] at bz<;>simp [aX.aT] at bz
    | global g=>simp [rx,aX.aT] at bz
   cases t with
   | true=>
     obtain ⟨e,a8,aa,al,au,aJ⟩:=qK r h Q aY (H.1 rfl);exact ⟨e,a8,aa,al,⟨au.1,fun z=>by simp only [eI,aR.plain,ap2] at z;exact au.2 z.1⟩,fun rd aC E a w aD k s dk cD=>wpIn_cond_true (av E a k) (aJ rd aC E a w (aD.imp (fun h=>h) fun h=>by simp only [noMark,ap2] at h;exact h.1) k s dk cD).wp⟩
   | false=>
     obtain ⟨e,a8,aa,al,au,aJ⟩:=qL r h Q aY (H.2 rfl);exact ⟨e,a8,aa,al,⟨au.1,fun z=>by simp only [eI,aR.plain,ap2] at z;exact au.2 z.2⟩,fun rd aC E a w aD k s dk cD=>wpIn_cond_false (av E a k) (aJ rd aC E a w (aD.imp (fun h=>h) fun h=>by simp only [noMark,ap2] at h;exact h.2) k s dk cD).wp⟩
 | block id x bd=>
   intro r h Q aY H;simp only [eI,ft] at H;obtain ⟨e,a8,aa,al,au,aJ⟩:=bd r h _ aY H;refine ⟨e.leave id,a8,aa,al,au,fun rd aC E a w aD k s dk cD=>?_⟩;refine wpIn_block (aJ rd aC E a w (aD.imp (fun h=>h) fun h=>h) k s _ fun az bn w' b7 z2 z3=>?_).wp;cases e with
   | normal=>exact cD az bn w' b7 z2 z3
   | ret=>exact cD az bn w' b7 z2 z3
   | exit i=>
     have:=cD az bn w' b7 z2 z3;simp only [toExit,Exit.inBlock];simp only [cV.leave] at this;by_cases aB:i=id
     . rw [aqf aB] at this ⊢;exact this
     . rw [aqa aB] at this ⊢;exact this
 | loop x bd=>
   intro r h Q aY H;simp only [eI,ft] at H;obtain ⟨I,μ,oD,Kk⟩:=H;have key:∀n r h,μ r h=n->I r h->Out ay r->∃e bb ab,Q e bb ab/\(Out ay bb/\((eI P ay (.loop x)).plain=true->bb eO=r eO))/\Dm P ay (.loop x) r h e bb ab:=by
    intro n
    induction n using Nat.strongRecOn with
    | _ n KB=>
      intro r h aW oD aY;obtain ⟨e,a8,aa,al,au,aJ⟩:=bd r h _ aY (Kk r h oD);have body:∀(rd:Option Nat) (aC:Fr) E a w,(rd=none\/noMark x=true)->h0 E ay r a->bc aC E h w->∀(b:Frame) (cN:List Item) (cs:List Frame),b.roundOf=rd->∃bn w' az,E.le az/\h0 az ay a8 bn/\bc aC az aa w'/\ArrivesIn (Machine.fenced P (cc rd)) P (lone (b.atR a (.code x::.inLoop x::cN)) cs w) b (.inLoop x::cN) cs (toExit e) bn w':=by intro rd aC E a w aD k s b cN cs kD;have:=(aJ rd aC E a w aD k s (fun c7 bn w'=>c7=toExit e/\∃az,E.le az/\h0 az ay a8 bn/\bc aC az aa w') (fun az bn w' al au aJ=>⟨rfl,az,al,au,aJ⟩)).wp b (.inLoop x::cN) cs kD trivial (GN _);obtain ⟨aH,a2,bN,⟨rfl,bO,b7,z2,z3⟩,iS⟩:=this;exact ⟨a2,bN,bO,b7,z2,z3,iS⟩
      cases e with
      | normal=>
        obtain ⟨Jh,aN⟩:=al;obtain ⟨aH,b',ae,cq,cx,eE⟩:=KB (μ a8 aa) (aW ▸ aN) a8 aa rfl Jh au.1;refine ⟨aH,b',ae,cq,⟨cx.1,fun z=>(cx.2 z).trans (au.2 z)⟩,fun rd aC E a w aD k s dk cD b cN cs kD=>?_⟩;obtain ⟨a2,bN,bO,b7,z2,z3,iS⟩:=body rd aC E a w (aD.imp (fun h=>h) fun h=>h) k s b cN cs kD;obtain ⟨bA,a3,ly,dU,gn⟩:=eE rd aC bO a2 bN aD z2 z3 dk (fun mL a4 ic t1 t2 t3=>cD mL a4 ic (b7.trans t1) t2 t3) b cN cs kD;exact ⟨bA,a3,ly,dU,.of_steps (StepsIn.trans iS (.one (qk _) stepR_inLoop)) gn⟩
      | exit i=>
        refine ⟨.exit i,a8,aa,al,au,fun rd aC E a w aD k s dk cD b cN cs kD=>?_⟩;obtain ⟨a2,bN,bO,b7,z2,z3,iS⟩:=body rd aC E a w (aD.imp (fun h=>h) fun h=>h) k s b cN cs kD;exact ⟨.exit i,a2,bN,cD bO a2 bN b7 z2 z3,.pass (x:=.inLoop x) rfl (fun _ _=>.inl (by simp)) iS⟩
      | ret=>
        refine ⟨.ret,a8,aa,al,au,fun rd aC E a w aD k s dk cD b cN cs kD=>?_⟩;obtain ⟨a2,bN,bO,b7,z2,z3,iS⟩:=body rd aC E a w (aD.imp (fun h=>h) fun h=>h) k s b cN cs kD;exact ⟨.ret,a2,bN,cD bO a2 bN b7 z2 z3,.pass (x:=.inLoop x) rfl (fun _ _=>.inl (by simp)) iS⟩
   exact key _ r h rfl oD aY
 | scope x bd=>
   intro r h Q aY H;obtain ⟨e,a8,aa,al,au,aJ⟩:=bd r h Q aY H;refine ⟨e,a8,aa,al,au,fun rd aC E a w aD k s dk cD=>?_⟩;refine Mg (aJ rd aC E a w (aD.imp (fun h=>h) fun h=>h) k s _ fun az bn w' b7 z2 z3=>?_).wp;have:=cD az bn w' b7 z2 z3;cases e<;>exact this
 | rangeFunc f bo x y _ _=>intro r h Q aY H;exact alL fz c' bI aY H
 | goto l=>intro r h Q aY H;exact H.elim
 | refuse WX=>intro r h Q aY H;exact H.elim
inductive ue where
 | t (n:Nat)
 | bW (n:Nat)
 | ph (n size:Nat)
 | bad
def oY (P:Program) (ay:Nat):List ResultVar->List ue
 | []=>[]
 | .tmp t::rs=>(bif Nat.ble t top&&Nat.blt t ay then .t t else .bad)::oY P ay rs
 | .cell a t::rs=>(bif Nat.ble a top&&Nat.blt a ay then (match bf P t with
   | none=>.bad
   | some aS=>bif aS.agg then .ph a aS.size else bif Nat.beq aS.size 1 then .bW a else .bad) else .bad)::oY P ay rs
def lM (r:bg) (h:ag):List ue->Option (List V)
 | []=>some []
 | x::xs=>match (match x with
   | .t n=>some (r n)
   | .bW n=>n1 h (r n)
   | .ph n size=>n0 size h (r n)
   | .bad=>none) with
   | none=>none
   | some v=>match lM r h xs with
     | none=>none
     | some ah=>some (v::ah)
theorem Bl {r:bg} {h:ag} {cS:bJ} (dN:eg cS=r):∀{l:List ResultVar} {ah:List V},lM r h (oY P ay l)=some ah->(lp P ay l).run cS h=some ah
 | [],ah,he=>by simpa [lM,oY,lp] using he
 | .tmp t::rs,ah,he=>by
   simp only [oY,lM] at he;unfold lp;cases av:(Nat.ble t top&&Nat.blt t ay) with
   | false=>rw [av] at he;simp at he
   | true=>
     rw [av] at he;simp only [ap8] at he ⊢;cases aD:lM r h (oY P ay rs) with
     | none=>rw [aD] at he;cases he
     | some xM=>
       rw [aD] at he;rw [Bl dN aD];have:=congrFun dN t;simp only [eg] at this;rw [this];exact he
 | .cell a t::rs,ah,he=>by
   simp only [oY,lM] at he;unfold lp;cases av:(Nat.ble a top&&Nat.blt a ay) with
   | false=>rw [av] at he;simp at he
   | true=>
     rw [av] at he;simp only [ap8] at he ⊢;have SU:=congrFun dN a;simp only [eg] at SU;rw [SU];unfold qP;cases aK:bf P t with
     | none=>rw [aK] at he;simp at he
     | some aS=>
       rw [aK] at he;simp only at he ⊢;cases R_:aS.agg with
       | true=>
         rw [R_] at he;simp only [ap8] at he ⊢;cases aw:n0 aS.size h (r a) with
         | none=>rw [aw] at he;cases he
         | some v=>
           rw [aw] at he;simp only at he ⊢;cases aD:lM r h (oY P ay rs) with
           | none=>rw [aD] at he;cases he
           | some xM=>rw [aD] at he;rw [Bl dN aD];exact he
       | false=>
         rw [R_] at he;simp only [aqe] at he ⊢;cases aO:Nat.beq aS.size 1 with
         | false=>rw [aO] at he;simp at he
         | true=>
           rw [aO] at he;simp only [ap8] at he ⊢;cases aw:n1 h (r a) with
           | none=>rw [aw] at he;cases he
           | some v=>
             rw [aw] at he;simp only at he ⊢;cases aD:lM r h (oY P ay rs) with
             | none=>rw [aD] at he;cases he
             | some xM=>rw [aD] at he;rw [Bl dN aD];exact he
theorem xk:∀(l:List V) (t:Nat),bg.bU l t=(l[t]?).getD .bad
 | [],t=>by simp [bg.bU]
 | v::ah,t=>by
   simp only [bg.bU];cases t with
   | zero=>simp
   | succ t=>simp [xk ah t]
def cV.ends:cV->Prop
 | .exit _=>False
 | _=>True
def Co:List V->ag->Option ag
 | [],h=>some h
 | .ptr b _::ds,h=>(match h.get b with
   | .h2=>Co ds (h.set b .dead)
   | _=>none)
 | _::_,_=>none
theorem TR {kU:vz}:∀{ds:List V} {h ae:ag},Co ds h=some ae->nm kU ds none h=.go none ae
 | [],h,ae,e=>by simp only [Co,ap3] at e;subst e;rfl
 | d::ds,h,ae,e=>by
   cases d<;>simp only [Co] at e<;>try (cases e;done)
   rename_i b o;simp only [nm];cases aL:h.get b<;>rw [aL] at e<;>simp only at e<;>try (cases e;done)
   exact TR e
theorem abr (c':P.follows .mixedOrders=true) (bI:et P) {f:FuncId} {fn:Func} {c:Code} {args:List V} {h:ag} {K:V->ag->Prop} (aF:P.funcs[f]? =some fn) (ak:fn.body=some c)
 (fz:Nat.ble fn.ntmps top=true) (a6:Nat.beq f dy=false) (kA:Nat.ble args.length fn.ntmps=true) {rc:aR} {eJ:List ue} (B3:eI P fn.ntmps c=rc) (w2:oY P fn.ntmps fn.results.toList=eJ) {Q:cV->bg->ag->Prop} (H:ft P rc (bg.bU args) h Q)
 (cD:∀e r ab,(rc.plain=true->r eO=.bad)->Q e r ab->e.ends/\∃ae,Co (r eO).list ab=some ae/\∃ah,lM r ae eJ=some ah/\K (oneOf ah) ae):cr P f args h K:=by
 subst B3 w2;rw [aqj] at fz kA;have aY:Out fn.ntmps (bg.bU args):=by intro t aK _;rw [xk,aqI (by omega)];rfl
 have mv:(bg.bU args) eO=.bad:=by rw [xk,aqI (by unfold eO;unfold top at fz;omega)];rfl
 obtain ⟨e,bb,ab,ar,qB,Ju⟩:=W1 fz c' bI c _ h _ aY H;obtain ⟨gF,ae,wU,ah,afI,dM⟩:=cD e bb ab (fun z=>(qB.2 z).trans mv) ar;have ik:f≠dy:=fun e=>by subst e;simp at a6
 refine ⟨oneOf ah,ae,⟨ik,.inl ⟨⟨fn,aF,by rw [ak];rfl⟩,fun aC E w xs ao s=>?_⟩⟩,dM⟩;have hlen:=ao.length;have cu:xs.toArray.size<=fn.ntmps:=by simp;omega
 refine sP.1 (callsIn_of_wp_marks (F:=cc none) (n:=0) aF ak trivial ?_);have k:h0 E fn.ntmps (bg.bU args) {tmps:=xs.toArray++Array.replicate (fn.ntmps-xs.toArray.size) undef,defers:=[]}:=by
  refine ⟨by simp;omega,by rw [mv];simp [l_],fun t _=>?_⟩;rw [xk];cases aL:args[t]? with
  | none=>simp [Rel]
  | some v=>
    obtain ⟨y,a6,aD⟩:=ao.get t v aL;simp only [aqL];have w4:t<xs.length:=(aqp.1 a6).1;rw [aqx,arZ (by simpa using w4)];simp only [List.getElem?_toArray,a6,aqL];exact aD
 have k2:Az P (fun _ _ _ _=>.fail):=fun f args u h g_ ab he=>by cases he
 have fin:∀az bn w',E.le az->h0 az fn.ntmps bb bn->bc aC az ab w'->LeavesInM (cc none) 0 P fn bn.tmps (fun e w'=>∃az x,e=.returned x/\E.le az/\Rel az (oneOf ah) x/\bc aC az ae w') bn.defers .returning w':=by
  intro az bn w' al au aJ;obtain ⟨cS,dN⟩:=yA qB.1;have aq:T.get .bad eZ cS=bb eO:=by have:=congrFun dN eO;simp only [eg] at this;exact this
  have aA:fv az fn.ntmps cS bn:=⟨⟨au.size,fun t aK=>by
   have:=congrFun dN t;simp only [eg] at this;rw [this]
   exact au.aj t (r6 aK)⟩,by rw [aq];exact au.defers⟩
  refine EM (C:=⟨P,fun _=>none,fun _=>none⟩) (u:=none) bI k2 aA rfl aJ ?_;rw [aq,TR wU];simp only [finish];rw [Bl dN afI];exact fun bO x bN cq cx eE=>⟨bO,x,rfl,al.trans cq,cx,eE⟩
 refine (Ju none aC E _ w (.inl rfl) k s _ fun az bn w' al au aJ=>?_).wp;have:=fin az bn w' al au aJ;cases e with
 | normal=>exact this
 | ret=>exact this
 | exit i=>exact gF.elim
theorem abt (c':P.follows .mixedOrders=true) (bI:et P) {f:FuncId} {fn:Func} {c:Code} {args:List V} {h:ag} {K:V->ag->Prop} (aF:P.funcs[f]? =some fn) (ak:fn.body=some c)
 (fz:Nat.ble fn.ntmps top=true) (a6:Nat.beq f dy=false) (kA:Nat.ble args.length fn.ntmps=true) {rc:aR} {eJ:List ue} (B3:eI P fn.ntmps c=rc) (w2:oY P fn.ntmps fn.results.toList=eJ) (du:rc.plain=true)
 (H:ft P rc (bg.bU args) h fun e r ab=>e.ends/\∃ah,lM r ab eJ=some ah/\K (oneOf ah) ab):cr P f args h K:=by
 refine abr c' bI aF ak fz a6 kA B3 w2 H fun e r ab aO ⟨aa,ah,ae,aM⟩=>⟨aa,ab,?_,ah,ae,aM⟩;rw [aO du];rfl
end
end
section
open Go Go.RowKit
variable [Lay]
theorem r9 (i j:Nat):(aG i=aG j)=(i=j):=by apply propext;exact ⟨gZ,fun h=>by rw [h]⟩
theorem alw (ah:List V):∀(i off:Nat) (x:V) (t:T V),i<off->T.put .bad x (aG i) (gl t off ah)=gl (T.put .bad x (aG i) t) off ah:=by
 induction ah with
 | nil=>intro i off x t _;rfl
 | cons v ah bd=>
   intro i off x t h;simp only [gl];rw [bd i (off+1) x _ (by omega),T.put_comm _ _ _ _ _ _ (fun e=>by rw [r9] at e;omega)]
def iw (ah:List V) (off:Nat) (ws:List V):List V:=ah.take off++ws++ah.drop (off+ws.length)
theorem Vx:∀(ah:List V) (base i:Nat) (x:V) (t:T V),i<ah.length->T.put .bad x (aG (base+i)) (gl t base ah)=gl t base (ah.set i x)
 | [],_,i,_,_,h=>by simp at h
 | v::ah,base,i,x,t,h=>by
   cases i with
   | zero=>
     simp only [gl,aro,List.set];rw [alw ah base (base+1) x _ (by omega),T.Vw]
   | succ i=>
     simp only [gl,List.set];have:=Vx ah (base+1) i x (T.put .bad v (aG base) t) (by simpa using h);rw [show base + (i+1)=base+1+i from by omega];exact this
theorem Wa (ah:List V) (off:Nat) (w:V) (ws:List V) (h:off<ah.length):iw (ah.set off w) (off+1) ws=iw ah off (w::ws):=by
 unfold iw;have aa:(ah.set off w).take (off+1)=ah.take off++[w]:=by rw [aqn (by simpa using h)];simp [List.take_set_of_le]
 have ae:(ah.set off w).drop (off+1+ws.length)=ah.drop (off + (w::ws).length):=by rw [List.drop_set_of_lt (by omega)];congr 1;simp;omega
 rw [aa,ae];simp
theorem G0 (ah:List V) (off:Nat) (ws:List V) (h:off+ws.length<=ah.length):(iw ah off ws).length=ah.length:=by unfold iw;simp;omega
theorem Gt:∀(ws ah:List V) (off:Nat),off+ws.length<=ah.length->gl (gl .e 0 ah) off ws=gl .e 0 (iw ah off ws)
 | [],ah,off,h=>by simp [gl,iw]
 | w::ws,ah,off,h=>by simp only [aqb] at h;simp only [gl];have aa:=Vx ah 0 off w .e (by omega);rw [aqP] at aa;rw [aa,Gt ws (ah.set off w) (off+1) (by simp;omega),Wa ah off w ws (by omega)]
theorem EU (ah:List V):∀(off i:Nat) (t:T V),T.get .bad (aG (off+i)) (gl t off ah)=if i<ah.length then (ah[i]?).getD .bad else T.get .bad (aG (off+i)) t:=by
 induction ah with
 | nil=>intro off i t;simp [gl]
 | cons v ah bd=>
   intro off i t;simp only [gl];cases i with
   | zero=>
     have:∀(ws:List V) (o:Nat) (s:T V),off<o->T.get .bad (aG off) (gl s o ws)=T.get .bad (aG off) s:=by
      intro ws
      induction ws with
      | nil=>intro o s _;rfl
      | cons w ws af1=>
        intro o s aY;simp only [gl];rw [af1 (o+1) _ (by omega),T.iD,aqa (fun e=>by rw [r9] at e;omega)]
     rw [aro,this ah (off+1) _ (by omega),T.iD];simp
   | succ i=>
     have:=bd (off+1) i (T.put .bad v (aG off) t);rw [show off+1+i=off + (i+1) from by omega] at this;rw [this,T.iD];have cK:¬aG off=aG (off + (i+1)):=fun e=>by rw [r9] at e;omega
     rw [aqa cK];simp
theorem EW (ah:List V):∀(n i:Nat),i+n<=ah.length->h5 (gl .e 0 ah) i n=(ah.drop i).take n
 | 0,i,h=>by simp [h5]
 | n+1,i,h=>by simp only [h5];have aa:=EU ah 0 i .e;rw [aqP] at aa;rw [aa,aqf (by omega),EW ah n (i+1) (by omega)];have aq:ah.drop i=ah[i]::ah.drop (i+1):=aqz (by omega);rw [aq,ari];simp [ap4 (by omega:i<ah.length)]
def b8.bU (ah:List V) (cI:Nat) (st:Bool):b8:=.cells ah.length (gl .e 0 ah) cI st
def b8.ro (ah:List V):b8:=.view ah.length (gl .e 0 ah)
def nA (h:ag) (b:aQ) (ah:List V):Prop:=h.get b=.ro ah\/∃cI st,h.get b=.bU ah cI st
def Own (h:ag) (b:aQ) (ah:List V) (cI:Nat) (st:Bool):Prop:=h.get b=.bU ah cI st
theorem nA.pW {α:Type} {h:ag} {b:aQ} {ah:List V} (H:nA h b ah) (d:α) (f:Nat->T V->α):(h.get b).pW d f=f ah.length (gl .e 0 ah):=by rcases H with H | ⟨_,_,H⟩<;>rw [H]<;>rfl
theorem Own.lay {h:ag} {b:aQ} {ah:List V} {cI:Nat} {st:Bool} (H:Own h b ah cI st) {off:Nat} {ws:List V} (aY:off+ws.length<=ah.length) (aa:eN ws=true):
 lay h b off ws=some (h.set b (.bU (iw ah off ws) cI st)):=by
 unfold a7.lay;rw [show h.get b=.cells ah.length (gl .e 0 ah) cI st from H];simp only [b8.on];rw [show Nat.ble (off+ws.length) ah.length=true from by rw [aqj];exact aY,aa];simp only [aq1,ap8,ap3,b8.bU];rw [G0 ah off ws aY,Gt ws ah off aY]
theorem Ur {h:ag} {ah:List V} (aw:ah.length<=top):gJ h ah=some (h.new (.bU ah 0 false)):=by unfold gJ;rw [show Nat.ble ah.length top=true from by rw [aqj];exact aw];rfl
theorem Lc {h:ag} {ah:List V} {cI:Nat} {st:Bool} (aw:ah.length<=top) (he:1<=cI):l2 h ah cI st=some (h.new (.bU ah cI st)):=by unfold l2;rw [show Nat.ble ah.length top=true from by rw [aqj];exact aw,show Nat.ble 1 cI=true from by rw [aqj];exact he];rfl
theorem ir (h:ag) (k:b8):(h.new k).next=h.next+1:=rfl
theorem oT (h:ag) (b:aQ) (k:b8):(h.set b k).next=h.next:=rfl
section
variable {P:Program} {r:bg} {h:ag}
theorem amy (r:bg) (d:Nat) (v:V) (t:Nat):bg.set r (some d) v t=if t=d then v else r t:=(rfl)
theorem amz (r:bg) (v:V):bg.set r none v=r:=(rfl)
theorem anu (r:bg) (u:Nat) (us:List Nat) (t:Nat):bg.trim r (u::us) t=if t=u then r t else bg.trim r us t:=(rfl)
theorem akb (v:V) (ah:List V):bg.bU (v::ah) 0=v:=(rfl)
theorem akc (v:V) (ah:List V) (t:Nat):bg.bU (v::ah) (t+1)=bg.bU ah t:=by simp [bg.bU]
theorem ack (r:bg) (n:Nat):aX.aT r (.t n)=r n:=(rfl)
theorem acj (r:bg) (v:V):aX.aT r (.c v)=v:=(rfl)
theorem UF {d:Option Nat} {g:G} {rs:List Nat} {K:bg->V->ag->Prop}:br.wp P ⟨d,g,none,rs⟩ r h K=g.wp P (r.trim rs) h fun v ab=>K (r.set d v) v ab:=(rfl)
theorem UD {d:Option Nat} {g:G} {j:Nat} {want:Bool} {rs:List Nat} {K:bg->V->ag->Prop}:br.wp P ⟨d,g,some (j,want),rs⟩ r h K=
 gate (r.trim rs j) want (g.wp P (r.trim rs) h fun v ab=>K (r.set d v) v ab) (K (r.set d (.tuple [])) (.tuple []) h):=(rfl)
variable {K:V->ag->Prop}
theorem po (k:IntKind):pn k k=true:=by cases k<;>rfl
theorem pK (a b:Int):Int.leB a b=decide (a<=b):=pL a b
theorem Ez (a b:Int):Int.hf a b=decide (a=b):=by rw [mS];rfl
variable (k:IntKind) (a b:Int)
theorem agq:(eK.int .add).run P (.int k a) (.int k b)=some (.int k (k.wrap (a+b))):=by simp [eK.run,mx,pG,V.eB,po]
theorem ahD:(eK.int .sub).run P (.int k a) (.int k b)=some (.int k (k.wrap (a-b))):=by simp [eK.run,mx,pG,V.eB,po]
theorem ahi:(eK.int .mul).run P (.int k a) (.int k b)=some (.int k (k.wrap (a * b))):=by simp [eK.run,mx,pG,V.eB,po]
theorem agO:(eK.int .eql).run P (.int k a) (.int k b)=some (.bool (decide (a=b))):=by simp [eK.run,mx,nW,V.eB,po,Ez]
theorem ahl:(eK.int .neq).run P (.int k a) (.int k b)=some (.bool (!decide (a=b))):=by simp [eK.run,mx,nW,V.eB,po,Ez]
theorem ahc:(eK.int .lss).run P (.int k a) (.int k b)=some (.bool (decide (a<b))):=by simp [eK.run,mx,nW,V.eB,po,pK];rw [aqX];simp
theorem ag9:(eK.int .leq).run P (.int k a) (.int k b)=some (.bool (decide (a<=b))):=by simp [eK.run,mx,nW,V.eB,po,pK]
theorem agX:(eK.int .gtr).run P (.int k a) (.int k b)=some (.bool (decide (b<a))):=by simp [eK.run,mx,nW,V.eB,po,pK];rw [aqX];simp
theorem agW:(eK.int .geq).run P (.int k a) (.int k b)=some (.bool (decide (b<=a))):=by simp [eK.run,mx,nW,V.eB,po,pK]
theorem agt (x y:Bool):(eK.yv false).run P (.bool x) (.bool y)=some (.bool (x == y)):=by simp [eK.run,jZ,Bj,rB]
theorem agx (x y:Bool):(eK.yv true).run P (.bool x) (.bool y)=some (.bool (!(x == y))):=by simp [eK.run,jZ,Bj,rB]
theorem anF (x:Bool):si .not (.bool x)=some (.bool (!x)):=(rfl)
theorem anE:si .neg (.int k a)=some (.int k (k.wrap (0-a))):=(rfl)
theorem wrap_i64 {n:Int} (aa:-9223372036854775808<=n) (ae:n<=9223372036854775807):IntKind.i64.wrap n=n:=by exact Go.IntWalk.i64_in n ⟨aa,ae⟩
end
section
variable {P:Program} {r:bg} {h:ag} {Q:cV->bg->ag->Prop}
theorem aaz {ops:List br}:ft P (.aj ops) r h Q=o3 P ops r h (Q .normal):=(rfl)
theorem aaA {a b:aR}:ft P (.seq a b) r h Q=ft P a r h fun e bb ab=>e.andThen (ft P b bb ab Q) (Q e bb ab):=(rfl)
theorem ann {A B:Prop}:cV.andThen .normal A B=A:=(rfl)
theorem ano {A B:Prop}:cV.andThen .ret A B=B:=(rfl)
theorem anl {A B:Prop} {i:Nat}:cV.andThen (.exit i) A B=B:=(rfl)
theorem ai0 {id:Nat}:cV.leave id .normal=.normal:=(rfl)
theorem ai1 {id:Nat}:cV.leave id .ret=.ret:=(rfl)
theorem aiZ {id i:Nat}:cV.leave id (.exit i)=if i=id then .normal else .exit i:=(rfl)
end
def xP {α:Type} (o:Option α) (k:α->Prop):Prop:=
 match o with
 | some v=>k v
 | none=>False
@[congr] theorem apP {α:Type} {o b_:Option α} {k:α->Prop} (h:o=b_):xP o k=xP b_ k:=by rw [h]
def V.opt (c:Bool) (v:V):V:=bif c then v else .tuple []
theorem akP (v:V):V.opt true v=v:=(rfl)
theorem akM (v:V):V.opt false v=.tuple []:=(rfl)
@[congr] theorem apy {c fT:Bool} {v cQ:V} (h:c=fT) (bz:fT=true->v=cQ):V.opt c v=V.opt fT cQ:=by
 subst h;cases c with
 | true=>rw [bz rfl]
 | false=>rfl
def V.bif (t:Bool) (a b:V):V:=bif t then a else b
theorem anM (a b:V):V.bif true a b=a:=(rfl)
theorem anL (a b:V):V.bif false a b=b:=(rfl)
theorem Y2 (t a b:Bool):V.bif t (.bool a) (.bool b)=.bool (bif t then a else b):=by cases t<;>rfl
theorem Y3 (t:Bool) (k:IntKind) (a b:Int):V.bif t (.int k a) (.int k b)=.int k (if t=true then a else b):=by cases t<;>rfl
theorem Y5 (t x:Bool):(bif t then true else x)=(t||x):=by cases t<;>rfl
theorem Y1 (t x:Bool):(bif t then x else false)=(t&&x):=by cases t<;>rfl
@[congr] theorem aou {t xF:Bool} {a bn b bR:V} (h:t=xF) (bp:xF=true->a=bn) (ak:xF=false->b=bR):V.bif t a b=V.bif xF bn bR:=by
 subst h;cases t with
 | true=>rw [V.bif,V.bif,bp rfl];rfl
 | false=>rw [V.bif,V.bif,ak rfl];rfl
def e6 (c:Bool) (A:Prop):Prop:=c=true->A
@[congr] theorem aop {c fT:Bool} {A jx:Prop} (h:c=fT) (bp:fT=true->A=jx):e6 c A=e6 fT jx:=by subst h;exact propext ⟨fun q e=>(bp e) ▸ q e,fun q e=>(bp e) ▸ q e⟩
theorem Xw (c:Bool):e6 c True=True:=propext ⟨fun _=>trivial,fun _ _=>trivial⟩
theorem Xy (A:Prop):e6 true A=A:=propext ⟨fun q=>q rfl,fun q _=>q⟩
theorem Xx (A:Prop):e6 false A=True:=propext ⟨fun _=>trivial,fun _ e=>by cases e⟩
def took (v:V) (want:Bool):Bool:=
 match v with
 | .bool b=>b == want
 | _=>false
theorem anr (b w:Bool):took (.bool b) w=(b == w):=(rfl)
theorem ant (ah:List V) (w:Bool):took (.tuple ah) w=false:=(rfl)
theorem ans (c:Bool) (v:V) (w:Bool):took (.opt c v) w=(c&&took v w):=by cases c<;>rfl
def fo (v:V):Prop:=
 match v with
 | .bool _=>True
 | .tuple _=>True
 | _=>False
theorem age (b:Bool):fo (.bool b)=True:=(rfl)
theorem agh (ah:List V):fo (.tuple ah)=True:=(rfl)
theorem agf (c b:Bool):fo (.opt c (.bool b))=True:=by cases c<;>rfl
def G.pH:G->Bool
 | .bV _ | .pick .. | .build .. | .eD _ | .fX .. | .tr _ | .bin .. | .un .. | .fn .. | .Cy .. | .D2 .. | .ta .. | .sg .. | .ea .. | .fy .. | .sV .. | .wu .. | .bQ .. | .uS .. | .nh .. | .ki .. | .look .. | .ext .. | .zD _ | .ew _ | .yj _ | .zz .. | .looks .. | .xo .. =>true
 | .cl (.int _) _=>true
 | .len .map _=>false
 | .len _ _=>true
 | _=>false
def V.tv {α:Type} (v:V) (d:α) (f:List V->α):α:=
 match v with
 | .agg cs=>f cs
 | _=>d
def V.CG {α:Type} (v:V) (d:α) (f:List V->α):α:=
 match v with
 | .tuple cs=>f cs
 | _=>d
def CO (c a b:V):Option V:=
 match c with
 | .bool t=>some (V.bif t a b)
 | _=>none
theorem ald (t:Bool) (a b:V):CO (.bool t) a b=some (V.bif t a b):=(rfl)
def hr (n:Nat) (x:V) (bu aB m3:Option V):Option V:=
 match x with
 | .bL=>Ae bu aB m3
 | .slice b off tj cap=>q0 n b off tj cap bu aB m3
 | .ee b off tj idx=>sf n b off tj idx bu aB m3
 | .gB b off kJ idx=>Af b off kJ idx bu aB m3
 | _=>none
def G.mH (P:Program) (g:G) (r:bg) (h:ag):Option V:=
 match g with
 | .bV x=>some (x.aT r)
 | .pick c a b=>CO (c.aT r) (a.aT r) (b.aT r)
 | .build z bo=>(match jE z (kX r bo) with
   | some cs=>some (.agg cs)
   | none=>none)
 | .eD x=>n1 h (x.aT r)
 | .fX n x=>n0 n h (x.aT r)
 | .tr x=>u7 (x.aT r)
 | .bin k x y=>k.run P (x.aT r) (y.aT r)
 | .un op x=>si op (x.aT r)
 | .cl (.int k) x=>(x.aT r).eB none fun _ n=>some (.int k (k.wrap n))
 | .fn f eY=>some (.func f (aX.fV r eY))
 | .Cy f first=>some (.mC f (aX.fV r first))
 | .D2 t z ok x=>A4 t z ok (x.aT r)
 | .ta t x=>some (.iface t (x.aT r))
 | .sg x bu aB m3=>nt (x.aT r) (aX.opt r bu) (aX.opt r aB) (aX.opt r m3)
 | .ea n x bu aB m3=>hr n (x.aT r) (aX.opt r bu) (aX.opt r aB) (aX.opt r m3)
 | .fy off x=>(x.aT r).jK none fun b o=>some (.ptr b (o+off))
 | .sV off x=>(x.aT r).tv none fun cs=>cs[off]?
 | .wu off n x=>(x.aT r).tv none fun cs=>some (.agg ((cs.drop off).take n))
 | .bQ n x i=>(w9 n).run (x.aT r) (i.aT r)
 | .uS n s x i=>(tc n s).run (x.aT r) (i.aT r)
 | .nh x i=>te.run (x.aT r) (i.aT r)
 | .ki t x i=>(td P t).run (x.aT r) (i.aT r)
 | .look k z ok x i=>iq k.eq z ok h (x.aT r) (i.aT r)
 | .ext x i=>(x.aT r).CG none fun ah=>ah[i]?
 | .len (.arr n) _=>some (.int .i64 n)
 | .len .str x=>(pN .string).run (x.aT r)
 | .len .slice x=>(pN (.slice 0)).run (x.aT r)
 | .zD args=>lk (fun b a=>!Int.leB a b) (aX.fV r args)
 | .ew args=>lk (fun b a=>!Int.leB b a) (aX.fV r args)
 | .yj x=>ur (x.aT r)
 | .zz z ok x i=>hI ⟨j5 h⟩ z ok h (x.aT r) (i.aT r)
 | .looks k z ok x i=>bif lW P k (i.aT r) then hI (structEq P k) z ok h (x.aT r) (i.aT r) else none
 | .xo neg x y=>zQ neg h (x.aT r) (y.aT r)
 | _=>none
section
variable {P:Program} {r:bg} {h:ag}
theorem pure_run {g:G} (ai:g.pH=true) (call:dX):g.run P call r h=ba.of h (g.mH P r h):=by
 cases g<;>simp only [G.pH] at ai<;>try (cases ai;done)
 all_goals simp only [G.run,G.mH]
 case bV x=>rfl
 case pick c a b=>
  generalize c.aT r=q;cases q<;>rfl
 case build z bo=>
  generalize jE z (kX r bo)=q;cases q<;>rfl
 case cl k x=>
  cases k<;>simp only at ai<;>try (cases ai;done)
  simp only [tS.run];generalize x.aT r=q;cases q<;>rfl
 case fn f eY=>rfl
 case Cy f first=>rfl
 case ta t x=>rfl
 case ea n x bu aB m3=>
  unfold hr;generalize x.aT r=q;cases q<;>rfl
 case sV off x=>
  generalize x.aT r=q;cases q<;>rfl
 case wu off n x=>
  generalize x.aT r=q;cases q<;>rfl
 case ext x i=>
  generalize x.aT r=q;cases q<;>rfl
 case len k x=>
  cases k<;>simp only at ai<;>first | rfl | (cases ai;done)
theorem RL {g:G} (ai:g.pH=true) {K:V->ag->Prop}:g.wp P r h K=xP (g.mH P r h) fun v=>K v h:=by
 have e:g.wp P r h K=∃v ab,g.run P l3 r h=.val v ab/\K v ab:=by cases g<;>first | rfl | (simp [G.pH] at ai;done)
 rw [e,pure_run ai];apply propext;cases bz:g.mH P r h with
 | none=>exact ⟨fun ⟨v,ab,q,_⟩=>(by cases q),fun q=>q.elim⟩
 | some v=>
   constructor
   . rintro ⟨v1,aa,q,k⟩;simp only [ba.of,ba.val.injEq] at q;obtain ⟨rfl,rfl⟩:=q;exact k
   . intro k;exact ⟨v,h,rfl,k⟩
theorem UG {d:Option Nat} {g:G} {rs:List Nat} {K:bg->V->ag->Prop} (ai:g.pH=true):br.wp P ⟨d,g,none,rs⟩ r h K=xP (g.mH P (r.trim rs) h) fun v=>K (r.set d v) v h:=by rw [UF,RL ai]
theorem UE {d:Option Nat} {g:G} {j:Nat} {want:Bool} {rs:List Nat} {K:bg->V->ag->Prop} (ai:g.pH=true):br.wp P ⟨d,g,some (j,want),rs⟩ r h K=
 (fo (r.trim rs j)/\e6 (took (r.trim rs j) want) ((g.mH P (r.trim rs) h).isSome=true)/\
   K (r.set d (V.opt (took (r.trim rs j) want) ((g.mH P (r.trim rs) h).getD .bad))) (V.opt (took (r.trim rs j) want) ((g.mH P (r.trim rs) h).getD .bad)) h):=by
 rw [UD,RL ai];generalize r.trim rs j=q;generalize g.mH P (r.trim rs) h=o;apply propext;cases q<;>simp only [gate,fo,took,asu,asb]
 case bool b=>
  cases b<;>cases want<;>cases o<;>simp [xP,e6,V.opt]
 case tuple ah=>simp [e6,V.opt]
@[congr] theorem apT {os:List br} {r bb:bg} {h ab:ag} {K:bg->ag->Prop} (ax:r=bb) (aH:h=ab):o3 P os r h K=o3 P os bb ab K:=by rw [ax,aH]
@[congr] theorem apR {os:List br} {r bb:bg} {h ab:ag} {K:List f_->bg->ag->Prop} (ax:r=bb) (aH:h=ab):kP P os r h K=kP P os bb ab K:=by rw [ax,aH]
@[congr] theorem aon {o:br} {r bb:bg} {h ab:ag} {K:bg->V->ag->Prop} (ax:r=bb) (aH:h=ab):o.wp P r h K=o.wp P bb ab K:=by rw [ax,aH]
@[congr] theorem aoo {g:G} {r bb:bg} {h ab:ag} {K:V->ag->Prop} (ax:r=bb) (aH:h=ab):g.wp P r h K=g.wp P bb ab K:=by rw [ax,aH]
@[congr] theorem apQ {c:aR} {r bb:bg} {h ab:ag} {Q:cV->bg->ag->Prop} (ax:r=bb) (aH:h=ab):ft P c r h Q=ft P c bb ab Q:=by rw [ax,aH]
@[congr] theorem aol {f:FuncId} {a bn:List V} {h ab:ag} {K:V->ag->Prop} (ax:a=bn) (aH:h=ab):cr P f a h K=cr P f bn ab K:=by rw [ax,aH]
def gX (k:b8) (off:Nat):Option V:=k.pW none fun n cs=>bif Nat.blt off n then some (T.get .bad (aG off) cs) else none
def nj (n:Nat) (k:b8) (off:Nat):Option V:=k.pW none fun m cs=>bif Nat.ble (off+n) m then some (.agg (h5 cs off n)) else none
theorem ajh (b:aQ) (off:Nat):n1 h (.ptr b off)=gX (h.get b) off:=(rfl)
theorem ajj (n:Nat) (b:aQ) (off:Nat):n0 n h (.ptr b off)=nj n (h.get b) off:=(rfl)
theorem TL {ah:List V} {off:Nat}:(bif Nat.blt off ah.length then some (T.get .bad (aG off) (gl .e 0 ah)) else none)=ah[off]? :=by
 have:=EU ah 0 off .e;rw [aqP] at this;rw [this];by_cases aY:off<ah.length
 . rw [show Nat.blt off ah.length=true from by rw [aqA];exact aY,aqf aY];simp [ap4 aY]
 . rw [show Nat.blt off ah.length=false from by rw [<-aqF,aqA];exact aY];rw [aqI (by omega)];rfl
theorem TJ (ah:List V) (cI:Nat) (st:Bool) (off:Nat):gX (.bU ah cI st) off=ah[off]? :=TL
theorem TK (ah:List V) (off:Nat):gX (.ro ah) off=ah[off]? :=TL
theorem TO {ah:List V} {off n:Nat}:(bif Nat.ble (off+n) ah.length then some (V.agg (h5 (gl .e 0 ah) off n)) else none)=if off+n<=ah.length then some (.agg ((ah.drop off).take n)) else none:=by
 by_cases aY:off+n<=ah.length
 . rw [show Nat.ble (off+n) ah.length=true from by rw [aqj];exact aY,aqf aY,EW ah n off aY];rfl
 . rw [show Nat.ble (off+n) ah.length=false from by rw [<-aqF,aqj];exact aY,aqa aY];rfl
theorem TM (n:Nat) (ah:List V) (cI:Nat) (st:Bool) (off:Nat):nj n (.bU ah cI st) off=if off+n<=ah.length then some (.agg ((ah.drop off).take n)) else none:=TO
theorem TN (n:Nat) (ah:List V) (off:Nat):nj n (.ro ah) off=if off+n<=ah.length then some (.agg ((ah.drop off).take n)) else none:=TO
theorem nA.eD {b:aQ} {ah:List V} (H:nA h b ah) (off:Nat):gX (h.get b) off=ah[off]? :=by
 rcases H with H | ⟨_,_,H⟩<;>rw [H]
 . exact TK ah off
 . exact TJ ah _ _ off
theorem nA.fX {b:aQ} {ah:List V} (H:nA h b ah) (n off:Nat):nj n (h.get b) off=if off+n<=ah.length then some (.agg ((ah.drop off).take n)) else none:=by
 rcases H with H | ⟨_,_,H⟩<;>rw [H]
 . exact TN n ah off
 . exact TM n ah _ _ off
def over:List V->List V->List V
 | ah,[]=>ah
 | [],_::_=>[]
 | _::ah,w::ws=>w::over ah ws
def oc:List V->Nat->List V->List V
 | ah,0,ws=>over ah ws
 | [],_+1,_=>[]
 | v::ah,n+1,ws=>v::oc ah n ws
theorem U0:∀(ah ws:List V),ws.length<=ah.length->over ah ws=ws++ah.drop ws.length
 | ah,[],_=>by cases ah<;>rfl
 | [],_::_,h=>by simp at h
 | v::ah,w::ws,h=>by simp only [over,aqM,aqb,arH];rw [U0 ah ws (by simpa using h)]
theorem Ag:∀(ah:List V) (off:Nat) (ws:List V),off+ws.length<=ah.length->oc ah off ws=iw ah off ws
 | ah,0,ws,h=>by cases ah<;>simp only [oc,iw,asw,aq8,aqP]<;>exact U0 _ ws (by omega)
 | [],n+1,ws,h=>by simp at h
 | v::ah,n+1,ws,h=>by simp only [aqb] at h;simp only [oc,iw];rw [Ag ah n ws (by omega)];simp only [iw,ari,aqM];rw [show n+1+ws.length=n+ws.length+1 from by omega,arH]
theorem Ml (ah:List V) (off:Nat) (ws:List V) (h:off+ws.length<=ah.length):(oc ah off ws).length=ah.length:=by rw [Ag ah off ws h,G0 ah off ws h]
def r0 (n:Nat) (h:ag) (b:aQ) (off:Nat) (y:V) (k:b8):Option ag:=
 bif Nat.beq y.cells.length n then k.on none fun m cs cI st=>
  bif Nat.ble (off+y.cells.length) m&&eN y.cells then some (h.set b (.cells m (gl cs off y.cells) cI st)) else none else none
theorem amY (n:Nat) (b:aQ) (off:Nat) (y:V):xE n h (.ptr b off) y=r0 n h b off y (h.get b):=(rfl)
theorem KT {n:Nat} {b:aQ} {off:Nat} {y:V} {ah:List V} {cI:Nat} {st:Bool} (aa:y.cells.length=n) (ae:eN y.cells=true) (aM:off+n<=ah.length):
 r0 n h b off y (.bU ah cI st)=some (h.set b (.bU (oc ah off y.cells) cI st)):=by
 unfold r0;rw [show Nat.beq y.cells.length n=true from by rw [aqE];exact aa];simp only [ap8,b8.bU,b8.on];rw [show Nat.ble (off+y.cells.length) ah.length=true from by rw [aqj,aa];exact aM,ae];simp only [aq1,ap8,ap3];rw [Ml ah off _ (by rw [aa];exact aM),Ag ah off _ (by rw [aa];exact aM),Gt _ ah off (by rw [aa];exact aM)]
theorem oA (k:b8):(h.new k).get (aG h.next)=k:=by rw [ag.iR,aqf rfl]
theorem iR (b:aQ) (k:b8):(h.new k).get b=if aG h.next=b then k else h.get b:=ag.iR h b k
theorem ej (b bR:aQ) (k:b8):(h.set b k).get bR=if b=bR then k else h.get bR:=ag.ej h b bR k
def Old (h:ag) (b:aQ):Prop:=ck b<h.next
theorem vb:∀b:aQ,aG (ck b)=b:=by
 have key:∀(b:aQ) (d:Nat),ck b+1<2 ^ d->va d (ck b)=b:=by
  intro b
  induction b with
  | z=>intro d aq;cases d<;>rfl
  | l p bd=>
    intro d aq;cases d with
    | zero=>simp [ck] at aq
    | succ d=>
      have ae:2 ^ (d+1)=2 * 2 ^ d:=by rw [Nat.pow_succ];omega
      rw [ae] at aq;simp only [ck] at aq ⊢;simp only [va,h1];rw [aqa (by omega),aqf (by omega),show (2 * ck p+1) / 2=ck p from by omega,bd d (by omega)]
  | r p bd=>
    intro d aq;cases d with
    | zero=>simp [ck] at aq
    | succ d=>
      have ae:2 ^ (d+1)=2 * 2 ^ d:=by rw [Nat.pow_succ];omega
      rw [ae] at aq;simp only [ck] at aq ⊢;simp only [va,h1];rw [aqa (by omega),aqa (by omega),show (2 * ck p+2) / 2-1=ck p from by omega,bd d (by omega)]
 intro b;exact key b _ Nat.lt_log2_self
theorem Lq {b:aQ} {i:Nat} (ak:Old h b) (aB:h.next<=i):(aG i=b)=False:=by
 apply propext;constructor
 . intro e;unfold Old at ak;rw [<-e,dx] at ak;omega
 . exact False.elim
theorem akj {b:aQ} {k:b8} (ak:Old h b):Old (h.new k) b:=Nat.lt_succ_of_lt ak
theorem UN {k:b8}:Old (h.new k) (aG h.next):=by unfold Old;rw [dx];exact Nat.lt_succ_self _
def EG (off:Nat) (x:V):Option V:=x.jK none fun b o=>some (.ptr b (o+off))
theorem acq (off:Nat) (b:aQ) (o:Nat):EG off (.ptr b o)=some (.ptr b (o+off)):=(rfl)
theorem akm {α:Type} (ah:List V) (d:α) (f:List V->α):V.CG (.tuple ah) d f=f ah:=(rfl)
theorem akl {α:Type} (ah:List V) (d:α) (f:List V->α):V.tv (.agg ah) d f=f ah:=(rfl)
def iF (x:V):Option V:=(pN (.slice 0)).run x
theorem ai7 (b:aQ) (off n c:Nat):iF (.slice b off n c)=some (.int .i64 n):=(rfl)
theorem ai5 (b:aQ) (off n c:Nat):iF (.ee b off n c)=some (.int .i64 n):=(rfl)
theorem ai8 (b:aQ) (off n c:Nat):iF (.gB b off n c)=some (.int .i64 0):=(rfl)
theorem ai6:iF .bL=some (.int .i64 0):=(rfl)
def FV (x:V):Option V:=(pN .string).run x
theorem ai9 (s:List UInt8):FV (.str s)=some (.int .i64 s.length):=(rfl)
def hG (n:Nat) (x i:V):Option V:=(w9 n).run x i
theorem FG (n:Nat) (b:aQ) (off len cap:Nat) (k:IntKind) (i:Int):hG n (.slice b off len cap) (.int k i)=if 0<=i/\i<len then some (.ptr b (off+i.toNat * n)) else none:=by simp only [hG,w9,V.eB,uV,pK];by_cases aa:0<=i<;>by_cases ae:(len:Int)<=i<;>simp [aa,ae]<;>omega
theorem FF (n:Nat) (b:aQ) (off len cap:Nat) (k:IntKind) (i:Int):hG n (.ee b off len cap) (.int k i)=if 0<=i/\i<len then some (.ptr b (off+i.toNat * n)) else none:=by simp only [hG,w9,V.eB,uV,pK];by_cases aa:0<=i<;>by_cases ae:(len:Int)<=i<;>simp [aa,ae]<;>omega
def Ek (k:IntKind) (x:V):Option V:=x.eB none fun _ n=>some (.int k (k.wrap n))
theorem abx (k bs:IntKind) (n:Int):Ek k (.int bs n)=some (.int k (k.wrap n)):=(rfl)
end
structure jy where
 all:List br
 asks:List (Nat × List Nat)
 es:List f_
def j6 (D:Option jy) (r:bg) (h:ag) (v:V):Option jy:=
 match D with
 | none=>none
 | some d=>some ⟨d.all,d.asks,d.es++[⟨r,h,v⟩]⟩
inductive iy where
 | os (D:Option jy) (os:List br)
 | c (b:aR)
 | a' (id:Nat)
section
variable (P:Program)
def vW (D:Option jy) (es:List f_) (aF:ag):Prop:=
 match D with
 | none=>True
 | some d=>p9 P d.all (d.es++es) aF d.asks
def bt:List iy->cV->bg->ag->(cV->bg->ag->Prop)->Prop
 | [],e,r,h,Q=>Q e r h
 | .os D os::aP,e,r,h,Q=>match e with
   | .normal=>kP P os r h fun es bb ab=>vW P D es ab/\bt aP .normal bb ab Q
   | e=>bt aP e r h Q
 | .c b::aP,e,r,h,Q=>match e with
   | .normal=>ft P b r h fun e bb ab=>bt aP e bb ab Q
   | e=>bt aP e r h Q
 | .a' id::aP,e,r,h,Q=>bt aP (e.leave id) r h Q
def dj (o:Option V) (d:Option Nat) (D:Option jy) (os:List br) (aP:List iy) (r:bg) (h:ag) (Q:cV->bg->ag->Prop):Prop:=
 xP o fun v=>bt P (.os (j6 D r h v) os::aP) .normal (r.set d v) h Q
def hK (o:ba) (d:Option Nat) (D:Option jy) (os:List br) (aP:List iy) (r:bg) (a1:ag) (Q:cV->bg->ag->Prop):Prop:=
 match o with
 | .val v h=>bt P (.os (j6 D r a1 v) os::aP) .normal (r.set d v) h Q
 | _=>False
def fh (v:V) (want:Bool) (d:Option Nat) (g:G) (rs:List Nat) (D:Option jy) (os:List br) (aP:List iy) (r:bg) (h:ag) (Q:cV->bg->ag->Prop):Prop:=
 gate v want (bt P (.os D (⟨d,g,none,rs⟩::os)::aP) .normal r h Q) (bt P (.os (j6 D r h (.tuple [])) os::aP) .normal (r.set d (.tuple [])) h Q)
def yk (v:V) (a b:aR) (aP:List iy) (r:bg) (h:ag) (Q:cV->bg->ag->Prop):Prop:=
 match v with
 | .bool t=>(t=true->bt P (.c a::aP) .normal r h Q)/\(t=false->bt P (.c b::aP) .normal r h Q)
 | _=>False
def rr (f:FuncId) (args:List V) (d:Option Nat) (D:Option jy) (os:List br) (aP:List iy) (r:bg) (h:ag) (Q:cV->bg->ag->Prop):Prop:=
 cr P f args h fun v ab=>bt P (.os (j6 D r h v) os::aP) .normal (r.set d v) ab Q
def MX (xs:List V) (d:Option Nat) (D:Option jy) (os:List br) (aP:List iy) (r:bg) (h:ag) (Q:cV->bg->ag->Prop):Prop:=
 NC P xs h fun v ab=>bt P (.os (j6 D r h v) os::aP) .normal (r.set d v) ab Q
def Iq (g:FuncId) (xs:List V) (d:Option Nat) (D:Option jy) (os:List br) (aP:List iy) (r:bg) (h:ag) (Q:cV->bg->ag->Prop):Prop:=
 if g=4294967296 then MX P xs d D os aP r h Q else rr P g xs d D os aP r h Q
def yi (f:V) (args:List V) (d:Option Nat) (D:Option jy) (os:List br) (aP:List iy) (r:bg) (h:ag) (Q:cV->bg->ag->Prop):Prop:=
 ∃g xs,f.target args=some (g,xs)/\Iq P g xs d D os aP r h Q
def F0 (b:aR) (aP:List iy) (r:bg) (h:ag) (Q:cV->bg->ag->Prop):Prop:=ft P (.loop b) r h fun e bb ab=>bt P aP e bb ab Q
end
section
variable {P:Program} {r:bg} {h:ag} {Q:cV->bg->ag->Prop} {aP:List iy} {os:List br} {D:Option jy}
theorem alq (r:bg) (h:ag) (v:V):j6 none r h v=none:=(rfl)
theorem alr (all:List br) (asks:List (Nat × List Nat)) (es:List f_) (r:bg) (h:ag) (v:V):j6 (some ⟨all,asks,es⟩) r h v=some ⟨all,asks,es++[⟨r,h,v⟩]⟩:=(rfl)
theorem cm {c:aR} (H:bt P [.c c] .normal r h Q):ft P c r h Q:=H
theorem ahn {e:cV}:bt P [] e r h Q=Q e r h:=(rfl)
theorem agv {e:cV} {id:Nat}:bt P (.a' id::aP) e r h Q=bt P aP (e.leave id) r h Q:=(rfl)
theorem ahy {a b:aR}:bt P (.c (.seq a b)::aP) .normal r h Q=bt P (.c a::.c b::aP) .normal r h Q:=by simp only [bt];rw [aaA];congr 1;funext e bb ab;cases e<;>rfl
theorem agw {id:Nat} {b:aR}:bt P (.c (.block id b)::aP) .normal r h Q=bt P (.c b::.a' id::aP) .normal r h Q:=(rfl)
theorem W2:∀(os:List br) (r:bg) (h:ag) (K:bg->ag->Prop),kP P os r h (fun _ r h=>K r h)=o3 P os r h K
 | [],_,_,_=>rfl
 | o::os,r,h,K=>by simp only [kP,o3];congr 1;funext bb v ab;exact W2 os bb ab K
theorem ahu {ops:List br}:bt P (.c (.aj ops)::aP) .normal r h Q=bt P (.os none ops::aP) .normal r h Q:=by simp only [bt,vW,asb];rw [W2,aaz]
theorem ahz:bt P (.c .skip::aP) .normal r h Q=bt P aP .normal r h Q:=(rfl)
theorem ahv:bt P (.c .ret::aP) .normal r h Q=bt P aP .ret r h Q:=(rfl)
theorem agQ {i:Nat}:bt P (.c (.exit i)::aP) .normal r h Q=bt P aP (.exit i) r h Q:=(rfl)
theorem agG {b:aR}:bt P (.c b::aP) .ret r h Q=bt P aP .ret r h Q:=(rfl)
theorem agD {b:aR} {i:Nat}:bt P (.c b::aP) (.exit i) r h Q=bt P aP (.exit i) r h Q:=(rfl)
theorem agE {c:aX} {a b:aR}:bt P (.c (.cond c a b)::aP) .normal r h Q=yk P (c.aT r) a b aP r h Q:=by simp only [bt,ft];cases c.aT r<;>rfl
theorem ahb {b:aR}:bt P (.c (.loop b)::aP) .normal r h Q=F0 P b aP r h Q:=(rfl)
theorem agM {ops:List br} {asks:List (Nat × List Nat)}:bt P (.c (.draw ops asks)::aP) .normal r h Q=bt P (.os (some ⟨ops,asks,[]⟩) ops::aP) .normal r h Q:=(rfl)
theorem ahr:bt P (.os none []::aP) .normal r h Q=bt P aP .normal r h Q:=by simp only [bt,kP,vW,asb]
theorem agL {all:List br} {asks:List (Nat × List Nat)} {es:List f_}:bt P (.os (some ⟨all,asks,es⟩) []::aP) .normal r h Q=(p9 P all es h asks/\bt P aP .normal r h Q):=by simp only [bt,kP,vW,aq7]
theorem yf (D:Option jy) (r:bg) (h:ag) (v:V) (es:List f_) (aF:ag):vW P (j6 D r h v) es aF=vW P D (⟨r,h,v⟩::es) aF:=by
 cases D with
 | none=>rfl
 | some d=>simp only [j6,vW,arf,aqM,aq8]
theorem gW {d:Option Nat} {g:G} {rs:List Nat} (ai:g.pH=true):bt P (.os D (⟨d,g,none,rs⟩::os)::aP) .normal r h Q=dj P (g.mH P (r.trim rs) h) d D os aP r h Q:=by simp only [bt,kP,dj];rw [UG ai];simp only [yf]
theorem gV {d:Option Nat} {g:G} {j:Nat} {want:Bool} {rs:List Nat} (ai:g.pH=true):bt P (.os D (⟨d,g,some (j,want),rs⟩::os)::aP) .normal r h Q=
 (fo (r.trim rs j)/\e6 (took (r.trim rs j) want) ((g.mH P (r.trim rs) h).isSome=true)/\
   dj P (some (V.opt (took (r.trim rs j) want) ((g.mH P (r.trim rs) h).getD .bad))) d D os aP r h Q):=by
 simp only [bt,kP,dj,xP];rw [UE ai];simp only [yf]
def G.Tr:G->Bool
 | .call .. | .qb .. =>true
 | _=>false
theorem iX {d:Option Nat} {g:G} {rs:List Nat} (ai:g.pH=false) (av:g.Tr=false):bt P (.os D (⟨d,g,none,rs⟩::os)::aP) .normal r h Q=hK P (g.run P l3 (r.trim rs) h) d D os aP r h Q:=by
 simp only [bt,kP];rw [UF];have e:∀K:V->ag->Prop,g.wp P (r.trim rs) h K=∃v ab,g.run P l3 (r.trim rs) h=.val v ab/\K v ab:=by intro K;cases g<;>first | rfl | (simp [G.Tr] at av;done)
 rw [e];unfold hK;simp only [bt,yf];cases g.run P l3 (r.trim rs) h with
 | fail=>exact propext ⟨fun ⟨v,ab,q,_⟩=>(by cases q),fun q=>q.elim⟩
 | cL v1 aa=>exact propext ⟨fun ⟨v,ab,q,_⟩=>(by cases q),fun q=>q.elim⟩
 | val v1 aa=>
   apply propext;constructor
   . rintro ⟨v,ab,q,k⟩;simp only [ba.val.injEq] at q;obtain ⟨rfl,rfl⟩:=q;exact k
   . intro k;exact ⟨_,_,rfl,k⟩
theorem il {d:Option Nat} {g:G} {j:Nat} {want:Bool} {rs:List Nat} (ai:g.pH=false):bt P (.os D (⟨d,g,some (j,want),rs⟩::os)::aP) .normal r h Q=fh P (r.trim rs j) want d g rs D os aP r h Q:=by simp only [fh,bt,kP,yf];rw [UD];rfl
theorem Tx {d:Option Nat} {f:FuncId} {args:List aX} {rs:List Nat}:bt P (.os D (⟨d,.call f args,none,rs⟩::os)::aP) .normal r h Q=rr P f (aX.fV (r.trim rs) args) d D os aP r h Q:=by simp only [rr,bt,kP,yf];rfl
theorem agB {d:Option Nat} {f:aX} {args:List aX} {rs:List Nat}:bt P (.os D (⟨d,.qb f args,none,rs⟩::os)::aP) .normal r h Q=yi P (f.aT (r.trim rs)) (aX.fV (r.trim rs) args) d D os aP r h Q:=by simp only [yi,Iq,MX,rr,bt,kP,yf];rfl
theorem aaF {f:V} {g:FuncId} {xs args:List V} {d:Option Nat} (aF:f.target args=some (g,xs)):yi P f args d D os aP r h Q=Iq P g xs d D os aP r h Q:=by
 apply propext;constructor
 . rintro ⟨dI,apW,q,k⟩;rw [aF] at q;simp only [ap3,aq9] at q;obtain ⟨rfl,rfl⟩:=q;exact k
 . intro k;exact ⟨_,_,aF,k⟩
theorem aaE {g:FuncId} {cs args:List V} {d:Option Nat}:yi P (.func g cs) args d D os aP r h Q=if g=4294967296 then MX P (args++cs) d D os aP r h Q else rr P g (args++cs) d D os aP r h Q:=aaF rfl
@[congr] theorem apI {o b_:Option V} {d:Option Nat} (e:o=b_):dj P o d D os aP r h Q=dj P b_ d D os aP r h Q:=by rw [e]
@[congr] theorem apH {o b_:ba} {d:Option Nat} (e:o=b_):hK P o d D os aP r h Q=hK P b_ d D os aP r h Q:=by rw [e]
@[congr] theorem aoC {v cQ:V} {a b:aR} (e:v=cQ):yk P v a b aP r h Q=yk P cQ a b aP r h Q:=by rw [e]
@[congr] theorem aoO {v cQ:V} {want:Bool} {d:Option Nat} {g:G} {rs:List Nat} (e:v=cQ):fh P v want d g rs D os aP r h Q=fh P cQ want d g rs D os aP r h Q:=by rw [e]
@[congr] theorem aoA {f IX:V} {args A1:List V} {d:Option Nat} (ax:f=IX) (aH:args=A1):yi P f args d D os aP r h Q=yi P IX A1 d D os aP r h Q:=by rw [ax,aH]
@[congr] theorem aoz {f:FuncId} {args A1:List V} {d:Option Nat} (aH:args=A1):rr P f args d D os aP r h Q=rr P f A1 d D os aP r h Q:=by rw [aH]
@[congr] theorem apS {e c7:cV} {bb:bg} {ab:ag} (cA:e=c7) (ax:r=bb) (aH:h=ab):bt P aP e r h Q=bt P aP c7 bb ab Q:=by rw [cA,ax,aH]
@[congr] theorem apg {b:aR} {bb:bg} {ab:ag} (ax:r=bb) (aH:h=ab):F0 P b aP r h Q=F0 P b aP bb ab Q:=by rw [ax,aH]
theorem am7 {v:V} {d:Option Nat}:dj P (some v) d D os aP r h Q=bt P (.os (j6 D r h v) os::aP) .normal (r.set d v) h Q:=(rfl)
theorem amQ {v:V} {ab:ag} {d:Option Nat}:hK P (.val v ab) d D os aP r h Q=bt P (.os (j6 D r h v) os::aP) .normal (r.set d v) ab Q:=(rfl)
theorem Qx {t:Bool} {a b:aR}:yk P (.bool t) a b aP r h Q=((t=true->bt P (.c a::aP) .normal r h Q)/\(t=false->bt P (.c b::aP) .normal r h Q)):=(rfl)
theorem RN {b:Bool} {d:Option Nat} {g:G} {rs:List Nat}:fh P (.bool b) true d g rs D os aP r h Q=((b=true->bt P (.os D (⟨d,g,none,rs⟩::os)::aP) .normal r h Q)/\(b=false->bt P (.os (j6 D r h (.tuple [])) os::aP) .normal (r.set d (.tuple [])) h Q)):=(rfl)
theorem RM {b:Bool} {d:Option Nat} {g:G} {rs:List Nat}:fh P (.bool b) false d g rs D os aP r h Q=((b=false->bt P (.os D (⟨d,g,none,rs⟩::os)::aP) .normal r h Q)/\(b=true->bt P (.os (j6 D r h (.tuple [])) os::aP) .normal (r.set d (.tuple [])) h Q)):=(rfl)
theorem ac1 {ah:List V} {want:Bool} {d:Option Nat} {g:G} {rs:List Nat}:fh P (.tuple ah) want d g rs D os aP r h Q=bt P (.os (j6 D r h (.tuple [])) os::aP) .normal (r.set d (.tuple [])) h Q:=(rfl)
theorem acV {c b:Bool} {want:Bool} {d:Option Nat} {f:FuncId} {args:List aX} {rs:List Nat} (v:V)
 (bz:(c&&(b == want))=true->e4 P f (aX.fV (r.trim rs) args) h v h)
 (H:bt P (.os (j6 D r h (V.opt (c&&(b == want)) v)) os::aP) .normal (r.set d (V.opt (c&&(b == want)) v)) h Q):fh P (V.opt c (.bool b)) want d (.call f args) rs D os aP r h Q:=by
 unfold fh;rw [Tx];cases c with
 | false=>exact H
 | true=>
   simp only [V.opt,ap8,aqY] at bz H ⊢;cases b<;>cases want<;>simp only [gate]
   . exact ⟨fun _=>⟨v,h,bz rfl,H⟩,fun e=>by cases e⟩
   . exact ⟨fun e=>(by cases e),fun _=>H⟩
   . exact ⟨fun e=>(by cases e),fun _=>H⟩
   . exact ⟨fun _=>⟨v,h,bz rfl,H⟩,fun e=>by cases e⟩
def qR (v:V) (o:Option ag):ba:=ho v o
theorem akQ (v:V) (ab:ag):qR v (some ab)=.val v ab:=(rfl)
def N9 (b:Bool) (o:ba):ba:=bif b then o else .fail
theorem Zb (o:ba):N9 true o=o:=(rfl)
def D8 (n:Nat) (h:ag) (o:Option (List V)):ba:=
 match o with
 | some cs=>qR (.slice (aG h.next) 0 n n) (gJ h cs)
 | none=>.fail
theorem Zc (n:Nat) (cs:List V):D8 n h (some cs)=qR (.slice (aG h.next) 0 n n) (gJ h cs):=(rfl)
theorem amk {n size:Nat} {z:List V} {bo:List (Nat × Nat × aX)}:(G.iB n size z bo).run P l3 r h=D8 n h (jE (ja z n) (kX r bo)):=by
 simp only [G.run];cases jE (ja z n) (kX r bo) with
 | none=>rfl
 | some cs=>
   simp only [D8,qR,ho];cases gJ h cs<;>rfl
theorem acw (cells:List V):jE cells []=some cells:=(rfl)
theorem acu {cells:List V} {off size:Nat} {v:V} {rest:List (Nat × Nat × V)} (aa:v.fD=true) (ae:v.cells.length=size) (aM:off+size<=cells.length):
 jE cells ((off,size,v)::rest)=jE (oc cells off v.cells) rest:=by
 simp only [jE];rw [aa,show Nat.beq v.cells.length size=true from by rw [aqE];exact ae,show Nat.ble (off+v.cells.length) cells.length=true from by rw [aqj,ae];exact aM];simp only [aq1,ap8];congr 1;have fy:∀(ws cs:List V) (o:Nat),o+ws.length<=cs.length->sU cs o ws=iw cs o ws:=by
  intro ws
  induction ws with
  | nil=>intro cs o _;simp [sU,iw]
  | cons w ws bd=>
    intro cs o aY;simp only [aqb] at aY;simp only [sU];rw [bd (cs.set o w) (o+1) (by simp;omega),Wa cs o w ws (by omega)]
 rw [fy _ _ _ (by rw [ae];exact aM),Ag _ _ _ (by rw [ae];exact aM)]
def D' (o:Option (List V)):Option V:=
 match o with
 | some cs=>some (.agg cs)
 | none=>none
theorem Ze (cs:List V):D' (some cs)=some (.agg cs):=(rfl)
theorem aci:kX r []=[]:=(rfl)
theorem ach {o s:Nat} {x:aX} {bo:List (Nat × Nat × aX)}:kX r ((o,s,x)::bo)=(o,s,x.aT r)::kX r bo:=(rfl)
def p8 (P:Program) (o:br) (e:f_) (H:ag):Prop:=o.wp P e.r H fun _ cQ _=>cQ=e.v
theorem YN {ops:List br} {es:List f_} {aF:ag}:p9 P ops es aF []=True:=(rfl)
theorem YM {ops:List br} {es:List f_} {aF:ag} {p:Nat} {bm:List Nat} {rest:List (Nat × List Nat)}:p9 P ops es aF ((p,bm)::rest)=(sH P ops[p]? es[p]? es aF bm/\p9 P ops es aF rest):=(rfl)
theorem YJ {o:Option br} {e:Option f_} {es:List f_} {aF:ag}:sH P o e es aF []=True:=(rfl)
theorem YF {o:br} {e:f_} {es:List f_} {aF:ag} {s:Nat} {bm:List Nat}:sH P (some o) (some e) es aF (s::bm)=(p8 P o e (yS es aF s)/\sH P (some o) (some e) es aF bm):=(rfl)
def JA (o:Option f_) (aF:ag):ag:=
 match o with
 | some e=>e.h
 | none=>aF
theorem aef (es:List f_) (aF:ag) (s:Nat):yS es aF s=JA es[s]? aF:=(rfl)
theorem aeh (e:f_) (aF:ag):JA (some e) aF=e.h:=(rfl)
theorem aeg (aF:ag):JA none aF=aF:=(rfl)
theorem D1 {d:Option Nat} {g:G} {rs:List Nat} {e:f_} {H:ag} (ai:g.pH=true):p8 P ⟨d,g,none,rs⟩ e H=(g.mH P (e.r.trim rs) H=some e.v):=by
 unfold p8;rw [UG ai];apply propext;cases g.mH P (e.r.trim rs) H with
 | none=>exact ⟨fun q=>q.elim,fun q=>(by cases q)⟩
 | some v=>exact ⟨fun q=>by rw [show v=e.v from q],fun q=>by cases q;rfl⟩
theorem NU {d:Option Nat} {g:G} {j:Nat} {want:Bool} {rs:List Nat} {e:f_} {H:ag} (ai:g.pH=true):p8 P ⟨d,g,some (j,want),rs⟩ e H=
 (fo (e.r.trim rs j)/\e6 (took (e.r.trim rs j) want) ((g.mH P (e.r.trim rs) H).isSome=true)/\V.opt (took (e.r.trim rs j) want) ((g.mH P (e.r.trim rs) H).getD .bad)=e.v):=by
 unfold p8;rw [UE ai]
theorem YG {d:Option Nat} {x:aX} {rs:List Nat} {e:f_} {H:ag}:p8 P ⟨d,.eD x,none,rs⟩ e H=(n1 H (x.aT (e.r.trim rs))=some e.v):=D1 rfl
theorem YH {d:Option Nat} {n:Nat} {x:aX} {rs:List Nat} {e:f_} {H:ag}:p8 P ⟨d,.fX n x,none,rs⟩ e H=(n0 n H (x.aT (e.r.trim rs))=some e.v):=D1 rfl
theorem uj {d:Option Nat} {k:kS} {z:V} {ok:Bool} {x i:aX} {rs:List Nat} {e:f_} {H:ag}:p8 P ⟨d,.look k z ok x i,none,rs⟩ e H=(iq k.eq z ok H (x.aT (e.r.trim rs)) (i.aT (e.r.trim rs))=some e.v):=D1 rfl
theorem YK {d:Option Nat} {x:aX} {j:Nat} {want:Bool} {rs:List Nat} {e:f_} {H:ag}:p8 P ⟨d,.eD x,some (j,want),rs⟩ e H=
 (fo (e.r.trim rs j)/\e6 (took (e.r.trim rs j) want) ((n1 H (x.aT (e.r.trim rs))).isSome=true)/\V.opt (took (e.r.trim rs j) want) ((n1 H (x.aT (e.r.trim rs))).getD .bad)=e.v):=NU rfl
theorem YL {d:Option Nat} {n:Nat} {x:aX} {j:Nat} {want:Bool} {rs:List Nat} {e:f_} {H:ag}:p8 P ⟨d,.fX n x,some (j,want),rs⟩ e H=
 (fo (e.r.trim rs j)/\e6 (took (e.r.trim rs j) want) ((n0 n H (x.aT (e.r.trim rs))).isSome=true)/\V.opt (took (e.r.trim rs j) want) ((n0 n H (x.aT (e.r.trim rs))).getD .bad)=e.v):=NU rfl
end
def GM (x:V) (h:ag):ba:=
 match x with
 | .str s=>.val (.ptr (aG h.next) 0) (h.new (.iter s 0))
 | _=>.fail
theorem al6 (s:List UInt8) (h:ag):GM (.str s) h=.val (.ptr (aG h.next) 0) (h.new (.iter s 0)):=(rfl)
section
variable {P:Program} {r:bg} {h:ag} {Q:cV->bg->ag->Prop} {aP:List iy} {os:List br} {D:Option jy} {d:Option Nat} {rs:List Nat}
theorem ahj {x:aX}:bt P (.os D (⟨d,(.bV x),none,rs⟩::os)::aP) .normal r h Q=dj P (some (x.aT (r.trim rs))) d D os aP r h Q:=gW rfl
theorem ail {x:aX} {j:Nat} {want:Bool}:bt P (.os D (⟨d,(.bV x),some (j,want),rs⟩::os)::aP) .normal r h Q=(fo (r.trim rs j)/\e6 (took (r.trim rs j) want) ((some (x.aT (r.trim rs))).isSome=true)/\dj P (some (V.opt (took (r.trim rs j) want) ((some (x.aT (r.trim rs))).getD .bad))) d D os aP r h Q):=gV rfl
theorem aht {c a b:aX}:bt P (.os D (⟨d,(.pick c a b),none,rs⟩::os)::aP) .normal r h Q=dj P (CO (c.aT (r.trim rs)) (a.aT (r.trim rs)) (b.aT (r.trim rs))) d D os aP r h Q:=gW rfl
theorem ais {c a b:aX} {j:Nat} {want:Bool}:bt P (.os D (⟨d,(.pick c a b),some (j,want),rs⟩::os)::aP) .normal r h Q=(fo (r.trim rs j)/\e6 (took (r.trim rs j) want) ((CO (c.aT (r.trim rs)) (a.aT (r.trim rs)) (b.aT (r.trim rs))).isSome=true)/\dj P (some (V.opt (took (r.trim rs j) want) ((CO (c.aT (r.trim rs)) (a.aT (r.trim rs)) (b.aT (r.trim rs))).getD .bad))) d D os aP r h Q):=gV rfl
theorem agA {z:List V} {bo:List (Nat × Nat × aX)}:bt P (.os D (⟨d,(.build z bo),none,rs⟩::os)::aP) .normal r h Q=dj P (D' (jE z (kX (r.trim rs) bo))) d D os aP r h Q:=gW rfl
theorem ahN {z:List V} {bo:List (Nat × Nat × aX)} {j:Nat} {want:Bool}:bt P (.os D (⟨d,(.build z bo),some (j,want),rs⟩::os)::aP) .normal r h Q=(fo (r.trim rs j)/\e6 (took (r.trim rs j) want) ((D' (jE z (kX (r.trim rs) bo))).isSome=true)/\dj P (some (V.opt (took (r.trim rs j) want) ((D' (jE z (kX (r.trim rs) bo))).getD .bad))) d D os aP r h Q):=gV rfl
theorem ag3 {x:aX}:bt P (.os D (⟨d,(.eD x),none,rs⟩::os)::aP) .normal r h Q=dj P (n1 h (x.aT (r.trim rs))) d D os aP r h Q:=gW rfl
theorem ah8 {x:aX} {j:Nat} {want:Bool}:bt P (.os D (⟨d,(.eD x),some (j,want),rs⟩::os)::aP) .normal r h Q=(fo (r.trim rs j)/\e6 (took (r.trim rs j) want) ((n1 h (x.aT (r.trim rs))).isSome=true)/\dj P (some (V.opt (took (r.trim rs j) want) ((n1 h (x.aT (r.trim rs))).getD .bad))) d D os aP r h Q):=gV rfl
theorem ag4 {n:Nat} {x:aX}:bt P (.os D (⟨d,(.fX n x),none,rs⟩::os)::aP) .normal r h Q=dj P (n0 n h (x.aT (r.trim rs))) d D os aP r h Q:=gW rfl
theorem ah9 {n:Nat} {x:aX} {j:Nat} {want:Bool}:bt P (.os D (⟨d,(.fX n x),some (j,want),rs⟩::os)::aP) .normal r h Q=(fo (r.trim rs j)/\e6 (took (r.trim rs j) want) ((n0 n h (x.aT (r.trim rs))).isSome=true)/\dj P (some (V.opt (took (r.trim rs j) want) ((n0 n h (x.aT (r.trim rs))).getD .bad))) d D os aP r h Q):=gV rfl
theorem aho {x:aX}:bt P (.os D (⟨d,(.tr x),none,rs⟩::os)::aP) .normal r h Q=dj P (u7 (x.aT (r.trim rs))) d D os aP r h Q:=gW rfl
theorem aio {x:aX} {j:Nat} {want:Bool}:bt P (.os D (⟨d,(.tr x),some (j,want),rs⟩::os)::aP) .normal r h Q=(fo (r.trim rs j)/\e6 (took (r.trim rs j) want) ((u7 (x.aT (r.trim rs))).isSome=true)/\dj P (some (V.opt (took (r.trim rs j) want) ((u7 (x.aT (r.trim rs))).getD .bad))) d D os aP r h Q):=gV rfl
theorem agu {k:eK} {x y:aX}:bt P (.os D (⟨d,(.bin k x y),none,rs⟩::os)::aP) .normal r h Q=dj P (k.run P (x.aT (r.trim rs)) (y.aT (r.trim rs))) d D os aP r h Q:=gW rfl
theorem ahK {k:eK} {x y:aX} {j:Nat} {want:Bool}:bt P (.os D (⟨d,(.bin k x y),some (j,want),rs⟩::os)::aP) .normal r h Q=(fo (r.trim rs j)/\e6 (took (r.trim rs j) want) ((k.run P (x.aT (r.trim rs)) (y.aT (r.trim rs))).isSome=true)/\dj P (some (V.opt (took (r.trim rs j) want) ((k.run P (x.aT (r.trim rs)) (y.aT (r.trim rs))).getD .bad))) d D os aP r h Q):=gV rfl
theorem ahE {o:UnOp} {x:aX}:bt P (.os D (⟨d,(.un o x),none,rs⟩::os)::aP) .normal r h Q=dj P (si o (x.aT (r.trim rs))) d D os aP r h Q:=gW rfl
theorem aiy {o:UnOp} {x:aX} {j:Nat} {want:Bool}:bt P (.os D (⟨d,(.un o x),some (j,want),rs⟩::os)::aP) .normal r h Q=(fo (r.trim rs j)/\e6 (took (r.trim rs j) want) ((si o (x.aT (r.trim rs))).isSome=true)/\dj P (some (V.opt (took (r.trim rs j) want) ((si o (x.aT (r.trim rs))).getD .bad))) d D os aP r h Q):=gV rfl
theorem agV {f:FuncId} {cs:List aX}:bt P (.os D (⟨d,(.fn f cs),none,rs⟩::os)::aP) .normal r h Q=dj P (some (V.func f (aX.fV (r.trim rs) cs))) d D os aP r h Q:=gW rfl
theorem ah2 {f:FuncId} {cs:List aX} {j:Nat} {want:Bool}:bt P (.os D (⟨d,(.fn f cs),some (j,want),rs⟩::os)::aP) .normal r h Q=(fo (r.trim rs j)/\e6 (took (r.trim rs j) want) ((some (V.func f (aX.fV (r.trim rs) cs))).isSome=true)/\dj P (some (V.opt (took (r.trim rs j) want) ((some (V.func f (aX.fV (r.trim rs) cs))).getD .bad))) d D os aP r h Q):=gV rfl
theorem ag0 {t:TypeId} {x:aX}:bt P (.os D (⟨d,(.ta t x),none,rs⟩::os)::aP) .normal r h Q=dj P (some (V.iface t (x.aT (r.trim rs)))) d D os aP r h Q:=gW rfl
theorem ah5 {t:TypeId} {x:aX} {j:Nat} {want:Bool}:bt P (.os D (⟨d,(.ta t x),some (j,want),rs⟩::os)::aP) .normal r h Q=(fo (r.trim rs j)/\e6 (took (r.trim rs j) want) ((some (V.iface t (x.aT (r.trim rs)))).isSome=true)/\dj P (some (V.opt (took (r.trim rs j) want) ((some (V.iface t (x.aT (r.trim rs)))).getD .bad))) d D os aP r h Q):=gV rfl
theorem ahB {x:aX} {bu aB m3:Option aX}:bt P (.os D (⟨d,(.sg x bu aB m3),none,rs⟩::os)::aP) .normal r h Q=dj P (nt (x.aT (r.trim rs)) (aX.opt (r.trim rs) bu) (aX.opt (r.trim rs) aB) (aX.opt (r.trim rs) m3)) d D os aP r h Q:=gW rfl
theorem aiw {x:aX} {bu aB m3:Option aX} {j:Nat} {want:Bool}:bt P (.os D (⟨d,(.sg x bu aB m3),some (j,want),rs⟩::os)::aP) .normal r h Q=(fo (r.trim rs j)/\e6 (took (r.trim rs j) want) ((nt (x.aT (r.trim rs)) (aX.opt (r.trim rs) bu) (aX.opt (r.trim rs) aB) (aX.opt (r.trim rs) m3)).isSome=true)/\dj P (some (V.opt (took (r.trim rs j) want) ((nt (x.aT (r.trim rs)) (aX.opt (r.trim rs) bu) (aX.opt (r.trim rs) aB) (aX.opt (r.trim rs) m3)).getD .bad))) d D os aP r h Q):=gV rfl
theorem ahA {n:Nat} {x:aX} {bu aB m3:Option aX}:bt P (.os D (⟨d,(.ea n x bu aB m3),none,rs⟩::os)::aP) .normal r h Q=dj P (hr n (x.aT (r.trim rs)) (aX.opt (r.trim rs) bu) (aX.opt (r.trim rs) aB) (aX.opt (r.trim rs) m3)) d D os aP r h Q:=gW rfl
theorem aiv {n:Nat} {x:aX} {bu aB m3:Option aX} {j:Nat} {want:Bool}:bt P (.os D (⟨d,(.ea n x bu aB m3),some (j,want),rs⟩::os)::aP) .normal r h Q=(fo (r.trim rs j)/\e6 (took (r.trim rs j) want) ((hr n (x.aT (r.trim rs)) (aX.opt (r.trim rs) bu) (aX.opt (r.trim rs) aB) (aX.opt (r.trim rs) m3)).isSome=true)/\dj P (some (V.opt (took (r.trim rs j) want) ((hr n (x.aT (r.trim rs)) (aX.opt (r.trim rs) bu) (aX.opt (r.trim rs) aB) (aX.opt (r.trim rs) m3)).getD .bad))) d D os aP r h Q):=gV rfl
theorem agS {o:Nat} {x:aX}:bt P (.os D (⟨d,(.fy o x),none,rs⟩::os)::aP) .normal r h Q=dj P (EG o (x.aT (r.trim rs))) d D os aP r h Q:=gW rfl
theorem ahZ {o:Nat} {x:aX} {j:Nat} {want:Bool}:bt P (.os D (⟨d,(.fy o x),some (j,want),rs⟩::os)::aP) .normal r h Q=(fo (r.trim rs j)/\e6 (took (r.trim rs j) want) ((EG o (x.aT (r.trim rs))).isSome=true)/\dj P (some (V.opt (took (r.trim rs j) want) ((EG o (x.aT (r.trim rs))).getD .bad))) d D os aP r h Q):=gV rfl
theorem agT {o:Nat} {x:aX}:bt P (.os D (⟨d,(.sV o x),none,rs⟩::os)::aP) .normal r h Q=dj P ((x.aT (r.trim rs)).tv none fun cs=>cs[o]?) d D os aP r h Q:=gW rfl
theorem ah0 {o:Nat} {x:aX} {j:Nat} {want:Bool}:bt P (.os D (⟨d,(.sV o x),some (j,want),rs⟩::os)::aP) .normal r h Q=(fo (r.trim rs j)/\e6 (took (r.trim rs j) want) (((x.aT (r.trim rs)).tv none fun cs=>cs[o]?).isSome=true)/\dj P (some (V.opt (took (r.trim rs j) want) (((x.aT (r.trim rs)).tv none fun cs=>cs[o]?).getD .bad))) d D os aP r h Q):=gV rfl
theorem agU {o n:Nat} {x:aX}:bt P (.os D (⟨d,(.wu o n x),none,rs⟩::os)::aP) .normal r h Q=dj P ((x.aT (r.trim rs)).tv none fun cs=>some (V.agg ((cs.drop o).take n))) d D os aP r h Q:=gW rfl
theorem ah1 {o n:Nat} {x:aX} {j:Nat} {want:Bool}:bt P (.os D (⟨d,(.wu o n x),some (j,want),rs⟩::os)::aP) .normal r h Q=(fo (r.trim rs j)/\e6 (took (r.trim rs j) want) (((x.aT (r.trim rs)).tv none fun cs=>some (V.agg ((cs.drop o).take n))).isSome=true)/\dj P (some (V.opt (took (r.trim rs j) want) (((x.aT (r.trim rs)).tv none fun cs=>some (V.agg ((cs.drop o).take n))).getD .bad))) d D os aP r h Q):=gV rfl
theorem agY {n:Nat} {x i:aX}:bt P (.os D (⟨d,(.bQ n x i),none,rs⟩::os)::aP) .normal r h Q=dj P (hG n (x.aT (r.trim rs)) (i.aT (r.trim rs))) d D os aP r h Q:=gW rfl
theorem ah3 {n:Nat} {x i:aX} {j:Nat} {want:Bool}:bt P (.os D (⟨d,(.bQ n x i),some (j,want),rs⟩::os)::aP) .normal r h Q=(fo (r.trim rs j)/\e6 (took (r.trim rs j) want) ((hG n (x.aT (r.trim rs)) (i.aT (r.trim rs))).isSome=true)/\dj P (some (V.opt (took (r.trim rs j) want) ((hG n (x.aT (r.trim rs)) (i.aT (r.trim rs))).getD .bad))) d D os aP r h Q):=gV rfl
theorem agZ {m n:Nat} {x i:aX}:bt P (.os D (⟨d,(.uS m n x i),none,rs⟩::os)::aP) .normal r h Q=dj P ((tc m n).run (x.aT (r.trim rs)) (i.aT (r.trim rs))) d D os aP r h Q:=gW rfl
theorem ah4 {m n:Nat} {x i:aX} {j:Nat} {want:Bool}:bt P (.os D (⟨d,(.uS m n x i),some (j,want),rs⟩::os)::aP) .normal r h Q=(fo (r.trim rs j)/\e6 (took (r.trim rs j) want) (((tc m n).run (x.aT (r.trim rs)) (i.aT (r.trim rs))).isSome=true)/\dj P (some (V.opt (took (r.trim rs j) want) (((tc m n).run (x.aT (r.trim rs)) (i.aT (r.trim rs))).getD .bad))) d D os aP r h Q):=gV rfl
theorem ag2 {x i:aX}:bt P (.os D (⟨d,(.nh x i),none,rs⟩::os)::aP) .normal r h Q=dj P (te.run (x.aT (r.trim rs)) (i.aT (r.trim rs))) d D os aP r h Q:=gW rfl
theorem ah7 {x i:aX} {j:Nat} {want:Bool}:bt P (.os D (⟨d,(.nh x i),some (j,want),rs⟩::os)::aP) .normal r h Q=(fo (r.trim rs j)/\e6 (took (r.trim rs j) want) ((te.run (x.aT (r.trim rs)) (i.aT (r.trim rs))).isSome=true)/\dj P (some (V.opt (took (r.trim rs j) want) ((te.run (x.aT (r.trim rs)) (i.aT (r.trim rs))).getD .bad))) d D os aP r h Q):=gV rfl
theorem ag1 {t:TypeId} {x i:aX}:bt P (.os D (⟨d,(.ki t x i),none,rs⟩::os)::aP) .normal r h Q=dj P ((td P t).run (x.aT (r.trim rs)) (i.aT (r.trim rs))) d D os aP r h Q:=gW rfl
theorem ah6 {t:TypeId} {x i:aX} {j:Nat} {want:Bool}:bt P (.os D (⟨d,(.ki t x i),some (j,want),rs⟩::os)::aP) .normal r h Q=(fo (r.trim rs j)/\e6 (took (r.trim rs j) want) (((td P t).run (x.aT (r.trim rs)) (i.aT (r.trim rs))).isSome=true)/\dj P (some (V.opt (took (r.trim rs j) want) (((td P t).run (x.aT (r.trim rs)) (i.aT (r.trim rs))).getD .bad))) d D os aP r h Q):=gV rfl
theorem ag' {k:kS} {z:V} {ok:Bool} {x i:aX}:bt P (.os D (⟨d,(.look k z ok x i),none,rs⟩::os)::aP) .normal r h Q=dj P (iq k.eq z ok h (x.aT (r.trim rs)) (i.aT (r.trim rs))) d D os aP r h Q:=gW rfl
theorem aic {k:kS} {z:V} {ok:Bool} {x i:aX} {j:Nat} {want:Bool}:bt P (.os D (⟨d,(.look k z ok x i),some (j,want),rs⟩::os)::aP) .normal r h Q=(fo (r.trim rs j)/\e6 (took (r.trim rs j) want) ((iq k.eq z ok h (x.aT (r.trim rs)) (i.aT (r.trim rs))).isSome=true)/\dj P (some (V.opt (took (r.trim rs j) want) ((iq k.eq z ok h (x.aT (r.trim rs)) (i.aT (r.trim rs))).getD .bad))) d D os aP r h Q):=gV rfl
theorem agR {x:aX} {i:Nat}:bt P (.os D (⟨d,(.ext x i),none,rs⟩::os)::aP) .normal r h Q=dj P ((x.aT (r.trim rs)).CG none fun ah=>ah[i]?) d D os aP r h Q:=gW rfl
theorem ahY {x:aX} {i:Nat} {j:Nat} {want:Bool}:bt P (.os D (⟨d,(.ext x i),some (j,want),rs⟩::os)::aP) .normal r h Q=(fo (r.trim rs j)/\e6 (took (r.trim rs j) want) (((x.aT (r.trim rs)).CG none fun ah=>ah[i]?).isSome=true)/\dj P (some (V.opt (took (r.trim rs j) want) (((x.aT (r.trim rs)).CG none fun ah=>ah[i]?).getD .bad))) d D os aP r h Q):=gV rfl
theorem ahh {args:List aX}:bt P (.os D (⟨d,(.zD args),none,rs⟩::os)::aP) .normal r h Q=dj P (lk (fun b a=>!Int.leB a b) (aX.fV (r.trim rs) args)) d D os aP r h Q:=gW rfl
theorem aik {args:List aX} {j:Nat} {want:Bool}:bt P (.os D (⟨d,(.zD args),some (j,want),rs⟩::os)::aP) .normal r h Q=(fo (r.trim rs j)/\e6 (took (r.trim rs j) want) ((lk (fun b a=>!Int.leB a b) (aX.fV (r.trim rs) args)).isSome=true)/\dj P (some (V.opt (took (r.trim rs j) want) ((lk (fun b a=>!Int.leB a b) (aX.fV (r.trim rs) args)).getD .bad))) d D os aP r h Q):=gV rfl
theorem ahk {args:List aX}:bt P (.os D (⟨d,(.ew args),none,rs⟩::os)::aP) .normal r h Q=dj P (lk (fun b a=>!Int.leB b a) (aX.fV (r.trim rs) args)) d D os aP r h Q:=gW rfl
theorem aim {args:List aX} {j:Nat} {want:Bool}:bt P (.os D (⟨d,(.ew args),some (j,want),rs⟩::os)::aP) .normal r h Q=(fo (r.trim rs j)/\e6 (took (r.trim rs j) want) ((lk (fun b a=>!Int.leB b a) (aX.fV (r.trim rs) args)).isSome=true)/\dj P (some (V.opt (took (r.trim rs j) want) ((lk (fun b a=>!Int.leB b a) (aX.fV (r.trim rs) args)).getD .bad))) d D os aP r h Q):=gV rfl
theorem agI {k:IntKind} {x:aX}:bt P (.os D (⟨d,(.cl (.int k) x),none,rs⟩::os)::aP) .normal r h Q=dj P (Ek k (x.aT (r.trim rs))) d D os aP r h Q:=gW rfl
theorem ahT {k:IntKind} {x:aX} {j:Nat} {want:Bool}:bt P (.os D (⟨d,(.cl (.int k) x),some (j,want),rs⟩::os)::aP) .normal r h Q=(fo (r.trim rs j)/\e6 (took (r.trim rs j) want) ((Ek k (x.aT (r.trim rs))).isSome=true)/\dj P (some (V.opt (took (r.trim rs j) want) ((Ek k (x.aT (r.trim rs))).getD .bad))) d D os aP r h Q):=gV rfl
theorem ag7 {x:aX}:bt P (.os D (⟨d,(.len .slice x),none,rs⟩::os)::aP) .normal r h Q=dj P (iF (x.aT (r.trim rs))) d D os aP r h Q:=gW rfl
theorem aia {x:aX} {j:Nat} {want:Bool}:bt P (.os D (⟨d,(.len .slice x),some (j,want),rs⟩::os)::aP) .normal r h Q=(fo (r.trim rs j)/\e6 (took (r.trim rs j) want) ((iF (x.aT (r.trim rs))).isSome=true)/\dj P (some (V.opt (took (r.trim rs j) want) ((iF (x.aT (r.trim rs))).getD .bad))) d D os aP r h Q):=gV rfl
theorem ag8 {x:aX}:bt P (.os D (⟨d,(.len .str x),none,rs⟩::os)::aP) .normal r h Q=dj P (FV (x.aT (r.trim rs))) d D os aP r h Q:=gW rfl
theorem aib {x:aX} {j:Nat} {want:Bool}:bt P (.os D (⟨d,(.len .str x),some (j,want),rs⟩::os)::aP) .normal r h Q=(fo (r.trim rs j)/\e6 (took (r.trim rs j) want) ((FV (x.aT (r.trim rs))).isSome=true)/\dj P (some (V.opt (took (r.trim rs j) want) ((FV (x.aT (r.trim rs))).getD .bad))) d D os aP r h Q):=gV rfl
theorem ag5 {n:Nat} {x:aX}:bt P (.os D (⟨d,(.len (.arr n) x),none,rs⟩::os)::aP) .normal r h Q=dj P (some (V.int .i64 n)) d D os aP r h Q:=gW rfl
theorem ah' {n:Nat} {x:aX} {j:Nat} {want:Bool}:bt P (.os D (⟨d,(.len (.arr n) x),some (j,want),rs⟩::os)::aP) .normal r h Q=(fo (r.trim rs j)/\e6 (took (r.trim rs j) want) ((some (V.int .i64 n)).isSome=true)/\dj P (some (V.opt (took (r.trim rs j) want) ((some (V.int .i64 n)).getD .bad))) d D os aP r h Q):=gV rfl
theorem ahm {z:List V}:bt P (.os D (⟨d,(.new z),none,rs⟩::os)::aP) .normal r h Q=hK P (qR (.ptr (aG h.next) 0) (gJ h z)) d D os aP r h Q:=iX rfl rfl
theorem ain {z:List V} {j:Nat} {want:Bool}:bt P (.os D (⟨d,(.new z),some (j,want),rs⟩::os)::aP) .normal r h Q=fh P (r.trim rs j) want d (.new z) rs D os aP r h Q:=il rfl
theorem agy {x:aX}:bt P (.os D (⟨d,(.box x),none,rs⟩::os)::aP) .normal r h Q=hK P (N9 (x.aT (r.trim rs)).fD (qR (.ptr (aG h.next) 0) (gJ h (x.aT (r.trim rs)).cells))) d D os aP r h Q:=iX rfl rfl
theorem ahL {x:aX} {j:Nat} {want:Bool}:bt P (.os D (⟨d,(.box x),some (j,want),rs⟩::os)::aP) .normal r h Q=fh P (r.trim rs j) want d (.box x) rs D os aP r h Q:=il rfl
theorem agz {n m:Nat} {z:List V} {bo:List (Nat × Nat × aX)}:bt P (.os D (⟨d,(.iB n m z bo),none,rs⟩::os)::aP) .normal r h Q=hK P (D8 n h (jE (ja z n) (kX (r.trim rs) bo))) d D os aP r h Q:=by rw [iX rfl rfl,amk]
theorem ahM {n m:Nat} {z:List V} {bo:List (Nat × Nat × aX)} {j:Nat} {want:Bool}:bt P (.os D (⟨d,(.iB n m z bo),some (j,want),rs⟩::os)::aP) .normal r h Q=fh P (r.trim rs j) want d (.iB n m z bo) rs D os aP r h Q:=il rfl
theorem ahC {n:Nat} {x y:aX}:bt P (.os D (⟨d,(.st n x y),none,rs⟩::os)::aP) .normal r h Q=hK P (qR .bad (xE n h (x.aT (r.trim rs)) (y.aT (r.trim rs)))) d D os aP r h Q:=iX rfl rfl
theorem aix {n:Nat} {x y:aX} {j:Nat} {want:Bool}:bt P (.os D (⟨d,(.st n x y),some (j,want),rs⟩::os)::aP) .normal r h Q=fh P (r.trim rs j) want d (.st n x y) rs D os aP r h Q:=il rfl
theorem ahg {n:Nat} {z:List V} {l c:aX}:bt P (.os D (⟨d,(.zC n z l c),none,rs⟩::os)::aP) .normal r h Q=hK P (u3 n z (l.aT (r.trim rs)) (c.aT (r.trim rs)) h) d D os aP r h Q:=iX rfl rfl
theorem aij {n:Nat} {z:List V} {l c:aX} {j:Nat} {want:Bool}:bt P (.os D (⟨d,(.zC n z l c),some (j,want),rs⟩::os)::aP) .normal r h Q=fh P (r.trim rs j) want d (.zC n z l c) rs D os aP r h Q:=il rfl
theorem ahF {k:kS} {m i x:aX}:bt P (.os D (⟨d,(.q5 k m i x),none,rs⟩::os)::aP) .normal r h Q=hK P (qR .bad (kO k.eq h (m.aT (r.trim rs)) (i.aT (r.trim rs)) (x.aT (r.trim rs)))) d D os aP r h Q:=iX rfl rfl
theorem aiz {k:kS} {m i x:aX} {j:Nat} {want:Bool}:bt P (.os D (⟨d,(.q5 k m i x),some (j,want),rs⟩::os)::aP) .normal r h Q=fh P (r.trim rs j) want d (.q5 k m i x) rs D os aP r h Q:=il rfl
theorem ahf {x:Option aX}:bt P (.os D (⟨d,(.tp x),none,rs⟩::os)::aP) .normal r h Q=hK P (r5 (aX.opt (r.trim rs) x) h) d D os aP r h Q:=iX rfl rfl
theorem aii {x:Option aX} {j:Nat} {want:Bool}:bt P (.os D (⟨d,(.tp x),some (j,want),rs⟩::os)::aP) .normal r h Q=fh P (r.trim rs j) want d (.tp x) rs D os aP r h Q:=il rfl
theorem ahx {x:aX}:bt P (.os D (⟨d,(.zY x),none,rs⟩::os)::aP) .normal r h Q=hK P (GM (x.aT (r.trim rs)) h) d D os aP r h Q:=(iX rfl rfl).trans (by first | rfl | (unfold GM;simp only [G.run];cases x.aT (r.trim rs)<;>rfl) | (unfold GM;cases x.aT (r.trim rs)<;>rfl))
theorem aiu {x:aX} {j:Nat} {want:Bool}:bt P (.os D (⟨d,(.zY x),some (j,want),rs⟩::os)::aP) .normal r h Q=fh P (r.trim rs j) want d (.zY x) rs D os aP r h Q:=il rfl
theorem ahp {x:aX}:bt P (.os D (⟨d,(.xj x),none,rs⟩::os)::aP) .normal r h Q=hK P (xi (x.aT (r.trim rs)) h) d D os aP r h Q:=iX rfl rfl
theorem aip {x:aX} {j:Nat} {want:Bool}:bt P (.os D (⟨d,(.xj x),some (j,want),rs⟩::os)::aP) .normal r h Q=fh P (r.trim rs j) want d (.xj x) rs D os aP r h Q:=il rfl
theorem agr {n:Nat} {s x:aX}:bt P (.os D (⟨d,(.app n s x),none,rs⟩::os)::aP) .normal r h Q=hK P (lF n (s.aT (r.trim rs)) (x.aT (r.trim rs)) h) d D os aP r h Q:=iX rfl rfl
theorem ahI {n:Nat} {s x:aX} {j:Nat} {want:Bool}:bt P (.os D (⟨d,(.app n s x),some (j,want),rs⟩::os)::aP) .normal r h Q=fh P (r.trim rs j) want d (.app n s x) rs D os aP r h Q:=il rfl
theorem agF {n:Nat} {mQ s:aX}:bt P (.os D (⟨d,(.copy n mQ s),none,rs⟩::os)::aP) .normal r h Q=hK P (copyV n (mQ.aT (r.trim rs)) (s.aT (r.trim rs)) h) d D os aP r h Q:=iX rfl rfl
theorem ahR {n:Nat} {mQ s:aX} {j:Nat} {want:Bool}:bt P (.os D (⟨d,(.copy n mQ s),some (j,want),rs⟩::os)::aP) .normal r h Q=fh P (r.trim rs j) want d (.copy n mQ s) rs D os aP r h Q:=il rfl
theorem ag6 {x:aX}:bt P (.os D (⟨d,(.len .map x),none,rs⟩::os)::aP) .normal r h Q=hK P (xc [x.aT (r.trim rs)] h) d D os aP r h Q:=iX rfl rfl
theorem ah_ {x:aX} {j:Nat} {want:Bool}:bt P (.os D (⟨d,(.len .map x),some (j,want),rs⟩::os)::aP) .normal r h Q=fh P (r.trim rs j) want d (.len .map x) rs D os aP r h Q:=il rfl
theorem agH {x:aX}:bt P (.os D (⟨d,(.cl .bytes x),none,rs⟩::os)::aP) .normal r h Q=hK P (Bf.run (x.aT (r.trim rs)) h) d D os aP r h Q:=iX rfl rfl
theorem ahS {x:aX} {j:Nat} {want:Bool}:bt P (.os D (⟨d,(.cl .bytes x),some (j,want),rs⟩::os)::aP) .normal r h Q=fh P (r.trim rs j) want d (.cl .bytes x) rs D os aP r h Q:=il rfl
theorem agK {x:aX}:bt P (.os D (⟨d,(.cl .str x),none,rs⟩::os)::aP) .normal r h Q=hK P (uu.run (x.aT (r.trim rs)) h) d D os aP r h Q:=iX rfl rfl
theorem ahV {x:aX} {j:Nat} {want:Bool}:bt P (.os D (⟨d,(.cl .str x),some (j,want),rs⟩::os)::aP) .normal r h Q=fh P (r.trim rs j) want d (.cl .str x) rs D os aP r h Q:=il rfl
theorem agJ {s mQ:TypeId} {x:aX}:bt P (.os D (⟨d,(.cl (.other s mQ) x),none,rs⟩::os)::aP) .normal r h Q=hK P ((rv P s mQ).run (x.aT (r.trim rs)) h) d D os aP r h Q:=iX rfl rfl
theorem ahU {s mQ:TypeId} {x:aX} {j:Nat} {want:Bool}:bt P (.os D (⟨d,(.cl (.other s mQ) x),some (j,want),rs⟩::os)::aP) .normal r h Q=fh P (r.trim rs j) want d (.cl (.other s mQ) x) rs D os aP r h Q:=il rfl
theorem ahO {f:FuncId} {args:List aX} {j:Nat} {want:Bool}:bt P (.os D (⟨d,(.call f args),some (j,want),rs⟩::os)::aP) .normal r h Q=fh P (r.trim rs j) want d (.call f args) rs D os aP r h Q:=il rfl
theorem ahP {f:aX} {args:List aX} {j:Nat} {want:Bool}:bt P (.os D (⟨d,(.qb f args),some (j,want),rs⟩::os)::aP) .normal r h Q=fh P (r.trim rs j) want d (.qb f args) rs D os aP r h Q:=il rfl
theorem agC {x:aX}:bt P (.os D (⟨d,(.yj x),none,rs⟩::os)::aP) .normal r h Q=dj P (ur (x.aT (r.trim rs))) d D os aP r h Q:=gW rfl
theorem ahQ {x:aX} {j:Nat} {want:Bool}:bt P (.os D (⟨d,(.yj x),some (j,want),rs⟩::os)::aP) .normal r h Q=(fo (r.trim rs j)/\e6 (took (r.trim rs j) want) ((ur (x.aT (r.trim rs))).isSome=true)/\dj P (some (V.opt (took (r.trim rs j) want) ((ur (x.aT (r.trim rs))).getD .bad))) d D os aP r h Q):=gV rfl
theorem ag_ {z:V} {ok:Bool} {x i:aX}:bt P (.os D (⟨d,(.zz z ok x i),none,rs⟩::os)::aP) .normal r h Q=dj P (hI ⟨j5 h⟩ z ok h (x.aT (r.trim rs)) (i.aT (r.trim rs))) d D os aP r h Q:=gW rfl
theorem aid {z:V} {ok:Bool} {x i:aX} {j:Nat} {want:Bool}:bt P (.os D (⟨d,(.zz z ok x i),some (j,want),rs⟩::os)::aP) .normal r h Q=(fo (r.trim rs j)/\e6 (took (r.trim rs j) want) ((hI ⟨j5 h⟩ z ok h (x.aT (r.trim rs)) (i.aT (r.trim rs))).isSome=true)/\dj P (some (V.opt (took (r.trim rs j) want) ((hI ⟨j5 h⟩ z ok h (x.aT (r.trim rs)) (i.aT (r.trim rs))).getD .bad))) d D os aP r h Q):=gV rfl
theorem aha {k:TypeId} {z:V} {ok:Bool} {x i:aX}:bt P (.os D (⟨d,(.looks k z ok x i),none,rs⟩::os)::aP) .normal r h Q=dj P (bif lW P k (i.aT (r.trim rs)) then hI (structEq P k) z ok h (x.aT (r.trim rs)) (i.aT (r.trim rs)) else none) d D os aP r h Q:=gW rfl
theorem aie {k:TypeId} {z:V} {ok:Bool} {x i:aX} {j:Nat} {want:Bool}:bt P (.os D (⟨d,(.looks k z ok x i),some (j,want),rs⟩::os)::aP) .normal r h Q=(fo (r.trim rs j)/\e6 (took (r.trim rs j) want) ((bif lW P k (i.aT (r.trim rs)) then hI (structEq P k) z ok h (x.aT (r.trim rs)) (i.aT (r.trim rs)) else none).isSome=true)/\dj P (some (V.opt (took (r.trim rs j) want) ((bif lW P k (i.aT (r.trim rs)) then hI (structEq P k) z ok h (x.aT (r.trim rs)) (i.aT (r.trim rs)) else none).getD .bad))) d D os aP r h Q):=gV rfl
theorem ahs {neg:Bool} {x y:aX}:bt P (.os D (⟨d,(.xo neg x y),none,rs⟩::os)::aP) .normal r h Q=dj P (zQ neg h (x.aT (r.trim rs)) (y.aT (r.trim rs))) d D os aP r h Q:=gW rfl
theorem air {neg:Bool} {x y:aX} {j:Nat} {want:Bool}:bt P (.os D (⟨d,(.xo neg x y),some (j,want),rs⟩::os)::aP) .normal r h Q=(fo (r.trim rs j)/\e6 (took (r.trim rs j) want) ((zQ neg h (x.aT (r.trim rs)) (y.aT (r.trim rs))).isSome=true)/\dj P (some (V.opt (took (r.trim rs j) want) ((zQ neg h (x.aT (r.trim rs)) (y.aT (r.trim rs))).getD .bad))) d D os aP r h Q):=gV rfl
theorem ags {n:Nat} {z:List V} {s x:aX}:bt P (.os D (⟨d,(.A0 n z s x),none,rs⟩::os)::aP) .normal r h Q=hK P (DZ n z (s.aT (r.trim rs)) (x.aT (r.trim rs)) h) d D os aP r h Q:=iX rfl rfl
theorem ahJ {n:Nat} {z:List V} {s x:aX} {j:Nat} {want:Bool}:bt P (.os D (⟨d,(.A0 n z s x),some (j,want),rs⟩::os)::aP) .normal r h Q=fh P (r.trim rs j) want d (.A0 n z s x) rs D os aP r h Q:=il rfl
theorem ahG {m i x:aX}:bt P (.os D (⟨d,(.Da m i x),none,rs⟩::os)::aP) .normal r h Q=hK P (qR .bad (kO ⟨j5 h⟩ h (m.aT (r.trim rs)) (i.aT (r.trim rs)) (x.aT (r.trim rs)))) d D os aP r h Q:=iX rfl rfl
theorem aiA {m i x:aX} {j:Nat} {want:Bool}:bt P (.os D (⟨d,(.Da m i x),some (j,want),rs⟩::os)::aP) .normal r h Q=fh P (r.trim rs j) want d (.Da m i x) rs D os aP r h Q:=il rfl
theorem ahH {k:TypeId} {m i x:aX}:bt P (.os D (⟨d,(.xJ k m i x),none,rs⟩::os)::aP) .normal r h Q=hK P (qR .bad (bif lW P k (i.aT (r.trim rs)) then kO (structEq P k) h (m.aT (r.trim rs)) (i.aT (r.trim rs)) (x.aT (r.trim rs)) else none)) d D os aP r h Q:=iX rfl rfl
theorem aiB {k:TypeId} {m i x:aX} {j:Nat} {want:Bool}:bt P (.os D (⟨d,(.xJ k m i x),some (j,want),rs⟩::os)::aP) .normal r h Q=fh P (r.trim rs j) want d (.xJ k m i x) rs D os aP r h Q:=il rfl
theorem ahd {z:V} {m i:aX}:bt P (.os D (⟨d,(.Cx z m i),none,rs⟩::os)::aP) .normal r h Q=hK P (Ey z (m.aT (r.trim rs)) (i.aT (r.trim rs)) h) d D os aP r h Q:=iX rfl rfl
theorem aif {z:V} {m i:aX} {j:Nat} {want:Bool}:bt P (.os D (⟨d,(.Cx z m i),some (j,want),rs⟩::os)::aP) .normal r h Q=fh P (r.trim rs j) want d (.Cx z m i) rs D os aP r h Q:=il rfl
theorem ahe {k:TypeId} {z:V} {m i:aX}:bt P (.os D (⟨d,(.zB k z m i),none,rs⟩::os)::aP) .normal r h Q=hK P (yr P k z (m.aT (r.trim rs)) (i.aT (r.trim rs)) h) d D os aP r h Q:=iX rfl rfl
theorem aih {k:TypeId} {z:V} {m i:aX} {j:Nat} {want:Bool}:bt P (.os D (⟨d,(.zB k z m i),some (j,want),rs⟩::os)::aP) .normal r h Q=fh P (r.trim rs j) want d (.zB k z m i) rs D os aP r h Q:=il rfl
theorem agP {m s x:aX}:bt P (.os D (⟨d,(.yy m s x),none,rs⟩::os)::aP) .normal r h Q=hK P (qR .bad (rA h (m.aT (r.trim rs)) (s.aT (r.trim rs)) (x.aT (r.trim rs)))) d D os aP r h Q:=iX rfl rfl
theorem ahX {m s x:aX} {j:Nat} {want:Bool}:bt P (.os D (⟨d,(.yy m s x),some (j,want),rs⟩::os)::aP) .normal r h Q=fh P (r.trim rs j) want d (.yy m s x) rs D os aP r h Q:=il rfl
theorem ahw {x:aX}:bt P (.os D (⟨d,(.zX x),none,rs⟩::os)::aP) .normal r h Q=hK P (rangeMap (x.aT (r.trim rs)) h) d D os aP r h Q:=iX rfl rfl
theorem ait {x:aX} {j:Nat} {want:Bool}:bt P (.os D (⟨d,(.zX x),some (j,want),rs⟩::os)::aP) .normal r h Q=fh P (r.trim rs j) want d (.zX x) rs D os aP r h Q:=il rfl
theorem ahq {x:aX}:bt P (.os D (⟨d,(.nq x),none,rs⟩::os)::aP) .normal r h Q=hK P (gY (x.aT (r.trim rs)) h) d D os aP r h Q:=iX rfl rfl
theorem aiq {x:aX} {j:Nat} {want:Bool}:bt P (.os D (⟨d,(.nq x),some (j,want),rs⟩::os)::aP) .normal r h Q=fh P (r.trim rs j) want d (.nq x) rs D os aP r h Q:=il rfl
theorem agN {x:aX}:bt P (.os D (⟨d,(.ys x),none,rs⟩::os)::aP) .normal r h Q=hK P (ux (x.aT (r.trim rs)) h) d D os aP r h Q:=iX rfl rfl
theorem ahW {x:aX} {j:Nat} {want:Bool}:bt P (.os D (⟨d,(.ys x),some (j,want),rs⟩::os)::aP) .normal r h Q=fh P (r.trim rs j) want d (.ys x) rs D os aP r h Q:=il rfl
set_option linter.defProp false in
def o2:=And.intro @agC<|And.intro @ahQ<|And.intro @ag_<|And.intro @aid<|And.intro @aha<|And.intro @aie<|And.intro @ahs<|And.intro @air<|And.intro @ags<|And.intro @ahJ<|And.intro @ahG<|And.intro @aiA<|And.intro @ahH<|And.intro @aiB<|And.intro @ahd<|And.intro @aif<|And.intro @ahe<|And.intro @aih<|And.intro @agP<|And.intro @ahX<|And.intro @ahw<|And.intro @ait<|And.intro @ahq<|And.intro @aiq<|And.intro @agN @ahW
end
theorem ajP (h:ag) (ah:List V):gJ h ah=if ah.length<=top then some (h.new (.bU ah 0 false)) else none:=by
 by_cases aw:ah.length<=top
 . rw [aqf aw,Ur aw]
 . rw [aqa aw];unfold gJ;rw [show Nat.ble ah.length top=false from by rw [<-aqF,aqj];exact aw];rfl
theorem aiG (h:ag) (n:Nat) (b:aQ) (off:Nat) (y:V) (ah:List V) (cI:Nat) (st:Bool):
 r0 n h b off y (.bU ah cI st)=if y.cells.length=n/\eN y.cells=true/\off+n<=ah.length then some (h.set b (.bU (oc ah off y.cells) cI st)) else none:=by
 by_cases av:y.cells.length=n/\eN y.cells=true/\off+n<=ah.length
 . rw [aqf av,KT av.1 av.2.1 av.2.2]
 . rw [aqa av];unfold r0;by_cases aa:y.cells.length=n
   . rw [show Nat.beq y.cells.length n=true from by rw [aqE];exact aa];simp only [ap8,b8.bU,b8.on];by_cases ae:eN y.cells=true
     . have aM:¬off+y.cells.length<=ah.length:=fun q=>av ⟨aa,ae,by omega⟩;rw [show Nat.ble (off+y.cells.length) ah.length=false from by rw [<-aqF,aqj];exact aM];rfl
     . rw [show eN y.cells=false from by simpa using ae,art];rfl
   . rw [show Nat.beq y.cells.length n=false from by rw [<-aqF,aqE];exact aa];rfl
theorem acv (cells:List V) (off size:Nat) (v:V) (rest:List (Nat × Nat × V)):
 jE cells ((off,size,v)::rest)=if v.fD=true/\v.cells.length=size/\off+size<=cells.length then jE (oc cells off v.cells) rest else none:=by
 by_cases av:v.fD=true/\v.cells.length=size/\off+size<=cells.length
 . rw [aqf av,acu av.1 av.2.1 av.2.2]
 . rw [aqa av];simp only [jE];cases ak:(v.fD&&(Nat.beq v.cells.length size&&Nat.ble (off+v.cells.length) cells.length)) with
   | false=>rfl
   | true=>
     simp only [ap2,aqE,aqj] at ak;exact absurd ⟨ak.1,ak.2.1,by omega⟩ av
theorem aaJ (b:Bool):V.cells (.bool b:V)=[.bool b]:=rfl
theorem akp (b:Bool):V.one (.bool b:V)=true:=rfl
theorem ac4 (b:Bool):V.fD (.bool b:V)=true:=rfl
theorem aaN (k:IntKind) (n:Int):V.cells (.int k n:V)=[.int k n]:=rfl
theorem akt (k:IntKind) (n:Int):V.one (.int k n:V)=true:=rfl
theorem ac8 (k:IntKind) (n:Int):V.fD (.int k n:V)=true:=rfl
theorem aaY (s:List UInt8):V.cells (.str s:V)=[.str s]:=rfl
theorem akC (s:List UInt8):V.one (.str s:V)=true:=rfl
theorem adh (s:List UInt8):V.fD (.str s:V)=true:=rfl
theorem aaS:V.cells (.kI:V)=[.kI]:=rfl
theorem aky:V.one (.kI:V)=true:=rfl
theorem adb:V.fD (.kI:V)=true:=rfl
theorem aaV (b:aQ) (o:Nat):V.cells (.ptr b o:V)=[.ptr b o]:=rfl
theorem akA (b:aQ) (o:Nat):V.one (.ptr b o:V)=true:=rfl
theorem adf (b:aQ) (o:Nat):V.fD (.ptr b o:V)=true:=rfl
theorem aaX (b:aQ) (o l c:Nat):V.cells (.slice b o l c:V)=[.slice b o l c]:=rfl
theorem akB (b:aQ) (o l c:Nat):V.one (.slice b o l c:V)=true:=rfl
theorem adg (b:aQ) (o l c:Nat):V.fD (.slice b o l c:V)=true:=rfl
theorem aaL (b:aQ) (o l c:Nat):V.cells (.ee b o l c:V)=[.ee b o l c]:=rfl
theorem akr (b:aQ) (o l c:Nat):V.one (.ee b o l c:V)=true:=rfl
theorem ac6 (b:aQ) (o l c:Nat):V.fD (.ee b o l c:V)=true:=rfl
theorem aaZ (b:aQ) (o l c:Nat):V.cells (.gB b o l c:V)=[.gB b o l c]:=rfl
theorem akD (b:aQ) (o l c:Nat):V.one (.gB b o l c:V)=true:=rfl
theorem adi (b:aQ) (o l c:Nat):V.fD (.gB b o l c:V)=true:=rfl
theorem aaT:V.cells (.bL:V)=[.bL]:=rfl
theorem akz:V.one (.bL:V)=true:=rfl
theorem ade:V.fD (.bL:V)=true:=rfl
theorem aaR:V.cells (.kj:V)=[.kj]:=rfl
theorem akx:V.one (.kj:V)=true:=rfl
theorem ada:V.fD (.kj:V)=true:=rfl
theorem aaO (b:aQ):V.cells (.map b:V)=[.map b]:=rfl
theorem aku (b:aQ):V.one (.map b:V)=true:=rfl
theorem ac9 (b:aQ):V.fD (.map b:V)=true:=rfl
theorem aaK (f:FuncId) (cs:List V):V.cells (.func f cs:V)=[.func f cs]:=rfl
theorem akq (f:FuncId) (cs:List V):V.one (.func f cs:V)=true:=rfl
theorem ac5 (f:FuncId) (cs:List V):V.fD (.func f cs:V)=true:=rfl
theorem aaQ:V.cells (.np:V)=[.np]:=rfl
theorem akw:V.one (.np:V)=true:=rfl
theorem ac_:V.fD (.np:V)=true:=rfl
theorem aaM (t:TypeId) (v:V):V.cells (.iface t v:V)=[.iface t v]:=rfl
theorem aks (t:TypeId) (v:V):V.one (.iface t v:V)=true:=rfl
theorem ac7 (t:TypeId) (v:V):V.fD (.iface t v:V)=true:=rfl
theorem aaP:V.cells (.nilIface:V)=[.nilIface]:=rfl
theorem akv:V.one (.nilIface:V)=true:=rfl
theorem ac':V.fD (.nilIface:V)=true:=rfl
theorem aaI (cs:List V):V.cells (.agg cs)=cs:=rfl
theorem ac3 (cs:List V):V.fD (.agg cs)=true:=rfl
theorem adj (cs:List V):V.fD (.tuple cs)=true:=rfl
theorem Ya (n:Nat):n+1+1=n+2:=rfl
theorem Yg (n:Nat):n+2+1=n+3:=rfl
theorem Yh (n:Nat):n+3+1=n+4:=rfl
theorem Yi (n:Nat):n+4+1=n+5:=rfl
theorem Yj (n:Nat):n+5+1=n+6:=rfl
theorem Yk (n:Nat):n+6+1=n+7:=rfl
theorem Yl (n:Nat):n+7+1=n+8:=rfl
theorem Ym (n:Nat):n+8+1=n+9:=rfl
theorem Yn (n:Nat):n+9+1=n+10:=rfl
theorem X_ (n:Nat):n+10+1=n+11:=rfl
theorem Yb (n:Nat):n+11+1=n+12:=rfl
theorem Yc (n:Nat):n+12+1=n+13:=rfl
theorem Yd (n:Nat):n+13+1=n+14:=rfl
theorem Ye (n:Nat):n+14+1=n+15:=rfl
theorem Yf (n:Nat):n+15+1=n+16:=rfl
theorem UC (n:Nat):(n+1=n)=False:=ap_ (by omega)
theorem an8 (n:Nat):(n=n+1)=False:=ap_ (by omega)
theorem CC (n:Nat):(n+2=n)=False:=ap_ (by omega)
theorem an9 (n:Nat):(n=n+2)=False:=ap_ (by omega)
theorem aj5 (n:Nat):(n+3=n)=False:=ap_ (by omega)
theorem an' (n:Nat):(n=n+3)=False:=ap_ (by omega)
theorem aj6 (n:Nat):(n+4=n)=False:=ap_ (by omega)
theorem an_ (n:Nat):(n=n+4)=False:=ap_ (by omega)
theorem aj7 (n:Nat):(n+5=n)=False:=ap_ (by omega)
theorem aoa (n:Nat):(n=n+5)=False:=ap_ (by omega)
theorem aj8 (n:Nat):(n+6=n)=False:=ap_ (by omega)
theorem aob (n:Nat):(n=n+6)=False:=ap_ (by omega)
theorem aj9 (n:Nat):(n+7=n)=False:=ap_ (by omega)
theorem aoc (n:Nat):(n=n+7)=False:=ap_ (by omega)
theorem aj' (n:Nat):(n+8=n)=False:=ap_ (by omega)
theorem aod (n:Nat):(n=n+8)=False:=ap_ (by omega)
theorem ac0 {P:Program} {r:bg} {h:ag} {Q:cV->bg->ag->Prop} {aP:List iy} {os:List br} {D:Option jy} {d:Option Nat} {g:G} {rs:List Nat}:fh P (.bool true) true d g rs D os aP r h Q=bt P (.os D (⟨d,g,none,rs⟩::os)::aP) .normal r h Q:=by rw [RN];simp
theorem acX {P:Program} {r:bg} {h:ag} {Q:cV->bg->ag->Prop} {aP:List iy} {os:List br} {D:Option jy} {d:Option Nat} {g:G} {rs:List Nat}:fh P (.bool false) false d g rs D os aP r h Q=bt P (.os D (⟨d,g,none,rs⟩::os)::aP) .normal r h Q:=by rw [RM];simp
theorem acZ {P:Program} {r:bg} {h:ag} {Q:cV->bg->ag->Prop} {aP:List iy} {os:List br} {D:Option jy} {d:Option Nat} {g:G} {rs:List Nat}:fh P (.bool true) false d g rs D os aP r h Q=bt P (.os (j6 D r h (.tuple [])) os::aP) .normal (r.set d (.tuple [])) h Q:=by rw [RM];simp
theorem acY {P:Program} {r:bg} {h:ag} {Q:cV->bg->ag->Prop} {aP:List iy} {os:List br} {D:Option jy} {d:Option Nat} {g:G} {rs:List Nat}:fh P (.bool false) true d g rs D os aP r h Q=bt P (.os (j6 D r h (.tuple [])) os::aP) .normal (r.set d (.tuple [])) h Q:=by rw [RN];simp
theorem Y4 (c:Bool) (a b:V):V.bif (!c) a (V.opt c b)=V.bif (!c) a b:=by cases c<;>rfl
theorem af4 (A:Prop):(True->A)=A:=propext ⟨fun q=>q trivial,fun q _=>q⟩
theorem af3 (A:Prop):(False->A)=True:=propext ⟨fun _=>trivial,fun _ q=>q.elim⟩
section
variable {P:Program}
theorem ek {b:aR} {aP:List iy} {r:bg} {h:ag} {Q:cV->bg->ag->Prop} (I:bg->ag->Prop) (μ:bg->ag->Nat) (a1:I r h)
 (step:∀r h,I r h->bt P [.c b] .normal r h fun e bb ab=>e.andThen (I bb ab/\μ bb ab<μ r h) (bt P aP e bb ab Q)):F0 P b aP r h Q:=
 ⟨I,μ,a1,step⟩
theorem acW {b want:Bool} {d:Option Nat} {f:FuncId} {args:List aX} {rs:List Nat} {os:List br} {D:Option jy} {aP:List iy} {r:bg} {h:ag} {Q:cV->bg->ag->Prop} (v:V)
 (bz:(b == want)=true->e4 P f (aX.fV (r.trim rs) args) h v h)
 (H:bt P (.os (j6 D r h (V.opt (b == want) v)) os::aP) .normal (r.set d (V.opt (b == want) v)) h Q):fh P (.bool b) want d (.call f args) rs D os aP r h Q:=by
 have:=acV (P:=P) (c:=true) (b:=b) (want:=want) (d:=d) (f:=f) (args:=args) (rs:=rs) (D:=D) (os:=os) (aP:=aP) (r:=r) (h:=h) (Q:=Q) v;simp only [V.opt,ap8,aqY] at this;exact this bz H
theorem ET {b:Bool} {d:Option Nat} {f:FuncId} {args:List aX} {rs:List Nat} {os:List br} {D:Option jy} {aP:List iy} {r:bg} {h:ag} {Q:cV->bg->ag->Prop} (v:V)
 (bz:(!b)=true->e4 P f (aX.fV (r.trim rs) args) h v h)
 (H:bt P (.os (j6 D r h (V.opt (!b) v)) os::aP) .normal (r.set d (V.opt (!b) v)) h Q):fh P (.bool b) false d (.call f args) rs D os aP r h Q:=by
 refine acW v ?_ ?_<;>rw [beq_false]<;>assumption
def V.toN:V->Nat
 | .int _ n=>n.toNat
 | _=>0
theorem anq (k:IntKind) (n:Int):V.toN (.int k n)=n.toNat:=rfl
theorem gr {f:FuncId} {args:List V} {d:Option Nat} {os:List br} {D:Option jy} {aP:List iy} {r:bg} {h:ag} {Q:cV->bg->ag->Prop} {v:V}
 (c:e4 P f args h v h) (H:bt P (.os (j6 D r h v) os::aP) .normal (r.set d v) h Q):rr P f args d D os aP r h Q:=⟨v,h,c,H⟩
theorem bF {f:FuncId} {args:List V} {d:Option Nat} {os:List br} {D:Option jy} {aP:List iy} {r:bg} {h:ag} {Q:cV->bg->ag->Prop} {K:V->ag->Prop}
 (c:cr P f args h K) (H:∀v ab,K v ab->bt P (.os (j6 D r h v) os::aP) .normal (r.set d v) ab Q):rr P f args d D os aP r h Q:=c.mono H
structure Ext (h ab:ag):Prop where
 next:h.next<=ab.next
 get:∀b,Old h b->ab.get b=h.get b
theorem Ext.refl (h:ag):Ext h h:=⟨ap7 _,fun _ _=>rfl⟩
theorem Ext.bY {h ab:ag} (e:Ext h ab) {b:aQ} (ak:Old h b):Old ab b:=Nat.lt_of_lt_of_le ak e.next
theorem Ext.trans {h ab pv:ag} (e:Ext h ab) (c7:Ext ab pv):Ext h pv:=
 ⟨aqK e.next c7.next,fun b ak=>(c7.get b (e.bY ak)).trans (e.get b ak)⟩
theorem Ext.new {h ab:ag} (e:Ext h ab) (k:b8):Ext h (ab.new k):=
 ⟨Nat.le_succ_of_le e.next,fun b ak=>by rw [iR,aqa (fun q=>(Lq (h:=h) ak e.next) ▸ q)];exact e.get b ak⟩
theorem Ext.set {h ab:ag} (e:Ext h ab) {i:Nat} (aB:h.next<=i) (k:b8):Ext h (ab.set (aG i) k):=
 ⟨e.next,fun b ak=>by rw [ej,aqa (fun q=>(Lq (h:=h) ak aB) ▸ q)];exact e.get b ak⟩
theorem Ext.rd {h ab:ag} (e:Ext h ab) {b:aQ} (ak:Old h b) {ah:List V} (H:nA h b ah):nA ab b ah:=by unfold nA at H ⊢;rw [e.get b ak];exact H
def jR (h:ag) (b:aQ) (off:Nat) (ah:List V):Prop:=Old h b/\∃us,nA h b us/\off+ah.length<=us.length/\(us.drop off).take ah.length=ah
theorem jR.ext {h ab:ag} (e:Ext h ab) {b:aQ} {off:Nat} {ah:List V} (H:jR h b off ah):jR ab b off ah:=by obtain ⟨a1,us,aa,ae,aM⟩:=H;exact ⟨e.bY a1,us,e.rd a1 aa,ae,aM⟩
theorem jR.eD {h:ag} {b:aQ} {off:Nat} {ah:List V} (H:jR h b off ah) {i:Nat} (aB:i<ah.length):gX (h.get b) (off+i)=some ah[i]:=by
 obtain ⟨_,us,aa,ae,aM⟩:=H;rw [aa.eD,ap4 (by omega)];congr 1;have:((us.drop off).take ah.length)[i]? =ah[i]? :=by rw [aM]
 rw [aq3 aB,arl,ap4 (by omega),ap4 aB] at this;simpa using this
theorem jR.fX {h:ag} {b:aQ} {off:Nat} {ah:List V} (H:jR h b off ah) {i n:Nat} (aB:i+n<=ah.length):nj n (h.get b) (off+i)=some (.agg ((ah.drop i).take n)):=by
 obtain ⟨_,us,aa,ae,aM⟩:=H;rw [aa.fX,aqf (by omega)];congr 2;have:(((us.drop off).take ah.length).drop i).take n=(ah.drop i).take n:=by rw [aM]
 rw [<-this,List.drop_take,arn,List.take_take];congr 1;omega
def fl (h:ag) (size:Nat) (v:V) (n:Nat) (ah:List V):Prop:=
 ah.length=n * size/\match v with
  | .bL=>n=0
  | .slice b off len _=>len=n/\jR h b off ah
  | .ee b off len _=>len=n/\jR h b off ah
  | .gB _ _ _ _=>n=0
  | _=>False
theorem fl.ext {h ab:ag} (e:Ext h ab) {size:Nat} {v:V} {n:Nat} {ah:List V} (H:fl h size v n ah):fl ab size v n ah:=by refine ⟨H.1,?_⟩;have cf:=H.2;cases v<;>simp only at cf ⊢<;>first | exact cf | exact ⟨cf.1,cf.2.ext e⟩
theorem fl.len {h:ag} {size:Nat} {v:V} {n:Nat} {ah:List V} (H:fl h size v n ah):iF v=some (.int .i64 n):=by
 have cf:=H.2;cases v<;>simp only at cf<;>first
  | (rw [<-cf.1];rfl)
  | (subst cf;rfl)
  | (exact cf.elim)
theorem fl.bQ {h:ag} {size:Nat} {v:V} {n:Nat} {ah:List V} (H:fl h size v n ah) {k:IntKind} {i:Nat} (aB:i<n):
 ∃b off,hG size v (.int k i)=some (.ptr b (off+i * size))/\jR h b off ah:=by
 have cf:=H.2;cases v<;>simp only at cf<;>first
  | omega
  | (exact cf.elim)
  | skip
 . rename_i b off len cap;obtain ⟨rfl,aa⟩:=cf;refine ⟨b,off,?_,aa⟩;rw [FG,aqf (by omega)];simp
 . rename_i b off len cap;obtain ⟨rfl,aa⟩:=cf;refine ⟨b,off,?_,aa⟩;rw [FF,aqf (by omega)];simp
end
structure Mod (M:aQ->Prop) (h ab:ag):Prop where
 next:h.next<=ab.next
 get:∀b,Old h b->¬M b->ab.get b=h.get b
theorem Mod.refl (M:aQ->Prop) (h:ag):Mod M h h:=⟨ap7 _,fun _ _ _=>rfl⟩
theorem Mod.bY {M:aQ->Prop} {h ab:ag} (e:Mod M h ab) {b:aQ} (ak:Old h b):Old ab b:=Nat.lt_of_lt_of_le ak e.next
theorem Mod.trans {M:aQ->Prop} {h ab pv:ag} (e:Mod M h ab) (c7:Mod M ab pv):Mod M h pv:=
 ⟨aqK e.next c7.next,fun b ak hm=>(c7.get b (e.bY ak) hm).trans (e.get b ak hm)⟩
theorem Mod.mono {M Ns:aQ->Prop} {h ab:ag} (e:Mod M h ab) (hm:∀b,Old h b->M b->Ns b):Mod Ns h ab:=
 ⟨e.next,fun b ak aW=>e.get b ak fun q=>aW (hm b ak q)⟩
theorem Mod.new {M:aQ->Prop} {h ab:ag} (e:Mod M h ab) (k:b8):Mod M h (ab.new k):=
 ⟨Nat.le_succ_of_le e.next,fun b ak hm=>by rw [iR,aqa (fun q=>(Lq (h:=h) ak e.next) ▸ q)];exact e.get b ak hm⟩
theorem Mod.set {M:aQ->Prop} {h ab:ag} (e:Mod M h ab) {b:aQ} (ak:Old h b->M b) (k:b8):Mod M h (ab.set b k):=
 ⟨e.next,fun bR hN hm=>by
   rw [ej];by_cases q:b=bR
   . subst q;exact absurd (ak hN) hm
   . rw [aqa q];exact e.get bR hN hm⟩
theorem Ext.mod {h ab:ag} (e:Ext h ab) (M:aQ->Prop):Mod M h ab:=⟨e.next,fun b ak _=>e.get b ak⟩
theorem Ext.fp {h ab pv:ag} (e:Ext h ab) {M:aQ->Prop} (m:Mod M ab pv) (hm:∀b,M b->h.next<=ck b):Ext h pv:=
 ⟨aqK e.next m.next,fun b ak=>by
   have jl:¬M b:=fun q=>by have:=hm b q;unfold Old at ak;omega
   exact (m.get b (e.bY ak) jl).trans (e.get b ak)⟩
theorem Mod.at {M:aQ->Prop} {h ab:ag} (e:Mod M h ab) {b:aQ} {off:Nat} {ah:List V} (H:jR h b off ah) (hm:¬M b):jR ab b off ah:=by obtain ⟨a1,us,aa,ae,aM⟩:=H;refine ⟨e.bY a1,us,?_,ae,aM⟩;unfold nA at aa ⊢;rw [e.get b a1 hm];exact aa
theorem iJ {h:ag} {i:Nat} (aB:i<h.next):Old h (aG i):=by unfold Old;rw [dx];exact aB
theorem CA {h:ag} {b:aQ} {i:Nat} (ak:Old h b) (aB:h.next<=i):(b=aG i)=False:=by apply ap_;intro e;unfold Old at ak;rw [e,dx] at ak;omega
def V.a':V->aQ->Prop
 | .slice b _ _ _,bR=>bR=b
 | .ee b _ _ _,bR=>bR=b
 | _,_=>False
theorem fl.k' {h:ag} {size:Nat} {v:V} {n:Nat} {ah:List V} (H:fl h size v n ah) {k:IntKind} {i:Nat} (aB:i<n):
 ∃b off,hG size v (.int k i)=some (.ptr b (off+i * size))/\jR h b off ah/\v.a' b:=by
 have cf:=H.2;cases v<;>simp only at cf<;>first
  | omega
  | (exact cf.elim)
  | skip
 . rename_i b off len cap;obtain ⟨rfl,aa⟩:=cf;refine ⟨b,off,?_,aa,rfl⟩;rw [FG,aqf (by omega)];simp
 . rename_i b off len cap;obtain ⟨rfl,aa⟩:=cf;refine ⟨b,off,?_,aa,rfl⟩;rw [FF,aqf (by omega)];simp
theorem fl.one {h:ag} {size:Nat} {v:V} {n:Nat} {ah:List V} (H:fl h size v n ah):v.one=true/\v.cells=[v]/\v.fD=true:=by have q:=H.2;cases v<;>simp only at q<;>first | exact ⟨rfl,rfl,rfl⟩ | exact q.elim
theorem fl.mod {M:aQ->Prop} {h ab:ag} (e:Mod M h ab) {size:Nat} {v:V} {n:Nat} {ah:List V} (H:fl h size v n ah) (hm:∀b,v.a' b->¬M b):fl ab size v n ah:=by refine ⟨H.1,?_⟩;have cf:=H.2;cases v<;>simp only at cf ⊢<;>first | exact cf | exact ⟨cf.1,e.at cf.2 (hm _ rfl)⟩
theorem fl.bY {h:ag} {size:Nat} {v:V} {n:Nat} {ah:List V} (H:fl h size v n ah) {b:aQ} (ak:v.a' b):Old h b:=by have cf:=H.2;cases v<;>simp only [V.a'] at cf ak<;>first | (exact ak.elim) | (subst ak;exact cf.2.1)
def ec (B:Nat) (h:ag) (size:Nat) (v:V) (n:Nat) (ah:List V):Prop:=
 ah.length=n * size/\match v with
  | .bL=>n=0
  | .slice b off len cap=>len=n/\B<=ck b/\Old h b/\n<=cap/\cap<=top/\∃us cI st,h.get b=.bU us cI st/\off+cap * size<=us.length/\(us.drop off).take ah.length=ah
  | .ee b off len idx=>len=n/\B<=ck b/\Old h b/\off=0/\idx=0/\∃us st,h.get b=.bU us size st/\ah.length<=us.length/\us.take ah.length=ah
  | _=>False
theorem ec.v {B:Nat} {h:ag} {size:Nat} {v:V} {n:Nat} {ah:List V} (H:ec B h size v n ah):fl h size v n ah:=by
 obtain ⟨aa,ae⟩:=H;refine ⟨aa,?_⟩;cases v<;>simp only at ae ⊢<;>first | exact ae | skip
 . obtain ⟨al,_,au,aJ,_,us,cI,st,bE,c1,eh⟩:=ae;refine ⟨al,au,us,.inr ⟨cI,st,bE⟩,?_,eh⟩;rw [aa];have:=aq5 size aJ;omega
 . obtain ⟨al,_,au,aJ,_,us,st,bE,c1,eh⟩:=ae;subst aJ;exact ⟨al,au,us,.inr ⟨size,st,bE⟩,by omega,by simpa using eh⟩
theorem ec.base {B:Nat} {h:ag} {size:Nat} {v:V} {n:Nat} {ah:List V} (H:ec B h size v n ah) {b:aQ} (ak:v.a' b):B<=ck b:=by have cf:=H.2;cases v<;>simp only [V.a'] at cf ak<;>first | (exact ak.elim) | (subst ak;exact cf.2.1)
theorem ec.mono {B At:Nat} {h:ag} {size:Nat} {v:V} {n:Nat} {ah:List V} (H:ec B h size v n ah) (cJ:At<=B):ec At h size v n ah:=by refine ⟨H.1,?_⟩;have cf:=H.2;cases v<;>simp only at cf ⊢<;>first | exact cf | exact ⟨cf.1,aqK cJ cf.2.1,cf.2.2⟩
theorem ec.mod {M:aQ->Prop} {h ab:ag} (e:Mod M h ab) {B size:Nat} {v:V} {n:Nat} {ah:List V} (H:ec B h size v n ah) (hm:∀b,v.a' b->¬M b):ec B ab size v n ah:=by
 refine ⟨H.1,?_⟩;have cf:=H.2;cases v<;>simp only at cf ⊢<;>first | exact cf | skip
 . obtain ⟨al,au,aJ,bE,c1,us,cI,st,eh,ju⟩:=cf;exact ⟨al,au,e.bY aJ,bE,c1,us,cI,st,by rw [e.get _ aJ (hm _ rfl)];exact eh,ju⟩
 . obtain ⟨al,au,aJ,bE,c1,us,st,eh,ju⟩:=cf;exact ⟨al,au,e.bY aJ,bE,c1,us,st,by rw [e.get _ aJ (hm _ rfl)];exact eh,ju⟩
theorem ec.ext {h ab:ag} (e:Ext h ab) {B size:Nat} {v:V} {n:Nat} {ah:List V} (H:ec B h size v n ah):ec B ab size v n ah:=
 H.mod (e.mod fun _=>False) fun _ _ q=>q
theorem TW {h:ag} {size:Nat} {v:V} {n:Nat} {ah:List V} (H:fl h size v n ah):oP v=some n:=by
 have cf:=H.2;cases v<;>simp only at cf<;>first
  | (rw [<-cf.1];rfl)
  | (subst cf;rfl)
  | (exact cf.elim)
theorem C7 {h:ag} {b:aQ} {off size n:Nat} {ah:List V} (H:jR h b off ah) (aw:ah.length=n * size):pX h size b off n=some ah:=by obtain ⟨_,us,aa,ae,aM⟩:=H;unfold pX;rw [aa.pW,show Nat.ble (off+n * size) us.length=true from by rw [aqj];omega,EW us _ off (by omega),<-aw,aM];rfl
theorem amS {h:ag} {size:Nat} {v:V} {n:Nat} {ah:List V} (H:fl h size v n ah):vp h size v n=some ah:=by
 obtain ⟨aa,ae⟩:=H;cases v<;>simp only at ae<;>first
  | (exact ae.elim)
  | (obtain ⟨_,aM⟩:=ae;exact C7 aM aa)
  | (subst ae
     have:ah=[]:=arq (by omega);subst this;rfl)
theorem ec.grown {B:Nat} {h:ag} {size:Nat} {ah:List V} {n:Nat} {st:Bool} (aw:ah.length=n * size) (cJ:B<=h.next):ec B (h.new (.bU ah size st)) size (.ee (aG h.next) 0 n 0) n ah:=
 ⟨aw,rfl,by rw [dx];exact cJ,UN,rfl,rfl,ah,st,oA _,ap7 _,ar3⟩
theorem Yz {h:ag} {size:Nat} {s x:V} {m:Nat} {ah:List V} (cf:fl h size x m ah) (hm:m<=top):lF size s x h=(match s with
 | .bL=>yd size m ah h
 | .slice b off len cap=>yb size b off len cap m ah h
 | .ee b off len idx=>ya size b off len idx m ah h
 | _=>.fail):=by
 unfold lF;rw [TW cf];simp only;rw [amS cf];simp only;rw [show Nat.ble m top=true from by rw [aqj];exact hm];rfl
theorem Mm (A:List V) (o:Nat) (W:List V) (h:o+W.length<=A.length) (q:Nat):(iw A o W)[q]? =if q<o then A[q]? else if q<o+W.length then W[q-o]? else A[q]? :=by
 have aw:(A.take o).length=o:=by rw [aqw];omega
 unfold iw;rw [arf];by_cases bW:q<o
 . rw [aqf bW,aqq (by omega),aq3 bW]
 . rw [aqa bW,aqk (by omega),aw];by_cases b6:q<o+W.length
   . rw [aqf b6,aqq (by omega)]
   . rw [aqa b6,aqk (by omega),arl];congr 1;omega
theorem Wk (A:List V) (o j:Nat) (L W:List V) (nO:o+L.length<=A.length) (c0:(A.drop o).take L.length=L) (bG:j+W.length<=L.length):((iw A (o+j) W).drop o).take L.length=iw L j W:=by
 apply List.ext_getElem?;intro q;have aw:((A.drop o).take L.length)[q]? =L[q]? :=by rw [c0]
 rw [Mm L j W bG];by_cases ar:q<L.length
 . rw [aq3 ar,arl,Mm A (o+j) W (by omega)];rw [aq3 ar,arl] at aw;by_cases bW:q<j
   . rw [aqf (by omega),aqf bW,aw]
   . rw [aqa (by omega),aqa bW];by_cases b6:q<j+W.length
     . rw [aqf (by omega),aqf b6];congr 1;omega
     . rw [aqa (by omega),aqa b6,aw]
 . rw [List.getElem?_take_eq_none (by omega),aqa (by omega),aqa (by omega),aqI (by omega)]
theorem ye {B:Nat} {h:ag} {size:Nat} {s x:V} {n m:Nat} {us ah:List V} (cu:1<=size) (H1:ec B h size s n us) (cf:fl h size x m ah) (cJ:B<=h.next) (hlen:(n+m) * size<=top) (aY:eN ah=true):
 ∃v ab,lF size s x h=.val v ab/\ec B ab size v (n+m) (us++ah)/\Mod s.a' h ab/\∀b,v.a' b->s.a' b\/h.next<=ck b:=by
 have jl:n+m<=top:=aqK (Nat.le_mul_of_pos_right _ cu) hlen;have hi:=H1.1;have kf:=cf.1;have iU:(us++ah).length=(n+m) * size:=by rw [aqi,hi,kf,aq_]
 rw [Yz cf (by omega)];have ae:=H1.2;cases s<;>simp only at ae ⊢<;>try (exact ae.elim)
 case bL=>
  subst ae;have:us=[]:=arq (by omega);subst this;unfold yd;by_cases hm:m=0
  . subst hm;have:ah=[]:=arq (by omega);subst this;exact ⟨.bL,h,rfl,⟨by simp,rfl⟩,Mod.refl _ _,fun b ak=>.inl ak⟩
  . rw [show Nat.beq m 0=false from by rw [<-aqF,aqE];exact hm];simp only [aqe];rw [Lc (by rw [kf];simpa using hlen) cu];refine ⟨_,_,rfl,?_,(Mod.refl _ _).new _,fun b ak=>.inr (by rw [show b=aG h.next from ak,dx];exact ap7 _)⟩;have:=ec.grown (B:=B) (h:=h) (size:=size) (ah:=ah) (n:=m) (st:=false) kf cJ;simpa using this
 case slice b off len cap=>
  obtain ⟨rfl,au,aJ,bE,c1,lx,cI,st,eh,ju,lo⟩:=ae;unfold yb;by_cases av:len+m<=cap
  . rw [show Nat.ble (len+m) cap=true from by rw [aqj];exact av];simp only [ap8];have fb:off+len * size+ah.length<=lx.length:=by
     have:=aq5 size av;rw [aq_] at this;rw [kf];omega
    rw [Own.lay (ah:=lx) (cI:=cI) (st:=st) eh fb aY];refine ⟨_,_,rfl,⟨iU,rfl,au,aJ,av,c1,_,cI,st,ej _ _ _ |>.trans (aqf rfl),?_,?_⟩,(Mod.refl (V.a' (.slice b off len cap)) h).set (fun _=>rfl) _,fun bR ak=>.inl ak⟩
    . rw [G0 _ _ _ fb];exact ju
    . rw [aqi];unfold iw;have d':off+us.length<=lx.length:=by rw [hi];omega
      have ax:lx.take (off+len * size)=lx.take off++us:=by rw [<-hi,List.take_add,lo]
      rw [ax,arf,arf,List.drop_append,aqR (by rw [aqw];omega),aq8];rw [show off - (lx.take off).length=0 from by rw [aqw];omega,ara];rw [<-arf,asv (by rw [aqi])]
  . rw [show Nat.ble (len+m) cap=false from by rw [<-aqF,aqj];exact av];simp only [aqe];rw [show (Nat.ble (len+m) top&&Nat.ble cap top)=true from by simp only [ap2,aqj];exact ⟨jl,c1⟩];simp only [ap8];have uG:jR h b off us:=⟨aJ,lx,.inr ⟨cI,st,eh⟩,by rw [hi];have:=aq5 size bE;omega,lo⟩;rw [C7 uG hi];simp only;rw [Lc (by rw [iU];exact hlen) cu];exact ⟨_,_,rfl,ec.grown iU cJ,(Mod.refl _ _).new _,fun b ak=>.inr (by rw [show b=aG h.next from ak,dx];exact ap7 _)⟩
 case ee b off len idx=>
  obtain ⟨rfl,au,aJ,rfl,rfl,lx,st,eh,ju,lo⟩:=ae;unfold ya;by_cases hm:m=0
  . subst hm;have:ah=[]:=arq (by omega);subst this;exact ⟨_,h,rfl,⟨iU,rfl,au,aJ,rfl,rfl,lx,st,eh,by simpa using ju,by simpa using lo⟩,Mod.refl _ _,fun b ak=>.inl ak⟩
  . rw [show Nat.beq m 0=false from by rw [<-aqF,aqE];exact hm];simp only [aqe];rw [eh];simp only [b8.bU,b8.on];rw [show (Nat.beq size size&&(Nat.ble (len+m) top&&eN ah)&&Nat.beq 0 (0 * size))=true from by
     simp only [ap2,aqE,aqj]
     exact ⟨⟨trivial,jl,aY⟩,by omega⟩]
    simp only [ap8];have uG:jR h b 0 us:=⟨aJ,lx,.inr ⟨size,st,eh⟩,by omega,by simpa using lo⟩;rw [C7 uG hi];simp only;rw [Lc (by rw [iU];exact hlen) cu];exact ⟨_,_,rfl,ec.grown (h:=h.set b .dead) iU cJ,((Mod.refl (V.a' (.ee b 0 len 0)) h).set (fun _=>rfl) _).new _,fun bR ak=>.inr (by rw [show bR=aG h.next from ak,dx];exact ap7 _)⟩
theorem akE {ah ws:List V} (aa:eN ah=true) (ae:eN ws=true):eN (ah++ws)=true:=by
 induction ah with
 | nil=>exact ae
 | cons v ah bd=>
   simp only [eN,ap2,aqM] at aa ⊢;exact ⟨aa.1,bd aa.2⟩
def V.at (v:V) (b:aQ) (off:Nat):Prop:=
 match v with
 | .slice bR o _ _=>b=bR/\off=o
 | .ee bR o _ _=>b=bR/\off=o
 | _=>False
theorem YR {h:ag} {size:Nat} {v:V} {n:Nat} {ah:List V} (H:fl h size v n ah) {k:IntKind} {i:Nat} (aB:i<n) {b:aQ} {off:Nat} (e:hG size v (.int k i)=some (.ptr b (off+i * size))):v.at b off:=by
 have cf:=H.2;cases v<;>simp only at cf<;>first | omega | (exact cf.elim) | skip
 . obtain ⟨rfl,_⟩:=cf;rw [FG,aqf (by omega)] at e;simp only [ap3,V.ptr.injEq,aqc] at e;exact ⟨e.1.symm,by omega⟩
 . obtain ⟨rfl,_⟩:=cf;rw [FF,aqf (by omega)] at e;simp only [ap3,V.ptr.injEq,aqc] at e;exact ⟨e.1.symm,by omega⟩
theorem Wl (ah:List V) (c:Nat) (y:V) (h:c<ah.length):iw ah c [y]=ah.set c y:=by unfold iw;rw [List.set_eq_take_append_cons_drop,aqf h];simp
theorem ec.alv {B:Nat} {h:ag} {size:Nat} {v:V} {n:Nat} {ah:List V} (H:ec B h size v n ah) {b:aQ} {off:Nat} (bp:v.at b off) {c:Nat} (av:c<ah.length) {y:V} (a6:y.cells=[y]) (aY:y.one=true):
 ∃k,r0 1 h b (off+c) y (h.get b)=some (h.set b k)/\(∀gL:ag,gL.get b=h.get b->r0 1 gL b (off+c) y (h.get b)=some (gL.set b k))/\ec B (h.set b k) size v n (ah.set c y)/\v.a' b:=by
 obtain ⟨aa,ae⟩:=H;have hP:eN y.cells=true:=by rw [a6];simp [eN,aY]
 cases v<;>simp only at ae<;>simp only [V.at] at bp<;>try (exact bp.elim)
 case slice bR o len cap=>
  obtain ⟨rfl,rfl⟩:=bp;obtain ⟨rfl,au,aJ,bE,c1,lx,cI,st,eh,ju,lo⟩:=ae;have py:=aq5 size bE;have fb:off+c+y.cells.length<=lx.length:=by rw [a6];simp;omega
  have e:∀gL:ag,gL.get b=h.get b->r0 1 gL b (off+c) y (h.get b)=some (gL.set b (.bU (oc lx (off+c) y.cells) cI st)):=by intro gL _;rw [eh];exact KT (by rw [a6];rfl) hP (by rw [a6] at fb;simpa using fb)
  refine ⟨_,e h rfl,e,⟨by simpa using aa,rfl,au,aJ,bE,c1,_,cI,st,ej _ _ _ |>.trans (aqf rfl),?_,?_⟩,rfl⟩
  . rw [Ml _ _ _ fb];exact ju
  . rw [Ag _ _ _ fb,List.length_set];have:=Wk lx off c ah y.cells (by rw [aa];omega) lo (by rw [a6];simp;omega);rw [this,a6,Wl ah c y av]
 case ee bR o len idx=>
  obtain ⟨rfl,rfl⟩:=bp;obtain ⟨rfl,au,aJ,rfl,rfl,lx,st,eh,ju,lo⟩:=ae;have fb:0+c+y.cells.length<=lx.length:=by rw [a6];simp;omega
  have e:∀gL:ag,gL.get b=h.get b->r0 1 gL b (0+c) y (h.get b)=some (gL.set b (.bU (oc lx (0+c) y.cells) size st)):=by intro gL _;rw [eh];exact KT (by rw [a6];rfl) hP (by rw [a6] at fb;simpa using fb)
  refine ⟨_,e h rfl,e,⟨by simpa using aa,rfl,au,aJ,rfl,rfl,_,st,ej _ _ _ |>.trans (aqf rfl),?_,?_⟩,rfl⟩
  . rw [Ml _ _ _ fb,List.length_set];exact ju
  . rw [Ag _ _ _ fb,List.length_set];have:=Wk lx 0 c ah y.cells (by omega) (by simpa using lo) (by rw [a6];simp;omega);rw [ara] at this;rw [this,a6,Wl ah c y av]
theorem akN (r:bg):aX.opt r none=none:=(rfl)
theorem akO (r:bg) (x:aX):aX.opt r (some x)=some (x.aT r):=(rfl)
theorem uo {k:IntKind} {m d y:Nat} (h:m<=y):bound (some (.int k (m:Int))) d y=some m:=by simp only [bound,V.eB,pK];rw [show (decide ((0:Int)<=(m:Int))&&decide ((m:Int)<=(y:Int)))=true from by simp;omega];simp
theorem v8 (d y:Nat):bound none d y=some d:=rfl
theorem fl.cut {h:ag} {size:Nat} {v:V} {n:Nat} {ah:List V} (H:fl h size v n ah) {k bs:IntKind} {bu aB:Nat} (aa:bu<=aB) (ae:aB<=n) (lf k4:Option V)
 (d':lf=some (.int k bu)\/lf=none/\bu=0) (h7:k4=some (.int bs aB)\/k4=none/\aB=n) (k1:∀b off l c,v=.slice b off l c->l<=c):
 ∃cQ,hr size v lf k4 none=some cQ/\fl h size cQ (aB-bu) ((ah.drop (bu * size)).take ((aB-bu) * size))/\∀b,cQ.a' b->v.a' b:=by
 obtain ⟨al,au⟩:=H;have iU:((ah.drop (bu * size)).take ((aB-bu) * size)).length=(aB-bu) * size:=by rw [aqw,aqG,al];have ax:=aq5 size aa;have aH:=aq5 size ae;rw [Nat.sub_mul];omega
 have pf:∀y,bu<=y->bound lf 0 y=some bu:=by
  intro y a6;rcases d' with rfl | ⟨rfl,rfl⟩
  . exact uo a6
  . rfl
 have rn:∀d y,n=d->n<=y->bound k4 d y=some aB:=by
  intro d y aq a6;rcases h7 with rfl | ⟨rfl,rfl⟩
  . exact uo (by omega)
  . rw [v8,aq]
 have piece:∀(b:aQ) (off:Nat),jR h b off ah->jR h b (off+bu * size) ((ah.drop (bu * size)).take ((aB-bu) * size)):=by
  rintro b off ⟨bC,us,a2,a3,a4⟩;have ax:=aq5 size aa;have aH:=aq5 size ae;refine ⟨bC,us,a2,?_,?_⟩
  . rw [iU,Nat.sub_mul];omega
  . rw [iU,<-arn];have:(us.drop off).drop (bu * size)=(((us.drop off).take ah.length).drop (bu * size))++(us.drop off).drop ah.length:=by
     rw [<-List.drop_append_of_le_length (by rw [aqw,aqG];omega),arx]
    rw [this,a4,List.take_append_of_le_length (by rw [aqG,al,Nat.sub_mul];omega)]
 cases v<;>simp only at au<;>try (exact au.elim)
 case bL=>
  subst au;obtain rfl:aB=0:=by omega
  obtain rfl:bu=0:=by omega
  refine ⟨.bL,?_,⟨iU,rfl⟩,fun b ak=>ak⟩;simp only [hr,Ae,rn 0 0 rfl (ap7 _),pf 0 (ap7 _)]
 case slice b off len cap=>
  obtain ⟨rfl,aJ⟩:=au;have av:=k1 b off len cap rfl;have e:hr size (.slice b off len cap) lf k4 none=some (.slice b (bif Nat.beq cap bu then off else off+bu * size) (aB-bu) (cap-bu)):=by simp only [hr,q0,rn len cap rfl av,pf aB aa]
  rw [e];refine ⟨_,rfl,⟨iU,rfl,?_⟩,fun bR ak=>ak⟩;cases ak:Nat.beq cap bu with
  | false=>exact piece b off aJ
  | true=>
    rw [aqE] at ak;obtain rfl:aB=bu:=by omega
    obtain ⟨bC,us,a2,a3,a4⟩:=aJ;refine ⟨bC,us,a2,?_,?_⟩<;>simp;omega
 case ee b off len idx=>
  obtain ⟨rfl,aJ⟩:=au;by_cases aN:bu<len
  . have e:hr size (.ee b off len idx) lf k4 none=some (.ee b (off+bu * size) (aB-bu) (idx+bu)):=by
     simp only [hr,sf,rn len len rfl (ap7 _),pf aB aa];rw [show Nat.blt bu len=true from by rw [aqA];exact aN];rfl
    rw [e];exact ⟨_,rfl,⟨iU,rfl,piece b off aJ⟩,fun bR ak=>ak⟩
  . have e:hr size (.ee b off len idx) lf k4 none=some (.gB b off (off+bu * size) (idx+bu)):=by
     simp only [hr,sf,rn len len rfl (ap7 _),pf aB aa];rw [show Nat.blt bu len=false from by rw [<-aqF,aqA];exact aN];rfl
    rw [e];exact ⟨_,rfl,⟨iU,by omega⟩,fun bR ak=>ak.elim⟩
 case gB b off kJ idx=>
  subst au;obtain rfl:aB=0:=by omega
  obtain rfl:bu=0:=by omega
  refine ⟨.gB b off kJ idx,?_,⟨iU,rfl⟩,fun b ak=>ak⟩;simp only [hr,Af,rn 0 0 rfl (ap7 _),pf 0 (ap7 _)]
theorem ajY (b:aQ) (o:Nat):u7 (.ptr b o)=some (.ptr b o):=rfl
theorem ajH (k bs:IntKind) (a b:Int):lk (fun b a=>!Int.leB a b) [.int k a,.int bs b]=some (.int k (if b<a then b else a)):=by
 simp only [lk,xp,V.eB,pK];by_cases h:b<a
 . rw [aqf h];have:¬a<=b:=by omega
   simp [this]
 . rw [aqa h];have:a<=b:=by omega
   simp [this]
theorem Up (k bs:IntKind) (a b:Int):lk (fun b a=>!Int.leB b a) [.int k a,.int bs b]=some (.int k (if a<b then b else a)):=by
 simp only [lk,xp,V.eB,pK];by_cases h:a<b
 . rw [aqf h];have:¬b<=a:=by omega
   simp [this]
 . rw [aqa h];have:b<=a:=by omega
   simp [this]
end
section
open Go Go.RowKit
set_option linter.defProp false
variable [Lay]
end
section
open Go Go.RowKit
variable [Lay]
theorem abd {P:Program} {aP:List iy} {r:bg} {h:ag} {Q:cV->bg->ag->Prop} {a b:aR}:yk P (.bool true) a b aP r h Q=bt P (.c a::aP) .normal r h Q:=by rw [Qx];simp
theorem abc {P:Program} {aP:List iy} {r:bg} {h:ag} {Q:cV->bg->ag->Prop} {a b:aR}:yk P (.bool false) a b aP r h Q=bt P (.c b::aP) .normal r h Q:=by rw [Qx];simp
theorem N4 (a b:List UInt8):mg a b=decide (a=b):=by rw [vZ,aqX];simp
theorem H9 (k:IntKind) (b:Int) (d y:Nat):bound (some (.int k b)) d y=if 0<=b/\b<=(y:Int) then some b.toNat else none:=by simp only [bound,V.eB,pK];by_cases aa:0<=b<;>by_cases ae:b<=(y:Int)<;>simp [aa,ae]
theorem amK (s:List UInt8) (k:IntKind) (b:Int):nt (.str s) none (some (.int k b)) none=if 0<=b/\b<=(s.length:Int) then some (.str (s.take b.toNat)) else none:=by
 simp only [nt,H9];by_cases h:0<=b/\b<=(s.length:Int)
 . simp only [h,and_self,aqB,bound,ara,asq]
 . simp only [h,aqD]
theorem amL (s:List UInt8) (k:IntKind) (a:Int):nt (.str s) (some (.int k a)) none none=if 0<=a/\a<=(s.length:Int) then some (.str (s.drop a.toNat)) else none:=by
 simp only [nt,v8,H9];by_cases h:0<=a/\a<=(s.length:Int)
 . simp only [h,and_self,aqB];rw [aqt (by rw [aqG];omega)]
 . simp only [h,aqD]
theorem amM (s:List UInt8) (k bs:IntKind) (a b:Int):nt (.str s) (some (.int k a)) (some (.int bs b)) none=if 0<=a/\a<=b/\b<=(s.length:Int) then some (.str ((s.drop a.toNat).take (b.toNat-a.toNat))) else none:=by
 simp only [nt,H9];by_cases h:0<=b/\b<=(s.length:Int)
 . simp only [h,and_self,aqB];by_cases ae:0<=a/\a<=b
   . have:0<=a/\a<=((b.toNat:Nat):Int):=by omega
     simp only [this,and_self,aqB,ae,h]
   . have aM:¬(0<=a/\a<=((b.toNat:Nat):Int)):=by omega
     have bw:¬(0<=a/\a<=b/\b<=(s.length:Int)):=by omega
     have cw:¬(0<=a/\a<=b/\True):=fun q=>ae ⟨q.1,q.2.1⟩;rw [aqa cw,aqa aM]
 . have bw:¬(0<=a/\a<=b/\b<=(s.length:Int)):=by omega
   simp only [h,bw,aqD]
theorem amJ (s:List UInt8):nt (.str s) none none none=some (.str s):=by simp only [nt,v8,ara,asq,ar3]
section
variable {P:Program}
theorem amt (a b:List UInt8):(eK.str .eql).run P (.str a) (.str b)=some (.bool (decide (a=b))):=by simp only [eK.run,tI,sh,N4]
theorem ams (a b:List UInt8):(eK.str .add).run P (.str a) (.str b)=if a.length+b.length<=top then some (.str (a++b)) else none:=by
 simp only [eK.run,tI,G5];by_cases h:a.length+b.length<=top
 . rw [aqf h,show Nat.ble (a.length+b.length) top=true from by rw [aqj];exact h];rfl
 . rw [aqa h,show Nat.ble (a.length+b.length) top=false from by rw [<-aqF,aqj];exact h];rfl
theorem amu (s:List UInt8) (k:IntKind) (i:Int):te.run (.str s) (.int k i)=if 0<=i/\i < (s.length:Int) then some (.int .u8 (((s[i.toNat]?).getD 0).toNat:Int)) else none:=by
 simp only [te,V.eB,pK];by_cases aa:0<=i
 . simp only [aa,arP,ap8,asb];by_cases ae:i < (s.length:Int)
   . rw [aqf ae,ap4 (by omega)];rfl
   . rw [aqa ae,aqI (by omega)]
 . simp only [aa,arN,aqe,asu,aqD]
theorem amv (a b:List UInt8):(eK.str .neq).run P (.str a) (.str b)=some (.bool (!decide (a=b))):=by simp only [eK.run,tI,sh,N4]
end
end
section
open Go Go.RowKit
set_option linter.defProp false
def anX:=
 And.intro @ahn<|And.intro @agv<|And.intro @ahy<|And.intro @agw<|And.intro @ahu<|And.intro @ahz<|And.intro @ahv<|And.intro @agQ<|And.intro @agG<|And.intro @agD<|And.intro @agE<|And.intro @ahb<|And.intro @agM<|And.intro @ahr<|And.intro @ahj<|And.intro @ail<|And.intro @aht<|And.intro @ais<|And.intro @agA<|And.intro @ahN<|And.intro @ag3<|And.intro @ah8<|And.intro @ag4<|And.intro @ah9<|And.intro @aho<|And.intro @aio<|And.intro @agu<|And.intro @ahK<|And.intro @ahE<|And.intro @aiy<|And.intro @agV<|And.intro @ah2<|And.intro @ag0<|And.intro @ah5<|And.intro @ahB<|And.intro @aiw<|And.intro @ahA<|And.intro @aiv<|And.intro @agS<|@ahZ
def anY:=
 And.intro @agT<|And.intro @ah0<|And.intro @agU<|And.intro @ah1<|And.intro @agY<|And.intro @ah3<|And.intro @agZ<|And.intro @ah4<|And.intro @ag2<|And.intro @ah7<|And.intro @ag1<|And.intro @ah6<|And.intro @ag'<|And.intro @aic<|And.intro @agR<|And.intro @ahY<|And.intro @ahh<|And.intro @aik<|And.intro @ahk<|And.intro @aim<|And.intro @agI<|And.intro @ahT<|And.intro @ag7<|And.intro @aia<|And.intro @ag8<|And.intro @aib<|And.intro @ag5<|And.intro @ah'<|And.intro @ahm<|And.intro @ain<|And.intro @agy<|And.intro @ahL<|And.intro @agz<|And.intro @ahM<|And.intro @ahC<|And.intro @aix<|And.intro @ahg<|And.intro @aij<|And.intro @ahF<|@aiz
def anZ:=
 And.intro @ahf<|And.intro @aii<|And.intro @ahx<|And.intro @aiu<|And.intro @ahp<|And.intro @aip<|And.intro @agr<|And.intro @ahI<|And.intro @agF<|And.intro @ahR<|And.intro @ag6<|And.intro @ah_<|And.intro @agH<|And.intro @ahS<|And.intro @agK<|And.intro @ahV<|And.intro @agJ<|And.intro @ahU<|And.intro @ahO<|And.intro @ahP<|And.intro @Tx<|And.intro @agB<|@agL
def an0:=
 And.intro @am7<|And.intro @amQ<|And.intro @abd<|And.intro @abc<|And.intro @aaE<|And.intro @al6<|And.intro @Zc<|And.intro @Zb<|And.intro @akQ<|And.intro @acw<|And.intro @acv<|And.intro @Ze<|And.intro @aci<|And.intro @ach<|And.intro @ald<|And.intro @acq<|And.intro @akm<|And.intro @akl<|And.intro @ai7<|And.intro @ai5<|And.intro @ai8<|And.intro @ai6<|And.intro @ai9<|And.intro @FG<|And.intro @FF<|And.intro @abx<|And.intro @ack<|And.intro @acj<|And.intro @anu<|And.intro @amy<|And.intro @amz<|And.intro @akb<|And.intro @akc<|And.intro @akP<|And.intro @akM<|And.intro @anM<|And.intro @anL<|And.intro @Y2<|And.intro @Y3<|@Y4
def an1:=
 And.intro @Y5<|And.intro @Y1<|And.intro @Xw<|And.intro @Xy<|And.intro @Xx<|And.intro @anr<|And.intro @ant<|And.intro @ans<|And.intro @age<|And.intro @agh<|And.intro @agf<|And.intro @agq<|And.intro @ahD<|And.intro @ahi<|And.intro @agO<|And.intro @ahl<|And.intro @ahc<|And.intro @ag9<|And.intro @agX<|And.intro @agW<|And.intro @agt<|And.intro @agx<|And.intro @anF<|And.intro @anE<|And.intro @ajh<|And.intro @ajj<|And.intro @TJ<|And.intro @TK<|And.intro @TM<|And.intro @TN<|And.intro @amY<|And.intro @aiG<|And.intro @oA<|And.intro @iR<|And.intro @ej<|And.intro @r9<|And.intro @ir<|And.intro @oT<|And.intro @ajP<|@aaJ
def an2:=
 And.intro @akp<|And.intro @ac4<|And.intro @aaN<|And.intro @akt<|And.intro @ac8<|And.intro @aaY<|And.intro @akC<|And.intro @adh<|And.intro @aaS<|And.intro @aky<|And.intro @adb<|And.intro @aaV<|And.intro @akA<|And.intro @adf<|And.intro @aaX<|And.intro @akB<|And.intro @adg<|And.intro @aaL<|And.intro @akr<|And.intro @ac6<|And.intro @aaZ<|And.intro @akD<|And.intro @adi<|And.intro @aaT<|And.intro @akz<|And.intro @ade<|And.intro @aaR<|And.intro @akx<|And.intro @ada<|And.intro @aaO<|And.intro @aku<|And.intro @ac9<|And.intro @aaK<|And.intro @akq<|And.intro @ac5<|And.intro @aaQ<|And.intro @akw<|And.intro @ac_<|And.intro @aaM<|@aks
def an3:=
 And.intro @ac7<|And.intro @aaP<|And.intro @akv<|And.intro @ac'<|And.intro @aaI<|And.intro @ac3<|And.intro @adj<|And.intro @ai0<|And.intro @ai1<|And.intro @aiZ<|And.intro @beq_true<|And.intro @beq_false<|And.intro @ar4<|And.intro @asf<|And.intro @aqY<|And.intro @aq1<|And.intro @aqV<|And.intro @art<|And.intro @Bool.not_not<|And.intro @V.bool.injEq<|And.intro @aqP<|And.intro @aro<|And.intro @ann<|And.intro @ano<|And.intro @anl<|And.intro @Bool.true_eq_false<|And.intro @aqd<|And.intro @anq<|And.intro @alq<|And.intro @alr<|And.intro @YN<|And.intro @YM<|And.intro @YJ<|And.intro @YF<|And.intro @aef<|And.intro @aeh<|And.intro @aeg<|And.intro @YG<|And.intro @YH<|@YK
def an4:=
 And.intro @YL<|And.intro @UC<|And.intro @an8<|And.intro @CC<|And.intro @an9<|And.intro @aj5<|And.intro @an'<|And.intro @aj6<|And.intro @an_<|And.intro @aj7<|And.intro @aoa<|And.intro @aj8<|And.intro @aob<|And.intro @aj9<|And.intro @aoc<|And.intro @aj'<|And.intro @aod<|And.intro @ac0<|And.intro @acX<|And.intro @acZ<|And.intro @acY<|And.intro @ac1<|And.intro @Bool.or_false<|And.intro @arQ<|And.intro @Bool.or_true<|And.intro @Bool.true_or<|And.intro @ajY<|And.intro @ajH<|And.intro @Up<|And.intro @akN<|And.intro @akO<|And.intro @Ya<|And.intro @Yg<|And.intro @Yh<|And.intro @Yi<|And.intro @Yj<|And.intro @Yk<|And.intro @Yl<|And.intro @Ym<|@Yn
def an5:=
 And.intro @X_<|And.intro @Yb<|And.intro @Yc<|And.intro @Yd<|And.intro @Ye<|And.intro @Yf<|And.intro @amK<|And.intro @amL<|And.intro @amM<|And.intro @amJ<|And.intro @amt<|And.intro @amv<|And.intro @ams<|@amu
end
section
open Go Go.RowKit
variable [Lay]
theorem AZ {B:Nat} {h:ag} {size:Nat} {s:V} {n:Nat} {us cs:List V} (cu:1<=size) (H1:ec B h size s n us) (cJ:B<=h.next) (hlen:(n+1) * size<=top) (hD:cs.length=size) (aY:eN cs=true):
 ∃v ab,lF size s (.slice (aG h.next) 0 1 1) (h.new (.bU cs 0 false))=.val v ab/\ec B ab size v (n+1) (us++cs)/\Mod s.a' h ab/\h.next+1<=ab.next/\∀b,v.a' b->s.a' b\/h.next<ck b:=by
 have ao:Ext h (h.new (.bU cs 0 false)):=(Ext.refl h).new _;have bz:fl (h.new (.bU cs 0 false)) size (.slice (aG h.next) 0 1 1) 1 cs:=by refine ⟨by rw [hD];omega,rfl,iJ (by rw [ir];omega),cs,.inr ⟨0,false,by rw [oA]⟩,by omega,by simp⟩
 obtain ⟨v,ab,al,au,aJ,bE⟩:=ye cu (H1.ext ao) bz (by rw [ir];omega) hlen aY;refine ⟨v,ab,al,au,(ao.mod _).trans aJ,by have:=aJ.next;rw [ir] at this;exact this,fun b ak=>?_⟩;rcases bE b ak with q | q
 . exact .inl q
 . exact .inr (by rw [ir] at q;omega)
theorem WJ:∀l:List UInt8,o1 (iQ l)=some l
 | []=>rfl
 | c::l=>by have bd:=WJ l;simp only [iQ,o1,bd];simp
theorem Ec:∀l:List UInt8,(iQ l).length=l.length
 | []=>rfl
 | c::l=>by simp only [iQ,aqb,Ec l]
theorem N_:∀l m:List UInt8,iQ (l++m)=iQ l++iQ m
 | [],m=>rfl
 | c::l,m=>by simp only [iQ,aqM,N_ l m]
theorem Ws {h:ag} {b:aQ} {us:List V} {cI:Nat} {st:Bool} {off:Nat} {l:List UInt8} (aL:h.get b=.bU us cI st) (aw:off+l.length<=us.length) (hu:(us.drop off).take l.length=iQ l):vr b off l.length h=.val (.str l) h:=by unfold vr;rw [aL];simp only [b8.pW,b8.bU];rw [show Nat.ble (off+l.length) us.length=true from by rw [aqj];exact aw];simp only [ap8];rw [EW us l.length off aw,hu,WJ]
theorem Qz {B:Nat} {h:ag} {v:V} {n:Nat} {l:List UInt8} (H:ec B h 1 v n (iQ l)):uu.run v h=.val (.str l) h:=by
 have aa:=H.1;rw [Ec,asl] at aa;have ae:=H.2;cases v<;>simp only at ae<;>try (exact ae.elim)
 case bL=>
  subst ae;rw [arW] at aa;subst aa;rfl
 case slice=>
  obtain ⟨al,au,aJ,bE,c1,us,cI,st,eh,ju,lo⟩:=ae;rw [Ec] at lo;simp only [uu];rw [al,<-aa];exact Ws eh (by omega) lo
 case ee=>
  obtain ⟨al,au,aJ,bE,c1,us,st,eh,ju,lo⟩:=ae;rw [Ec] at lo ju;simp only [uu];rw [al,bE,<-aa];exact Ws eh (by omega) (by simpa using lo)
theorem Mod.self {b:aQ} {h ab:ag} (e:Mod (fun q=>q=b) h ab) (k:b8):Mod (fun q=>q=b) h (ab.set b k):=e.set (fun _=>rfl) k
theorem Mod.fresh {M:aQ->Prop} {h ab:ag} (e:Mod M h ab) {i:Nat} (aB:h.next<=i) (k:b8):Mod M h (ab.set (aG i) k):=
 e.set (fun q=>absurd (show ck (aG i)<h.next from q) (by rw [dx];omega)) k
theorem Mod.anm {M N:aQ->Prop} {h ae aM:ag} (e:Mod M h ae) (q:Mod N ae aM) (aW:∀b,N b->h.next<=ck b):Mod M h aM:=
 ⟨aqK e.next q.next,fun b aY ak=>by rw [q.get b (e.bY aY) (fun k=>absurd (show ck b<h.next from aY) (by have:=aW b k;omega)),e.get b aY ak]⟩
end
section
open Go Go.RowKit
set_option linter.defProp false
variable [Lay]
def af:=And.intro @anX<|And.intro @anY @anZ
def anP:=And.intro @an0<|And.intro @an1<|And.intro @an2<|And.intro @an3<|And.intro @an4 @an5
def anQ:=And.intro @arD.{0}<|And.intro @aqL.{0}<|And.intro @aqB.{1}<|And.intro @aqD.{1}<|And.intro @asb<|And.intro @ast<|And.intro @aqm.{0}<|And.intro @aq6.{0}<|And.intro @aqb.{0}<|And.intro @aqN.{0}<|
 And.intro @ara.{0}<|And.intro @arH.{0}<|And.intro @ari.{0}<|And.intro @asw.{0}<|And.intro @aqM.{0}<|And.intro @aq8.{0}<|And.intro @ap3.{0}<|And.intro @exists_eq_left'.{1}<|And.intro @arS.{0}<|
 And.intro @Nat.succ_ne_zero<|And.intro @af4<|And.intro @af3<|And.intro @List.getElem?_nil.{0}<|And.intro @arP<|And.intro @arN<|And.intro @eq_self.{1}<|And.intro @not_true_eq_false<|And.intro @not_false_eq_true<|And.intro @ite_true.{1} @ite_false.{1}
def bq:=And.intro anP (And.intro anQ (And.intro @ja.eq_1 (And.intro @ja.eq_2 (And.intro @aX.fV.eq_1 (And.intro @aX.fV.eq_2 (And.intro @oc.eq_1 (And.intro @oc.eq_2 (And.intro @oc.eq_3 (And.intro @over.eq_1 (And.intro @over.eq_2 (And.intro @over.eq_3 (And.intro @eN.eq_1 (@eN.eq_2)))))))))))))
def an:=And.intro bq (And.intro @cV.ends.eq_1 (And.intro @cV.ends.eq_2 (And.intro @lM.eq_1 (And.intro @lM.eq_2 (And.intro @lM.eq_3 (And.intro @lM.eq_4 (And.intro @oneOf.eq_1 (And.intro @oneOf.eq_2 top.eq_1))))))))
end
section
open Go Go.RowKit
variable [Lay]
theorem aa2 {P:Program} {f:FuncId} (a6:Nat.beq f dy=false) {v:V} (bz:∀E x,x=.bool true->Rel E v x) (hE:∃fn,P.funcs[f]? =some fn/\fn.body.isSome=true) (H:∀w,Lay.ok w->Calls P f #[] w fun e w'=>e=.returned (.bool true)/\Below w.heap.size w w') (h:ag):
 e4 P f [] h v h:=by
 refine ⟨fun e=>by subst e;simp at a6,.inl ⟨hE,fun aC E w xs ao s=>?_⟩⟩;simp only [bj] at ao;subst ao;refine (H w (Lay.fc s.laid s.frame)).mono fun e w' q=>?_;obtain ⟨rfl,ak⟩:=q;exact ⟨E,_,rfl,fun _ _ q=>q,bz E _ rfl,s.below ak⟩
def sk (E:Env) (h:ag) (p:jW):Env:=fun b=>if b=aG h.next then some p else E b
theorem WT (E:Env) (h:ag) (p:jW):sk E h p (aG h.next)=some p:=aqf rfl
theorem ML {aC:Fr} {E:Env} {h:ag} {w:World} (s:bc aC E h w) (p:jW):E.le (sk E h p):=fun b q ar=>by unfold sk;rw [aqa (fun e=>by rw [e,s.fresh _ (ap7 _)] at ar;cases ar)];exact ar
theorem amG {W:World} {E:Env} {h:ag} (s:bc ⟨W,fun _=>none⟩ E h W) (p:jW) (k:b8) (aY:k.own=false) (aA:fR W.heap.size (sk E h p) W (aG h.next) k):
 bc ⟨W,fun _=>none⟩ (sk E h p) (h.new k) W:=by
 refine ⟨fun b _=>?_,fun _ _ h=>(by cases h),fun b bR q fi aa ae ax aH ar=>?_,fun i aB=>?_,s.frame,s.laid,fun b q n cs st aa ax=>by
  rw [iR] at aa;by_cases bW:aG h.next=b
  . rw [aqf bW] at aa;rw [aa] at aY;cases aY
  . rw [aqa bW] at aa;unfold sk at ax;rw [aqa (fun e=>bW e.symm)] at ax;exact s.base _ _ _ _ _ aa ax⟩
 . rw [iR];by_cases e:aG h.next=b
   . subst e;rw [aqf rfl];exact aA
   . rw [aqa e];exact (s.a' b rfl).mono (ML s p)
 . rw [iR] at aa ae;by_cases bW:aG h.next=b
   . rw [aqf bW,aY] at aa;cases aa
   . by_cases b6:aG h.next=bR
     . rw [aqf b6,aY] at ae;cases ae
     . rw [aqa bW] at aa;rw [aqa b6] at ae;unfold sk at ax aH;rw [aqa (fun e=>bW e.symm)] at ax;rw [aqa (fun e=>b6 e.symm)] at aH;exact s.inj b bR q fi aa ae ax aH ar
 . rw [ir] at aB;unfold sk;rw [aqa (fun e=>by have:=gZ e;omega)];exact s.fresh i (by omega)
theorem amH {W:World} {E:Env} {h:ag} (s:bc ⟨W,fun _=>none⟩ E h W) {k base cap:Nat} {c:Array Value} {el:TypeId} {b4:Nat × Nat} (aA:W.heap[k]? =some (.cells c el b4)) {ah:List V}
 (av:base+ah.length<=c.size) (aD:∀i v y,ah[i]? =some v->c[base+i]? =some y->Rel E v y):
 bc ⟨W,fun _=>none⟩ (sk E h ⟨k,base,cap⟩) (h.new (.ro ah)) W:=by
 refine amG s _ _ rfl ?_;have aN:k<W.heap.size:=by
  by_cases aN:k<W.heap.size
  . exact aN
  . rw [arY (by omega)] at aA;cases aA
 refine ⟨trivial,⟨k,base,cap⟩,c,el,b4,WT _ _ _,aN,aA,av,fun i y aB a6=>?_⟩;have:T.get .bad (aG i) (gl .e 0 ah)=ah[i]:=by have:=EU ah 0 i .e;rw [aqP] at this;rw [this,aqf aB,ap4 aB];rfl
 rw [this];exact Rel.mono (ML s _) _ _ (aD i _ y (ap4 aB) a6)
end
section
open Go Go.RowKit
variable [Lay]
section
variable (P:Program)
def Al:List Field->Nat->Option Nat
 | [],o=>some o
 | f::b9,o=>if f.offset=o then Al b9 (o+P.cellsOf f.type) else none
def xH:Bool:=(List.range P.types.size).all fun t=>match P.underlying t with
 | some (.struct b9)=>decide (Al P b9.toList 0=some (P.cellsOf t))
 | _=>true
def dB (h:ag):Nat->Nat->TypeId->List V->Prop
 | 0,_,_,_=>False
 | n+1,m,t,ah=>match P.underlying t with
   | some .bool=>∃b,ah=[.bool b]
   | some (.int k)=>∃i,ah=[.int k i]/\(Lit.int k i).wf=true
   | some .string=>∃s:List UInt8,ah=[.str s]/\s.length+1<=m
   | some (.slice e)=>1<=m/\(ah=[.bL]\/(∃b i j k,ah=[.gB b i j k])\/P.cellsOf e=0\/
      ∃b len cap,ah=[.slice b 0 len cap]/\0<len/\len<=cap/\Old h b/\∃us,nA h b us/\us.length=len * P.cellsOf e/\∃ms:List Nat,ms.length=len/\ms.sum+1<=m/\
       ∀(i k:Nat),ms[i]? =some k->1<=k/\dB h n k e ((us.drop (i * P.cellsOf e)).take (P.cellsOf e)))
   | some (.struct b9)=>ah.length=P.cellsOf t/\∃ms:List Nat,ms.length=b9.toList.length/\ms.sum+1<=m/\∀(i:Nat) (f:Field) (k:Nat),b9.toList[i]? =some f->ms[i]? =some k->1<=k/\dB h n k f.type ((ah.drop f.offset).take (P.cellsOf f.type))
   | some (.pointer e)=>1<=m/\(ah=[.kI]\/P.cellsOf e=0\/∃b,ah=[.ptr b 0]/\Old h b/\∃us,nA h b us/\us.length=P.cellsOf e/\∃k,k+1<=m/\dB h n k e us)
   | some (.map _ _)=>ah=[.kj]\/ah=[.bad]
   | some (.interface _)=>ah=[.nilIface]\/ah=[.bad]
   | _=>True
end
theorem dB.ext {P:Program} {h ab:ag} (e:Ext h ab):∀(n m:Nat) (t:TypeId) (ah:List V),dB P h n m t ah->dB P ab n m t ah
 | 0,_,_,_,H=>H
 | n+1,m,t,ah,H=>by
   unfold dB at H ⊢
   split at H<;>try exact H
   . refine ⟨H.1,?_⟩;rcases H.2 with H | H | H | ⟨b,len,cap,aa,ae,aM,cw,us,cd,cn,ms,fO,gw,kF⟩
     . exact .inl H
     . exact .inr (.inl H)
     . exact .inr (.inr (.inl H))
     . exact .inr (.inr (.inr ⟨b,len,cap,aa,ae,aM,e.bY cw,us,e.rd cw cd,cn,ms,fO,gw,fun i k aA=>⟨(kF i k aA).1,dB.ext e n _ _ _ (kF i k aA).2⟩⟩))
   . obtain ⟨aa,ms,ae,aM,bw⟩:=H;exact ⟨aa,ms,ae,aM,fun i f k aF aA=>⟨(bw i f k aF aA).1,dB.ext e n _ _ _ (bw i f k aF aA).2⟩⟩
   . refine ⟨H.1,?_⟩;rcases H.2 with H | H | ⟨b,aa,cw,us,cd,cn,k,fO,gw⟩
     . exact .inl H
     . exact .inr (.inl H)
     . exact .inr (.inr ⟨b,aa,e.bY cw,us,e.rd cw cd,cn,k,fO,dB.ext e n _ _ _ gw⟩)
mutual
def gd {H:Type}:DataW H->Nat
 | .lit (.string bytes)=>bytes.length+1
 | .lit _=>1
 | .nil=>1
 | .ptr d=>gd d+1
 | .slice elems spare=>mO elems+mO spare+1
 | .agg parts=>mO parts+1
 | .iface _ d=>gd d+1
 | .map entries=>D_ entries+1
 | .held _=>1
def mO {H:Type}:List (DataW H)->Nat
 | []=>0
 | d::r=>gd d+mO r
def D_ {H:Type}:List (Lit × DataW H)->Nat
 | []=>0
 | x::r=>Ib x+D_ r
def Ib {H:Type}:Lit × DataW H->Nat
 | (.string bytes,d)=>bytes.length+gd d+1
 | (_,d)=>gd d+1
end
theorem sL {H:Type} (d:DataW H):1<=gd d:=by
 cases d with
 | lit l=>cases l<;>simp [gd]
 | _=>simp [gd]
theorem Ia {H:Type}:∀l:List (DataW H),mO l=(l.map gd).sum
 | []=>by simp [mO]
 | d::r=>by simp only [mO,are,ar7,Ia r]
theorem Ef {w:World} {base:Nat} {a:Addr} {n:Nat} {l:List Value} (h:w.cells? base a n=some l):l.length=n/\∀i,i<n->w.cell? (a.add i)=l[i]? :=by
 unfold World.cells? at h
 split at h
 . exact ⟨by simpa using mapM_some_length h,fun i aB=>mapM_some_get h i i (by simp [aB])⟩
 . cases h
theorem VM {E az:Env} (he:E.le az) {ah:List V} {l:List Value} (H:bj E ah l):bj az ah l:=bj.mono he ah l H
section
variable {H:Type} {enc:TypeId × Value->H} {P:Program} {W:World} {base:Nat} {sp:Nat->Bool} {held:Bool}
def Lays (P:Program) (W:World) (n m:Nat) (t:TypeId) (cs:List Value):Prop:=
 ∀(E:Env) (h:ag),bc ⟨W,fun _=>none⟩ E h W->∃az ab ah,E.le az/\Ext h ab/\bc ⟨W,fun _=>none⟩ az ab W/\bj az ah cs/\ah.length=cs.length/\dB P ab n m t ah
theorem TH (n size:Nat) (e:TypeId):∀(pieces:List (List Value)) (ms:List Nat),ms.length=pieces.length->(∀(i:Nat) (l:List Value) (k:Nat),pieces[i]? =some l->ms[i]? =some k->l.length=size/\Lays P W n k e l)->
 ∀(E:Env) (h:ag),bc ⟨W,fun _=>none⟩ E h W->∃az ab us,E.le az/\Ext h ab/\bc ⟨W,fun _=>none⟩ az ab W/\bj az us pieces.flatten/\us.length=pieces.length * size/\
  ∀(i k:Nat),ms[i]? =some k->dB P ab n k e ((us.drop (i * size)).take size)
 | [],[],_,_,E,h,s=>⟨E,h,[],fun _ _ q=>q,Ext.refl h,s,rfl,by simp,fun i k aB=>by simp at aB⟩
 | [],_::_,aw,_,_,_,_=>by simp at aw
 | _::_,[],aw,_,_,_,_=>by simp at aw
 | l::ls,m::ms,mq,ai,E,h,s=>by
   obtain ⟨aw,H⟩:=ai 0 l m rfl rfl;obtain ⟨eP,aa,ah,bC,a2,a3,a4,a5,ka⟩:=H E h s;obtain ⟨bO,ae,us,bM,b1,dR,gD,jX,vY⟩:=TH n size e ls ms (by simpa using mq) (fun i l k al au=>ai (i+1) l k (by simpa using al) (by simpa using au)) eP aa a3;refine ⟨bO,ae,ah++us,bC.trans bM,a2.trans b1,dR,?_,?_,?_⟩
   . rw [arc];exact bj.append (VM bM a4) gD
   . rw [aqi,jX,a5,aw,aqb,aq_];omega
   . intro i k aB;cases i with
     | zero=>
       rw [asm,ara,asv (by rw [a5,aw])];simp only [aqm,ap3] at aB;subst aB;exact dB.ext b1 _ _ _ _ ka
     | succ i=>
       rw [aq_,Nat.one_mul,asc,<-arn,List.drop_left' (by rw [a5,aw])];exact vY i k (by simpa using aB)
theorem TG (n:Nat):∀(b9:List Field) (ms:List Nat) (o b_:Nat) (cs:List Value),Al P b9 o=some b_->cs.length=b_->ms.length=b9.length->(∀(i:Nat) (f:Field) (k:Nat),b9[i]? =some f->ms[i]? =some k->Lays P W n k f.type ((cs.drop f.offset).take (P.cellsOf f.type)))->
 o<=b_/\∀(E:Env) (h:ag),bc ⟨W,fun _=>none⟩ E h W->∃az ab ah,E.le az/\Ext h ab/\bc ⟨W,fun _=>none⟩ az ab W/\bj az ah (cs.drop o)/\ah.length=b_-o/\
  ∀(i:Nat) (f:Field) (k:Nat),b9[i]? =some f->ms[i]? =some k->o<=f.offset/\dB P ab n k f.type ((ah.drop (f.offset-o)).take (P.cellsOf f.type))
 | [],_::_,_,_,_,_,_,mq,_=>by simp at mq
 | _::_,[],_,_,_,_,_,mq,_=>by simp at mq
 | [],[],o,b_,cs,aK,aw,_,_=>by simp only [Al,ap3] at aK;subst aK;refine ⟨ap7 _,fun E h s=>⟨E,h,[],fun _ _ q=>q,Ext.refl h,s,?_,by simp,fun i f k aF=>by simp at aF⟩⟩;rw [aqR (by omega)];rfl
 | f::b9,m::ms,o,b_,cs,aK,aw,mq,ai=>by
   simp only [Al] at aK;by_cases aF:f.offset=o
   . rw [aqf aF] at aK;obtain ⟨g1,g2⟩:=TG n b9 ms (o+P.cellsOf f.type) b_ cs aK aw (by simpa using mq) (fun i f k al au=>ai (i+1) f k (by simpa using al) (by simpa using au));refine ⟨by omega,fun E h s=>?_⟩;have wY:=ai 0 f m rfl rfl;obtain ⟨eP,aa,ah,bC,a2,a3,a4,a5,ka⟩:=wY E h s;obtain ⟨bO,ae,us,bM,b1,dR,gD,jX,vY⟩:=g2 eP aa a3;have Kt:ah.length=P.cellsOf f.type:=by rw [a5,aqw,aqG,aF];omega
     refine ⟨bO,ae,ah++us,bC.trans bM,a2.trans b1,dR,?_,?_,?_⟩
     . have e:cs.drop o=(cs.drop f.offset).take (P.cellsOf f.type)++cs.drop (o+P.cellsOf f.type):=by
        rw [aF,<-arn,arx]
       rw [e];exact bj.append (VM bM a4) gD
     . rw [aqi,Kt,jX];omega
     . intro i g k aL aA;cases i with
       | zero=>
         simp only [aqm,ap3] at aL aA;subst aL aA;refine ⟨by omega,?_⟩;rw [aF,ar6,ara,asv Kt];exact dB.ext b1 _ _ _ _ ka
       | succ i=>
         obtain ⟨bW,b6⟩:=vY i g k (by simpa using aL) (by simpa using aA);refine ⟨by omega,?_⟩;rw [show g.offset-o=P.cellsOf f.type + (g.offset - (o+P.cellsOf f.type)) from by omega,<-arn,List.drop_left' Kt];exact b6
   . rw [aqa aF] at aK;cases aK
theorem Qo {w:World} {a:Addr} {y:Value} (h:w.cell? a=some y):a.spot=none/\∃c el b4,w.heap[a.block]? =some (.cells c el b4)/\c[a.off]? =some y:=by
 refine ⟨World.cell?_spot h,?_⟩;unfold World.cell? at h
 split at h
 . rename_i c el b4 a_
   split at h
   . cases h
   . exact ⟨c,el,b4,a_,h⟩
 . cases h
theorem Yo (a:Addr) (n:Nat):(a.add n).block=a.block:=by unfold Addr.add;split<;>rfl
theorem Yp (a:Addr) (n:Nat):(a.add n).off=a.off+n:=by unfold Addr.add;split<;>simp_all
theorem al9 {w:World} {a:Addr} {l:List Value} (a1:0<l.length) (h:∀i,i<l.length->w.cell? (a.add i)=l[i]?):
 a.spot=none/\∃c el b4,w.heap[a.block]? =some (.cells c el b4)/\a.off+l.length<=c.size/\∀i,i<l.length->c[a.off+i]? =l[i]? :=by
 have qt:w.cell? (a.add 0)=some l[0]:=by rw [h 0 a1];exact ap4 a1
 obtain ⟨s1,c,el,b4,s2,jO⟩:=Qo qt;have cA:a.add 0=a:=by unfold Addr.add;simp
 rw [cA] at s1 s2 jO;have key:∀i,i<l.length->c[a.off+i]? =l[i]? :=by intro i aB;have q:=h i aB;rw [ap4 aB] at q ⊢;obtain ⟨_,fT,aoF,aoI,t2,t3⟩:=Qo q;rw [Yo,s2] at t2;rw [Yp] at t3;simp only [ap3,Obj.cells.injEq] at t2;obtain ⟨rfl,_,_⟩:=t2;exact t3
 refine ⟨s1,c,el,b4,s2,?_,key⟩;have:=key (l.length-1) (by omega);rw [ap4 (by omega)] at this;have aN:=(ap5.1 this).1;omega
theorem WU {E:Env} {h:ag} (s:bc ⟨W,fun _=>none⟩ E h W) {a:Addr} {cap:Nat} {l:List Value} (a1:0<l.length) (av:∀i,i<l.length->W.cell? (a.add i)=l[i]?) {us:List V} (aD:bj E us l):
 ∃az ab b,E.le az/\Ext h ab/\bc ⟨W,fun _=>none⟩ az ab W/\Old ab b/\a.spot=none/\az b=some ⟨a.block,a.off,cap⟩/\nA ab b us:=by
 obtain ⟨s1,c,el,b4,s2,jO,o0⟩:=al9 a1 av;have S4:us.length=l.length:=(bj.length aD).symm;refine ⟨sk E h ⟨a.block,a.off,cap⟩,h.new (.ro us),aG h.next,ML s _,(Ext.refl h).new _,amH s s2 (by omega) fun i v y bz a6=>?_,UN,s1,WT _ _ _,.inl (oA _)⟩;have aB:i<l.length:=by have:=(aqp.1 bz).1;omega
 rw [o0 i aB] at a6;obtain ⟨o4,ax,aH⟩:=bj.get aD i v bz;rw [a6] at ax;simp only [ap3] at ax;rw [ax];exact aH
theorem RB {α:Type} (size:Nat):∀(pieces:List (List α)) (i j:Nat),(∀l ∈ pieces,l.length=size)->i<pieces.length->j<size->pieces.flatten[i * size+j]? =(pieces[i]?).bind (·[j]?)
 | [],i,j,_,aB,_=>by simp at aB
 | l::ls,i,j,ai,aB,bG=>by
   have aw:l.length=size:=ai l (by simp);cases i with
   | zero=>
     rw [asm,aqP,arc,aqq (by omega)];simp
   | succ i=>
     rw [arc,aqk (by rw [aw,aq_];omega)];rw [show (i+1) * size+j-l.length=i * size+j from by rw [aw,aq_];omega];rw [RB size ls i j (fun l aw=>ai l (by simp [aw])) (by simpa using aB) bG];simp
theorem RD {α:Type} (size:Nat):∀(pieces:List (List α)),(∀l ∈ pieces,l.length=size)->pieces.flatten.length=pieces.length * size
 | [],_=>by simp
 | l::ls,ai=>by rw [arc,aqi,RD size ls (fun l aw=>ai l (by simp [aw])),ai l (by simp),aqb,aq_];omega
theorem Va {α:Type} (R:Nat->α->Prop):∀(len:Nat),(∀i,i<len->∃l,R i l)->∃bo:List α,bo.length=len/\∀i l,bo[i]? =some l->R i l
 | 0,_=>⟨[],rfl,fun i l q=>by simp at q⟩
 | m+1,h=>by
   obtain ⟨bo,al,au⟩:=Va R m (fun i aB=>h i (by omega));obtain ⟨l,aa⟩:=h m (by omega);refine ⟨bo++[l],by simp [al],fun i eH fm=>?_⟩;by_cases aB:i<bo.length
   . rw [aqq aB] at fm;exact au i eH fm
   . rw [aqk (by omega)] at fm;have cA:i-bo.length=0:=by
      by_cases q:i-bo.length=0
      . exact q
      . rw [aqI (by simp;omega)] at fm;cases fm
     rw [cA] at fm;simp at fm;subst fm;obtain rfl:i=m:=by omega
     exact aa
theorem FT (dN:xH P=true) (c0:laidOutB P=true):∀(n:Nat) (t:TypeId) (cs:List Value) (x:DataW H × List MemPlace),t<P.types.size->DataW.trod enc P W base sp held n t cs=some x->Lays P W n (gd x.1) t cs
 | 0,t,cs,x,_,h=>by simp [DataW.trod] at h
 | n+1,t,cs,x,aN,h=>by
   have D6:∀(cs:List Value),(∀ab ah,ah.length=cs.length->dB P ab (n+1) (gd x.1) t ah)->Lays P W (n+1) (gd x.1) t cs:=by
    intro cs H E h s;refine ⟨E,h,cs.map fun _=>.bad,fun _ _ q=>q,Ext.refl h,s,?_,by simp,H _ _ (by simp)⟩;clear H
    induction cs with
    | nil=>rfl
    | cons c cs bd=>exact ⟨c,cs,rfl,by simp [Rel],bd⟩
   cases hu:P.underlying t with
   | none=>
     refine D6 cs fun ab ah _=>?_;simp only [dB,hu]
   | some u=>
     cases u with
     | bool=>
       obtain ⟨b,rfl,_⟩:=DataW.trod_bool hu h;intro E h s;exact ⟨E,h,[.bool b],fun _ _ q=>q,Ext.refl h,s,⟨_,_,rfl,rfl,rfl⟩,rfl,by simp only [dB,hu];exact ⟨b,rfl⟩⟩
     | int k=>
       obtain ⟨i,rfl,_,hw⟩:=DataW.trod_int hu h;intro E h s;exact ⟨E,h,[.int k i],fun _ _ q=>q,Ext.refl h,s,⟨_,_,rfl,rfl,rfl⟩,rfl,by simp only [dB,hu];exact ⟨i,rfl,hw⟩⟩
     | string=>
       obtain ⟨b,rfl,rfl,_⟩:=DataW.trod_string hu h;intro E h s;exact ⟨E,h,[.str b.data.toList],fun _ _ q=>q,Ext.refl h,s,⟨_,_,rfl,rfl,rfl⟩,rfl,by simp only [dB,hu,gd];exact ⟨_,rfl,ap7 _⟩⟩
     | struct b9=>
       obtain ⟨xs,hn,aW,rfl,aw,zo,aF⟩:=DataW.trod_struct hu h;obtain rfl:n=hn:=by omega
       have afA:Al P b9.toList 0=some (P.cellsOf t):=by unfold xH at dN;rw [aqu] at dN;have:=dN t (arF.2 aN);rw [hu] at this;exact of_decide_eq_true this
       have hh:∀(i:Nat) (f:Field) (k:Nat),b9.toList[i]? =some f->(xs.map fun x=>gd x.1)[i]? =some k->Lays P W n k f.type ((cs.drop f.offset).take (P.cellsOf f.type)):=by
        intro i f k aB aA;have pz:f ∈ b9.toList:=aqv aB;have s4:b9[i]? =some f:=by simpa using aB
        have:=aF i f s4;have SA:i<xs.length:=by rw [zo];exact (ap5.1 s4).1
        rw [ap4 SA] at this;rw [aq2,ap4 SA,arL,ap3] at aA;subst aA;exact FT dN c0 n _ _ _ ((kid_struct c0 aN hu).1 f pz) this
       intro E h s;obtain ⟨_,g⟩:=TG n b9.toList (xs.map fun x=>gd x.1) 0 _ cs afA aw (by simp [zo]) hh;obtain ⟨az,ab,ah,bC,a2,a3,a4,a5,ka⟩:=g E h s;refine ⟨az,ab,ah,bC,a2,a3,by simpa using a4,by rw [a5,aw];omega,?_⟩;simp only [dB,hu];refine ⟨by omega,xs.map fun x=>gd x.1,by simp [zo],?_,fun i f k pz aA=>⟨?_,by simpa using (ka i f k pz aA).2⟩⟩
       . simp only [gd,Ia,List.map_map];exact ap7 _
       . rw [aq2,Option.map_eq_some_iff] at aA;obtain ⟨y,_,rfl⟩:=aA;exact sL _
     | slice e=>
       rcases DataW.trod_slice hu h with ⟨rfl,rfl⟩ | ⟨a,len,cap,elems,rest,hn,aW,rfl,rfl,ak,s5,_,Sl,JK,_,_⟩
       . intro E h s;exact ⟨E,h,[.bL],fun _ _ q=>q,Ext.refl h,s,⟨_,_,rfl,rfl,rfl⟩,rfl,by simp only [dB,hu];exact ⟨sL _,.inl trivial⟩⟩
       . obtain rfl:n=hn:=by omega
         by_cases aO:P.cellsOf e=0
         . refine D6 _ fun ab ah _=>?_;simp only [dB,hu];exact ⟨sL _,.inr (.inr (.inl aO))⟩
         by_cases ke:len=0
         . subst ke;intro E h s;refine ⟨E,h,[.gB .z 0 0 0],fun _ _ q=>q,Ext.refl h,s,⟨_,_,rfl,?_,rfl⟩,rfl,by simp only [dB,hu];exact ⟨sL _,.inr (.inl ⟨_,_,_,_,rfl⟩)⟩⟩;simp only [Rel];exact ⟨_,_,rfl⟩
         . -- its elements
           have jn:∀i,i<len->∃l,W.cells? base (a.add (i * P.cellsOf e)) (P.cellsOf e)=some l/\∀k:Nat,(elems.map fun x=>gd x.1)[i]? =some k->Lays P W n k e l:=by intro i aB;have:=JK i aB;rw [ap4 (by omega)] at this;rw [Option.bind_eq_some_iff] at this;obtain ⟨l,aa,ae⟩:=this;refine ⟨l,aa,fun k aA=>?_⟩;rw [aq2,ap4 (by omega),arL,ap3] at aA;subst aA;exact FT dN c0 n _ _ _ (kid_slice c0 aN hu) ae
           obtain ⟨pieces,k6,iE⟩:∃pieces:List (List Value),pieces.length=len/\∀i (l:List Value),pieces[i]? =some l->W.cells? base (a.add (i * P.cellsOf e)) (P.cellsOf e)=some l/\∀k:Nat,(elems.map fun x=>gd x.1)[i]? =some k->Lays P W n k e l:=by exact Va (fun i l=>W.cells? base (a.add (i * P.cellsOf e)) (P.cellsOf e)=some l/\∀k:Nat,(elems.map fun x=>gd x.1)[i]? =some k->Lays P W n k e l) len jn
           have du:∀(i:Nat) (l:List Value) (k:Nat),pieces[i]? =some l->(elems.map fun x=>gd x.1)[i]? =some k->l.length=P.cellsOf e/\Lays P W n k e l:=by intro i l k aB aA;obtain ⟨al,au⟩:=iE i l aB;exact ⟨(Ef al).1,au k aA⟩
           have SP:∀l ∈ pieces,l.length=P.cellsOf e:=by intro l aw;obtain ⟨i,aB⟩:=List.getElem?_of_mem aw;exact (Ef (iE i l aB).1).1
           intro E h s;obtain ⟨eP,aa,us,bC,a2,a3,a4,a5,ka⟩:=TH n (P.cellsOf e) e pieces (elems.map fun x=>gd x.1) (by simp [Sl,k6]) du E h s;have hh:=RD (P.cellsOf e) pieces SP;have BZ:0<len * P.cellsOf e:=Nat.mul_pos (by omega) (by omega);have Jt:∀i,i<pieces.flatten.length->W.cell? (a.add i)=pieces.flatten[i]? :=by
            intro q ar;rw [hh] at ar;have SF:q % P.cellsOf e<P.cellsOf e:=Nat.mod_lt _ (by omega);have hdiv:q / P.cellsOf e<pieces.length:=Nat.div_lt_of_lt_mul (by rw [Nat.mul_comm];exact ar);have oI:q / P.cellsOf e * P.cellsOf e+q % P.cellsOf e=q:=by rw [Nat.mul_comm];exact Nat.div_add_mod q _
            rw [<-oI,RB (P.cellsOf e) pieces _ _ SP hdiv SF,ap4 hdiv];obtain ⟨al,_⟩:=iE _ _ (ap4 hdiv);have:=(Ef al).2 _ SF;rw [Option.bind_some,<-this];congr 1;unfold Addr.add;by_cases b7:q / P.cellsOf e * P.cellsOf e=0
            . rw [b7];simp
            . by_cases z2:q % P.cellsOf e=0
              . rw [z2];simp
              . have z3:¬(q / P.cellsOf e * P.cellsOf e+q % P.cellsOf e=0):=by omega
                rw [aqa b7,aqa z2,aqa z3];simp [ark]
           obtain ⟨bO,ae,b,bM,b1,dR,gD,jX,vY,H6⟩:=WU a3 (cap:=cap) (by rw [hh,k6];exact BZ) Jt a4;refine ⟨bO,ae,[.slice b 0 len cap],bC.trans bM,a2.trans b1,dR,⟨_,_,rfl,?_,rfl⟩,rfl,?_⟩
           . simp only [Rel];refine ⟨_,vY,s5,?_⟩;obtain ⟨pf,aka,st⟩:=a;simp only at jX;subst jX;rfl
           . simp only [dB,hu];refine ⟨sL _,.inr (.inr (.inr ⟨b,len,cap,rfl,by omega,s5,gD,us,H6,by rw [a5,k6],elems.map fun x=>gd x.1,by simp [Sl],?_,fun i k aA=>⟨?_,dB.ext b1 _ _ _ _ (ka i k aA)⟩⟩))⟩
             . simp only [gd,Ia,List.map_map];exact Nat.add_le_add_right (Nat.le_add_right _ _) 1
             . rw [aq2,Option.map_eq_some_iff] at aA;obtain ⟨y,_,rfl⟩:=aA;exact sL _
     | pointer e=>
       rcases DataW.trod_pointer hu h with ⟨rfl,rfl⟩ | ⟨a,qd,y,hn,aW,rfl,rfl,av,a6⟩
       . intro E h s;exact ⟨E,h,[.kI],fun _ _ q=>q,Ext.refl h,s,⟨_,_,rfl,rfl,rfl⟩,rfl,by simp only [dB,hu];exact ⟨sL _,.inl trivial⟩⟩
       . obtain rfl:n=hn:=by omega
         by_cases aO:P.cellsOf e=0
         . refine D6 _ fun ab ah _=>?_;simp only [dB,hu];exact ⟨sL _,.inr (.inl aO)⟩
         . intro E h s;obtain ⟨al,au⟩:=Ef av;obtain ⟨eP,aa,us,bC,a2,a3,a4,a5,ka⟩:=FT dN c0 n _ _ _ (kid_pointer c0 aN hu) a6 E h s;obtain ⟨bO,ae,b,bM,b1,dR,gD,jX,vY,H6⟩:=WU a3 (cap:=0) (by omega) (fun i aB=>au i (by omega)) a4;refine ⟨bO,ae,[.ptr b 0],bC.trans bM,a2.trans b1,dR,⟨_,_,rfl,?_,rfl⟩,rfl,?_⟩
           . simp only [Rel];refine ⟨_,vY,?_⟩;obtain ⟨pf,aka,st⟩:=a;simp only at jX;subst jX;rfl
           . simp only [dB,hu];exact ⟨sL _,.inr (.inr ⟨b,rfl,gD,us,H6,by omega,_,ap7 _,dB.ext b1 _ _ _ _ ka⟩)⟩
     | map k e=>
       have hD:cs.length=1:=by
        unfold DataW.trod at h;rw [hu] at h
        split at h<;>simp_all
       intro E h s;refine ⟨E,h,[.bad],fun _ _ q=>q,Ext.refl h,s,?_,by simp [hD],by simp only [dB,hu];exact .inr trivial⟩
       match cs,hD with
       | [c],_=>exact ⟨c,[],rfl,by simp [Rel],rfl⟩
     | interface ms=>
       have hD:cs.length=1:=by
        unfold DataW.trod at h;rw [hu] at h
        split at h<;>simp_all
       intro E h s;refine ⟨E,h,[.bad],fun _ _ q=>q,Ext.refl h,s,?_,by simp [hD],by simp only [dB,hu];exact .inr trivial⟩
       match cs,hD with
       | [c],_=>exact ⟨c,[],rfl,by simp [Rel],rfl⟩
     | _=>
       refine D6 cs fun ab ah _=>?_;simp only [dB,hu]
def pa (P:Program) (h:ag) (n m:Nat) (t:TypeId) (v:V):Prop:=
 match P.underlying t with
 | some (.struct _) | some (.array _ _)=>∃ah,v=.agg ah/\dB P h n m t ah
 | _=>dB P h n m t [v]
theorem pa.ext {h ab:ag} (e:Ext h ab) {n m:Nat} {t:TypeId} {v:V} (H:pa P h n m t v):pa P ab n m t v:=by
 unfold pa at H ⊢
 split at H
 . obtain ⟨ah,al,au⟩:=H;exact ⟨ah,al,dB.ext e _ _ _ _ au⟩
 . obtain ⟨ah,al,au⟩:=H;exact ⟨ah,al,dB.ext e _ _ _ _ au⟩
 . exact dB.ext e _ _ _ _ H
theorem aiQ (dN:xH P=true) (c0:laidOutB P=true) {r:Reach} {jC:Nat} {t:TypeId} {v:Value} {d:DataW H} {p:List MemPlace} (aN:t<P.types.size) (bx:Value.okWide P W r jC t v) (aq:DataW.Trod enc P W base sp held t v d p) {E:Env} {h:ag} (s:bc ⟨W,fun _=>none⟩ E h W):
 ∃n az ab x,E.le az/\Ext h ab/\bc ⟨W,fun _=>none⟩ az ab W/\Rel az x v/\pa P ab n (gd d) t x:=by
 obtain ⟨fuel,aF⟩:=aq;obtain ⟨az,ab,ah,bC,a2,a3,a4,a5,ka⟩:=FT dN c0 _ _ _ _ aN aF E h s;have agg:(∃cs,v=.agg cs)->∃x,Rel az x v/\x=.agg ah:=by rintro ⟨cs,rfl⟩;exact ⟨.agg ah,by simp only [Rel];exact ⟨cs,rfl,a4⟩,rfl⟩
 have one:v.cells=#[v]->∃x,Rel az x v/\ah=[x]:=by
  intro av;rw [av] at a4 a5
  match ah,a4,a5 with
  | [x],⟨y,cy,ax,aH,bA⟩,_=>
    simp only [arS] at ax;exact ⟨x,ax.1 ▸ aH,rfl⟩
 refine ⟨fuel,az,ab,?_⟩;unfold Value.okWide at bx;cases hu:P.underlying t with
 | none=>
   rw [hu] at bx;simp only [Cell.okWide,Cell.ok,hu] at bx
 | some u=>
   rw [hu] at bx;unfold pa;rw [hu];cases u<;>simp only at bx ⊢<;>first
    | (obtain ⟨cs,bz,_⟩:=bx
       obtain ⟨x,al,au⟩:=agg ⟨cs,bz⟩;exact ⟨x,bC,a2,a3,al,ah,au,ka⟩)
    | (have av:v.cells=#[v]:=by
        cases v<;>first
         | rfl
         | (simp only [Cell.okWide,Cell.ok,hu] at bx)
       obtain ⟨x,al,au⟩:=one av;exact ⟨x,bC,a2,a3,al,au ▸ ka⟩)
def ou (P:Program) (h:ag):Nat->List TypeId->List V->Prop
 | _,[],[]=>True
 | m,t::cM,v::ah=>∃k bs,k+bs<=m/\(∃n,pa P h n k t v)/\ou P h bs cM ah
 | _,_,_=>False
theorem ou.mono {h:ag}:∀{m dd:Nat} {cM:List TypeId} {ah:List V},m<=dd->ou P h m cM ah->ou P h dd cM ah
 | _,_,[],[],_,H=>by unfold ou;trivial
 | _,_,[],_::_,_,H=>H.elim
 | _,_,_::_,[],_,H=>H.elim
 | _,_,_::_,_::_,hm,⟨k,bs,aA,H,gL⟩=>⟨k,bs,aqK aA hm,H,gL⟩
theorem TF (dN:xH P=true) (c0:laidOutB P=true) {r:Reach} {jC:Nat}:∀{cM:List TypeId} {ah:List Value} {ds:List (DataW H)} {p:List MemPlace},(∀t ∈ cM,t<P.types.size)->(∀(j:Nat) t v,cM[j]? =some t->ah[j]? =some v->Value.okWide P W r jC t v)->
 DataW.TrodAll enc P W base sp held cM ah ds p->∀{E:Env} {h:ag},bc ⟨W,fun _=>none⟩ E h W->∃az ab xs,E.le az/\Ext h ab/\bc ⟨W,fun _=>none⟩ az ab W/\bj az xs ah/\ou P ab (mO ds) cM xs
 | [],[],ds,p,_,_,_,E,h,s=>⟨E,h,[],fun _ _ q=>q,Ext.refl h,s,rfl,by unfold ou;trivial⟩
 | [],_::_,ds,p,_,_,aq,E,h,s=>by cases ds<;>exact aq.elim
 | _::_,[],ds,p,_,_,aq,E,h,s=>by cases ds<;>exact aq.elim
 | _::_,_::_,[],p,_,_,aq,E,h,s=>aq.elim
 | t::cM,v::ah,d::ds,p,aK,bz,⟨cq,cx,aa,ae,_⟩,E,h,s=>by obtain ⟨n,eP,g1,x,bC,a2,a3,a4,a5⟩:=aiQ dN c0 (aK t (by simp)) (bz 0 t v rfl rfl) aa s;obtain ⟨bO,g2,xs,bM,b1,dR,gD,jX⟩:=TF dN c0 (fun t q=>aK t (by simp [q])) (fun j t v al au=>bz (j+1) t v (by simpa using al) (by simpa using au)) ae a3;exact ⟨bO,g2,x::xs,bC.trans bM,a2.trans b1,dR,⟨_,_,rfl,Rel.mono bM _ _ a4,gD⟩,gd d,mO ds,by simp only [mO];exact ap7 _,⟨n,a5.ext b1⟩,jX⟩
theorem aaD (dN:xH P=true) (c0:laidOutB P=true) {r:Reach} {jC:Nat} {f:FuncId} {cM:List TypeId} {ah:List Value} {ds:List (DataW H)} {p:List MemPlace} (fH:∀t ∈ cM,t<P.types.size) (bz:∀(j:Nat) t v,cM[j]? =some t->ah[j]? =some v->Value.okWide P W r jC t v)
 (aq:DataW.TrodAll enc P W base sp held cM ah ds p) (yM:Lay.ok W) (bI:et P) (ak:∃fn,P.funcs[f]? =some fn/\fn.body.isSome=true) (av:∀(h:ag) (xs:List V),ou P h (mO ds) cM xs->cr P f xs h fun y _=>y=.bool true):
 Calls P f ah.toArray W fun e w'=>e=.returned (.bool true)/\Below W.heap.size W w':=by
 obtain ⟨E,h,xs,_,_,a3,a4,a5⟩:=TF dN c0 fH bz aq (GX W yM);obtain ⟨y,ab,qs,rfl⟩:=av h xs a5;refine (qs.calls bI ak _ E W ah a4 a3).mono fun e w' q=>?_;obtain ⟨az,x,rfl,_,au,aJ⟩:=q;simp only [Rel] at au;subst au;exact ⟨rfl,aJ.frame⟩
end
end
section
open Go Go.RowKit
variable [Lay]
theorem collect {α:Type} (enc:α->List V) (size:Nat) (Q:α->Prop):∀(len:Nat) (us:List V),us.length=len * size->(∀i,i<len->∃a,(us.drop (i * size)).take size=enc a/\Q a)->
 ∃rk:List α,rk.length=len/\us=rk.flatMap enc/\∀a ∈ rk,Q a
 | 0,us,aw,_=>⟨[],rfl,by simpa using aw,fun a h=>by simp at h⟩
 | len+1,us,aw,h=>by
   obtain ⟨a,aa,ae⟩:=h 0 (by omega);rw [aq_,Nat.one_mul] at aw;obtain ⟨rk,g1,g2,g3⟩:=collect enc size Q len (us.drop size) (by rw [aqG];omega) (fun i aB=>by obtain ⟨b,cd,cn⟩:=h (i+1) (by omega);refine ⟨b,?_,cn⟩;rw [arn,<-cd,aq_,Nat.one_mul,asc]);refine ⟨a::rk,by simp [g1],?_,fun b ak=>?_⟩
   . rw [List.flatMap_cons,<-g2,<-aa,asm,ara,arx]
   . rcases aql.1 ak with rfl | ak
     . exact ae
     . exact g3 b ak
section
variable {P:Program} {h:ag} {n m:Nat} {t:TypeId}
theorem dB.pos {ah:List V} (H:dB P h n m t ah):∃k,n=k+1:=by
 cases n with
 | zero=>exact H.elim
 | succ m=>exact ⟨m,rfl⟩
theorem dB.int {ah:List V} {k:IntKind} (H:dB P h n m t ah) (hu:P.underlying t=some (.int k)):∃i,ah=[.int k i]/\(Lit.int k i).wf=true:=by obtain ⟨m,rfl⟩:=H.pos;simpa only [dB,hu] using H
theorem dB.str {ah:List V} (H:dB P h n m t ah) (hu:P.underlying t=some .string):∃s:List UInt8,ah=[.str s]/\s.length+1<=m:=by obtain ⟨_,rfl⟩:=H.pos;simpa only [dB,hu] using H
theorem dB.struct {ah:List V} {b9:Array Field} (H:dB P h n m t ah) (hu:P.underlying t=some (.struct b9)):∃hn,n=hn+1/\ah.length=P.cellsOf t/\∃ms:List Nat,ms.length=b9.toList.length/\ms.sum+1<=m/\
 ∀(i:Nat) (f:Field) (k:Nat),b9.toList[i]? =some f->ms[i]? =some k->1<=k/\dB P h hn k f.type ((ah.drop f.offset).take (P.cellsOf f.type)):=by
 obtain ⟨hn,rfl⟩:=H.pos;refine ⟨hn,rfl,?_⟩;simpa only [dB,hu] using H
def xA (v:V):Prop:=∀b off l c,v=.slice b off l c->l<=c
def x_ (h:ag) (size:Nat) (v:V) (len m:Nat) (Q:Nat->List V->Prop):Prop:=
 v.one=true/\v.cells=[v]/\v.fD=true/\iF v=some (.int .i64 len)/\xA v/\∃(us:List V) (ms:List Nat),fl h size v len us/\ms.length=len/\ms.sum+1<=m/\∀(i k:Nat),ms[i]? =some k->1<=k/\Q k ((us.drop (i * size)).take size)
theorem dB.slice {ah:List V} {e:TypeId} (H:dB P h n m t ah) (hu:P.underlying t=some (.slice e)) (aO:P.cellsOf e≠0):∃hn v len,n=hn+1/\ah=[v]/\x_ h (P.cellsOf e) v len m (fun k=>dB P h hn k e):=by
 obtain ⟨hn,rfl⟩:=H.pos;simp only [dB,hu] at H;obtain ⟨a1,H⟩:=H;rcases H with rfl | ⟨b,i,j,k,rfl⟩ | q | ⟨b,len,cap,rfl,aa,ae,bw,us,cd,cn,ms,fO,gw,kF⟩
 . exact ⟨hn,_,0,rfl,rfl,rfl,rfl,rfl,rfl,(fun _ _ _ _ e=>by cases e),[],[],⟨by simp,rfl⟩,rfl,by simpa using a1,fun i k aB=>by simp at aB⟩
 . exact ⟨hn,_,0,rfl,rfl,rfl,rfl,rfl,rfl,(fun _ _ _ _ e=>by cases e),[],[],⟨by simp,rfl⟩,rfl,by simpa using a1,fun i k aB=>by simp at aB⟩
 . exact absurd q aO
 . exact ⟨hn,_,len,rfl,rfl,rfl,rfl,rfl,rfl,(fun _ _ _ _ e=>by cases e;exact ae),us,ms,⟨cn,rfl,bw,us,cd,by omega,by simp⟩,fO,gw,kF⟩
end
end
section
open Go Go.RowKit Go.ChangeShapes Go.WideShapes
variable [Lay]
section
variable {H:Type} {enc:TypeId × Value->H} {P:Program}
theorem N2 (c0:laidOutB P=true) {W AV:World} (ak:Below W.heap.size W AV):∀{cM:List TypeId} {ah:List Value} {ds:List (DataW H)} {bo:List MemPlace},(cM.all fun t=>P.readableRec t&&decide (t<P.types.size))=true->
 DataW.TrodAll enc P W 0 (fun _=>true) true cM ah ds bo->DataW.TrodAll enc P AV 0 (fun b=>decide (b<W.heap.size)) true cM ah ds bo
 | [],[],[],_,_,h=>h
 | [],_::_,_,_,_,h=>by rename_i ds _;cases ds<;>exact h.elim
 | [],[],_::_,_,_,h=>h.elim
 | _::_,[],_,_,_,h=>by rename_i ds _;cases ds<;>exact h.elim
 | _::_,_::_,[],_,_,h=>h.elim
 | t::cM,v::ah,d::ds,bo,aD,h=>by have aN:=h.lt;obtain ⟨p,q,aa,ae,rfl⟩:=h;simp only [arz,ap2,aqg] at aD;exact ⟨p,q,Below.trod c0 aD.1.1 aD.1.2 aa ak (fun x ao=>aN x (by simp [ao])),N2 c0 ak aD.2 ae,rfl⟩
theorem WG {W:World} {base:Nat} {sp:Nat->Bool} {held:Bool}:∀{cM:List TypeId} {ah:List Value} {ds:List (DataW H)} {bo:List MemPlace},DataW.TrodAll enc P W base sp held cM ah ds bo->ds.length=cM.length
 | [],[],[],_,_=>rfl
 | [],_::_,ds,_,h=>by cases ds<;>exact h.elim
 | [],[],_::_,_,h=>h.elim
 | _::_,[],ds,_,h=>by cases ds<;>exact h.elim
 | _::_,_::_,[],_,h=>h.elim
 | t::cM,v::ah,d::ds,bo,h=>by obtain ⟨p,q,aa,ae,rfl⟩:=h;simp [WG ae]
theorem aiF (dN:xH P=true) (c0:laidOutB P=true) {f:FuncId} {fn:Func} {s:ChangeSpec} {MF:TypeId} (fH:(fn.params.toList.all fun t=>P.readableRec t&&decide (t<P.types.size))=true) (S6:s.vars=[]) (afo:fn.resultTypes=#[MF]) (afD:P.underlying MF=some .bool)
 (Kq:∀ds:List (DataW H),ds.length=fn.params.size->s.fn H (ds++[])={results:=[.lit (.bool true)],args:=ds})
 {B:Nat} (av:∀(h:ag) (xs:List V),ou P h B fn.params.toList xs->cr P f xs h fun y _=>y=.bool true)
 {W:World} {base:Nat} {args:Array Value} {ds gs:List (DataW H)} {before:List MemPlace} (aA:mO (ds++gs)<=B) (lR:Lay.ok W) (bI:et P) (ak:∃fn,P.funcs[f]? =some fn/\fn.body.isSome=true)
 (zl:∀(j:Nat) t v,fn.params[j]? =some t->args[j]? =some v->Value.okWide P W .any base t v) (yM:DataW.Whole enc P fn.params.toList s.vars false W args.toList ds gs before):
 Calls P f args W fun e AV=>∃v,e=.returned v/\s.post enc P fn false true false false W args v AV:=by
 have adM:=yM;obtain ⟨p,q,nO,R',rfl,rO,pA⟩:=yM;rw [S6] at R';obtain ⟨rfl,rfl⟩:=trodVars_none R';have hlen:ds.length=fn.params.size:=by rw [WG nO];simp
 have hw:=aaD dN c0 (jC:=base) (r:=.any) (fun t aK=>by
  have:=aqu.1 fH t aK;simp only [ap2,aqg] at this
  exact this.2) (fun j t v aa ae=>zl j t v (by simpa using aa) (by simpa using ae)) nO lR bI ak (fun h xs q=>av h xs (q.mono (by simpa using aA)))
 simp only [aru] at hw;refine hw.mono fun e AV ⟨he,N1⟩=>?_;subst he;refine ⟨_,rfl,ds,[],p++[],[],p,[],adM,?_,?_,?_,N1.frame _,fun h=>by cases h⟩
 . rw [Kq ds hlen,afo];exact trodAll_mk1 (shut_bool afD _)
 . rw [Kq ds hlen];exact N2 c0 N1 fH nO
 . rw [Kq ds hlen,S6];rfl
end
end
section
open Go Go.RowKit
variable [Lay]
theorem amB {P:Program} {h:ag} {B:Nat} {xs:List V} (aO:ou P h B [] xs):xs=[]:=by
 match xs,aO with
 | [],_=>rfl
theorem Mi {P:Program} {h:ag} {B:Nat} {t:TypeId} {cM:List TypeId} {xs:List V} (aO:ou P h B (t::cM) xs):∃a rk k bs n,xs=a::rk/\k+bs<=B/\pa P h n k t a/\ou P h bs cM rk:=by
 match xs,aO with
 | a::rk,⟨k,bs,aA,⟨n,a1⟩,aa⟩=>exact ⟨a,rk,k,bs,n,rfl,aA,a1,aa⟩
section
variable {P:Program} {h:ag} {n m:Nat} {t:TypeId} {v:V}
theorem amC {b9:Array Field} (aO:pa P h n m t v) (hu:P.underlying t=some (.struct b9)):∃ah,v=.agg ah/\dB P h n m t ah:=by unfold pa at aO;rw [hu] at aO;exact aO
theorem Wc {e:TypeId} (aO:pa P h n m t v) (hu:P.underlying t=some (.slice e)) {c:Nat} (av:P.cellsOf e=c) (qt:c≠0):∃hn len,x_ h c v len m (fun k=>dB P h hn k e):=by unfold pa at aO;rw [hu] at aO;subst av;obtain ⟨hn,w,len,_,ax,g⟩:=dB.slice aO hu qt;simp only [arS,ast] at ax;subst ax;exact ⟨hn,len,g⟩
end
inductive D where
 | i (k:IntKind) (n:Int)
 | b (x:Bool)
 | s (x:List UInt8)
 | l (size:Nat) (es:List (List D))
inductive cb (F:aQ->Prop) (h:ag):List D->List V->Prop
 | nil:cb F h [] []
 | i {k:IntKind} {n:Int} {ds:List D} {ah:List V} (t:cb F h ds ah):cb F h (.i k n::ds) (.int k n::ah)
 | b {x:Bool} {ds:List D} {ah:List V} (t:cb F h ds ah):cb F h (.b x::ds) (.bool x::ah)
 | s {x:List UInt8} {ds:List D} {ah:List V} (ak:x.length<=top) (t:cb F h ds ah):cb F h (.s x::ds) (.str x::ah)
 | l {size:Nat} {es:List (List D)} {v:V} {us:List (List V)} {ds:List D} {ah:List V} (aD:xA v) (ak:es.length<=top) (aO:fl h size v es.length us.flatten) (hu:us.length=es.length) (bl:∀u ∈ us,u.length=size)
    (kids:∀(i:Nat) (e:List D) (u:List V),es[i]? =some e->us[i]? =some u->cb F h e u) (aF:∀b,v.a' b->F b) (t:cb F h ds ah):cb F h (.l size es::ds) (v::ah)
structure bB (F:aQ->Prop) (h:ag) (size:Nat) (es:List (List D)) (v:V):Prop where
 room:xA v
 le:es.length<=top
 ex:∃us:List (List V),fl h size v es.length us.flatten/\us.length=es.length/\(∀u ∈ us,u.length=size)/\∀(i:Nat) (e:List D) (u:List V),es[i]? =some e->us[i]? =some u->cb F h e u
 uA:∀b,v.a' b->F b
section
variable {F:aQ->Prop} {h ab:ag} {ds:List D} {ah:List V}
theorem cb.mod {eb M:aQ->Prop} (m:Mod M h ab) (c':∀b,F b->Old h b->¬M b/\eb b) (H:cb F h ds ah):cb eb ab ds ah:=by
 induction H with
 | nil=>exact .nil
 | i t bd=>exact .i bd
 | b t bd=>exact .b bd
 | s ak t bd=>exact .s ak bd
 | l aD ak aO hu bl kids aF t uT tb=>exact .l aD ak (aO.mod m fun b q=>(c' b (aF b q) (aO.bY q)).1) hu bl uT (fun b q=>(c' b (aF b q) (aO.bY q)).2) tb
theorem cb.ext (H:cb F h ds ah) (e:Ext h ab):cb F ab ds ah:=by
 induction H with
 | nil=>exact .nil
 | i t bd=>exact .i bd
 | b t bd=>exact .b bd
 | s ak t bd=>exact .s ak bd
 | l aD ak aO hu bl kids aF t uT tb=>exact .l aD ak (aO.ext e) hu bl uT aF tb
theorem cb.e3 {eb:aQ->Prop} (H:cb F h ds ah) (w:∀b,F b->eb b):cb eb h ds ah:=by
 induction H with
 | nil=>exact .nil
 | i t bd=>exact .i bd
 | b t bd=>exact .b bd
 | s ak t bd=>exact .s ak bd
 | l aD ak aO hu bl kids aF t uT tb=>exact .l aD ak aO hu bl uT (fun b q=>w b (aF b q)) tb
theorem cb.bY (H:cb F h ds ah):cb (fun b=>F b/\Old h b) h ds ah:=by
 induction H with
 | nil=>exact .nil
 | i t bd=>exact .i bd
 | b t bd=>exact .b bd
 | s ak t bd=>exact .s ak bd
 | l aD ak aO hu bl kids aF t uT tb=>exact .l aD ak aO hu bl uT (fun b q=>⟨aF b q,aO.bY q⟩) tb
theorem cb.eN (H:cb F h ds ah):eN ah=true:=by
 induction H with
 | nil=>rfl
 | i t bd=>simpa [Go.Proofs.YtgmhjhgoamjeeaaGreatDoor.a7.eN,V.one] using bd
 | b t bd=>simpa [Go.Proofs.YtgmhjhgoamjeeaaGreatDoor.a7.eN,V.one] using bd
 | s ak t bd=>simpa [Go.Proofs.YtgmhjhgoamjeeaaGreatDoor.a7.eN,V.one] using bd
 | l aD ak aO hu bl kids aF t uT tb=>simp only [Go.Proofs.YtgmhjhgoamjeeaaGreatDoor.a7.eN,aO.one.1,tb,Bool.and_self]
theorem cb.int {k:IntKind} {n:Int} (H:cb F h (.i k n::ds) ah):∃us,ah=.int k n::us/\cb F h ds us:=by
 cases H with
 | i t=>exact ⟨_,rfl,t⟩
theorem cb.str {x:List UInt8} (H:cb F h (.s x::ds) ah):∃us,ah=.str x::us/\x.length<=top/\cb F h ds us:=by
 cases H with
 | s ak t=>exact ⟨_,rfl,ak,t⟩
theorem cb.ea {size:Nat} {es:List (List D)} (H:cb F h (.l size es::ds) ah):∃v us,ah=v::us/\bB F h size es v/\cb F h ds us:=by
 cases H with
 | l aD ak aO hu bl kids aF t=>exact ⟨_,_,rfl,⟨aD,ak,⟨_,aO,hu,bl,kids⟩,aF⟩,t⟩
theorem cb.no (H:cb F h [] ah):ah=[]:=by cases H;rfl
end
theorem I1 {size:Nat}:∀(us:List (List V)) (i:Nat) (u:List V),(∀u ∈ us,u.length=size)->us[i]? =some u->(us.flatten.drop (i * size)).take size=u
 | [],i,u,_,h=>by simp at h
 | w::us,0,u,aw,h=>by simp only [aqm,ap3] at h;subst h;rw [asm,ara,arc,asv (aw _ (by simp))]
 | w::us,i+1,u,aw,h=>by rw [show (i+1) * size=size+i * size from by rw [asr,asc],<-arn,arc,List.drop_left' (aw _ (by simp))];exact I1 us i u (fun u hu=>aw u (by simp [hu])) (by simpa using h)
theorem EN {size:Nat}:∀(us:List (List V)),(∀u ∈ us,u.length=size)->us.flatten.length=us.length * size
 | [],_=>by simp
 | w::us,aw=>by rw [arc,aqi,aw w (by simp),EN us (fun u hu=>aw u (by simp [hu])),aqb,asr,asc]
section
variable {F:aQ->Prop} {h ab:ag} {size:Nat} {es:List (List D)} {v:V}
theorem bB.cons {ds:List D} {ah:List V} (H:bB F h size es v) (t:cb F h ds ah):cb F h (.l size es::ds) (v::ah):=by obtain ⟨us,a,b,c,d⟩:=H.ex;exact .l H.room H.le a b c d H.uA t
theorem bB.ext (H:bB F h size es v) (e:Ext h ab):bB F ab size es v:=by obtain ⟨us,a,b,c,d⟩:=H.ex;exact ⟨H.room,H.le,⟨us,a.ext e,b,c,fun i x u al au=>(d i x u al au).ext e⟩,H.uA⟩
theorem bB.mod {eb M:aQ->Prop} (m:Mod M h ab) (c':∀b,F b->Old h b->¬M b/\eb b) (H:bB F h size es v):bB eb ab size es v:=by obtain ⟨us,a,b,c,d⟩:=H.ex;exact ⟨H.room,H.le,⟨us,a.mod m fun x q=>(c' x (H.uA x q) (a.bY q)).1,b,c,fun i x u al au=>(d i x u al au).mod m c'⟩,fun x q=>(c' x (H.uA x q) (a.bY q)).2⟩
theorem bB.e3 {eb:aQ->Prop} (H:bB F h size es v) (w:∀b,F b->eb b):bB eb h size es v:=by obtain ⟨us,a,b,c,d⟩:=H.ex;exact ⟨H.room,H.le,⟨us,a,b,c,fun i x u al au=>(d i x u al au).e3 w⟩,fun b q=>w b (H.uA b q)⟩
theorem bB.len (H:bB F h size es v):iF v=some (.int .i64 es.length):=by obtain ⟨us,a,_⟩:=H.ex;exact a.len
theorem bB.one (H:bB F h size es v):v.one=true/\v.cells=[v]/\v.fD=true:=by obtain ⟨us,a,_⟩:=H.ex;exact a.one
theorem bB.nil (F:aQ->Prop) (h:ag) (size:Nat):bB F h size [] .bL:=⟨fun b o l c e=>(by cases e),arj _,⟨[],⟨by simp,rfl⟩,rfl,fun u hu=>(by cases hu),fun i e u q=>(by simp at q)⟩,fun b q=>q.elim⟩
theorem bB.at (H:bB F h size es v) {k:IntKind} {i:Nat} (aB:i<es.length):
 ∃b off u,hG size v (.int k i)=some (.ptr b (off+i * size))/\cb F h es[i] u/\u.length=size/\(∀ab,Ext h ab->nj size (ab.get b) (off+i * size)=some (.agg u))/\∀ab,Ext h ab->∀j,j<size->gX (ab.get b) (off+i * size+j)=u[j]? :=by
 obtain ⟨us,aa,ae,aw,aM⟩:=H.ex;have Fi:i<us.length:=by omega
 have hu:=ap4 Fi;obtain ⟨b,off,ax,aH⟩:=aa.bQ (k:=k) aB;have aF:=I1 us i _ aw hu;have hh:=EN us aw;have hle:i * size+size<=us.length * size:=by have:=aq5 size (show i+1<=us.length by omega);rw [asr] at this;exact this
 have S4:us[i].length=size:=aw _ (aqC Fi);refine ⟨b,off,us[i],ax,aM i _ _ (ap4 aB) hu,S4,fun ab e=>?_,fun ab e j bG=>?_⟩
 . rw [(aH.ext e).fX (i:=i * size) (n:=size) (by omega),aF]
 . rw [ark,(aH.ext e).eD (i:=i * size+j) (by omega)];have:((us.flatten.drop (i * size)).take size)[j]? =us[i][j]? :=by rw [aF]
   rw [aq3 bG,arl] at this;rw [<-this,ap4 (by omega)]
end
def Any (_:aQ):Prop:=True
theorem MA:∀{ms:List Nat},(∀(i k:Nat),ms[i]? =some k->1<=k)->ms.length<=ms.sum
 | [],_=>ap7 _
 | m::ms,h=>by have a1:=h 0 m rfl;have:=MA (ms:=ms) fun i k q=>h (i+1) k (by simpa using q);simp only [aqb,ar7];omega
theorem Mz:∀{ms:List Nat} {i k:Nat},ms[i]? =some k->k<=ms.sum
 | [],_,_,h=>by simp at h
 | m::ms,0,k,h=>by simp only [aqm,ap3] at h;subst h;simp only [ar7];omega
 | m::ms,i+1,k,h=>by have:=Mz (ms:=ms) (i:=i) (k:=k) (by simpa using h);simp only [ar7];omega
theorem Ls {α:Type} (enc:α->List D) {h:ag} {size len m:Nat} {v:V} {Q:Nat->List V->Prop} (H:x_ h size v len m Q) (hm:m<=1048576)
 (ar:∀k ah,k<m->Q k ah->∃x,cb Any h (enc x) ah/\ah.length=size):∃xs:List α,xs.length=len/\xs.length+1<=m/\bB Any h size (xs.map enc) v:=by
 obtain ⟨_,_,_,_,aD,us,aP,cd,cn,fO,gw⟩:=H;have afy:=MA fun i k q=>(gw i k q).1;obtain ⟨bo,g1,g2,g3⟩:=collect (α:=α × List V) Prod.snd size (fun p=>cb Any h (enc p.1) p.2/\p.2.length=size) len us cd.1 (fun i aB=>by obtain ⟨k,aA⟩:∃k,aP[i]? =some k:=⟨_,ap4 (by omega)⟩;have:=Mz aA;obtain ⟨x,ao,aw⟩:=ar k _ (by omega) (gw i k aA).2;exact ⟨(x,_),rfl,ao,aw⟩);refine ⟨bo.map Prod.fst,by rw [ap6];exact g1,by rw [ap6];omega,aD,by rw [ap6,ap6];unfold top;omega,⟨bo.map Prod.snd,?_,by simp,?_,?_⟩,fun _ _=>trivial⟩
 . rw [ap6,ap6,g1,<-List.flatMap_def,<-g2];exact cd
 . intro u hu;obtain ⟨p,ai,rfl⟩:=ass.1 hu;exact (g3 p ai).2
 . intro i c u al au;rw [aq2] at al au;rw [aq2] at al;cases ai:bo[i]? with
   | none=>rw [ai] at al;cases al
   | some p=>
     rw [ai] at al au;simp only [arL,ap3] at al au;subst al au;exact (g3 p (aqv ai)).1
structure Has (h:ag) (n:Nat) (l:List V):Prop where
 lt:n<h.next
 g:h.get (aG n)=.bU l 0 false
theorem Has.ext {h ab:ag} {n:Nat} {l:List V} (B:Has h n l) (e:Ext h ab):Has ab n l:=⟨Nat.lt_of_lt_of_le B.lt e.next,(e.get _ (iJ B.lt)).trans B.g⟩
theorem gb (h:ag) (l:List V):∃H,h.new (.bU l 0 false)=H/\Ext h H/\Has H h.next l:=⟨_,rfl,(Ext.refl h).new _,by rw [ir];omega,oA _⟩
theorem gE (h:ag) (z l:List V):∃H,(h.new (.bU z 0 false)).set (aG h.next) (.bU l 0 false)=H/\Ext h H/\Has H h.next l:=
 ⟨_,rfl,((Ext.refl h).new _).set (ap7 _) _,by rw [oT,ir];omega,by rw [ej,aqf rfl]⟩
theorem Has.put {h:ag} {n:Nat} {l:List V} (B:Has h n l) (eH:List V):Has (h.set (aG n) (.bU eH 0 false)) n eH:=⟨by rw [oT];exact B.lt,by rw [ej,aqf rfl]⟩
theorem bB.set {F:aQ->Prop} {h:ag} {size:Nat} {es:List (List D)} {v:V} (H:bB F h size es v) {b:aQ} (ak:¬F b) (k:b8):bB F (h.set b k) size es v:=
 H.mod ((Mod.refl (fun x=>x=b) h).set (fun _=>rfl) k) fun x q _=>⟨fun e=>ak (e ▸ q),q⟩
theorem cb.kk {F:aQ->Prop} {h:ag} {ds:List D} {ah:List V} (H:cb F h ds ah):cb (Old h) h ds ah:=H.bY.e3 fun _ q=>q.2
theorem bB.kk {F:aQ->Prop} {h:ag} {size:Nat} {es:List (List D)} {v:V} (H:bB F h size es v):bB (Old h) h size es v:=by obtain ⟨us,a,b,c,d⟩:=H.ex;exact ⟨H.room,H.le,⟨us,a,b,c,fun i x u al au=>(d i x u al au).kk⟩,fun b q=>a.bY q⟩
theorem Gb {h:ag} {n:Nat} (aW:h.next<=n):¬Old h (aG n):=fun q=>by unfold Old at q;rw [dx] at q;omega
theorem fk {i n:Nat} (h:i<n) (aW:n<=4611686018427387904):IntKind.i64.wrap ((i:Int)+1)=((i+1:Nat):Int):=by rw [wrap_i64 (by omega) (by omega)];rfl
def nI (i:Int):List D:=[.i .i64 i]
theorem bB.KG {F:aQ->Prop} {h:ag} {l:List Int} {v:V} (H:bB F h 1 (l.map nI) v) {k:IntKind} {i:Nat} (aB:i<l.length):
 ∃b off,hG 1 v (.int k i)=some (.ptr b (off+i * 1))/\∀ab,Ext h ab->gX (ab.get b) (off+i * 1)=some (.int .i64 l[i]):=by
 obtain ⟨b,off,u,ax,aH,bA,_,b5⟩:=H.at (k:=k) (i:=i) (by rw [ap6];exact aB);rw [arV,nI] at aH;obtain ⟨us,rfl,cW⟩:=cb.int aH;obtain rfl:=cW.no;exact ⟨b,off,ax,fun ab e=>by simpa using b5 ab e 0 (by omega)⟩
end
end Go.Proofs.YtgmhjhgoamjeeaaGreatDoor.a7
