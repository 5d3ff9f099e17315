/- The abstract machine and its walks (a verified interpreter of the model's code: plain definitions and lemmas, no condition). Printed by a program from longer texts: names made short. -/
import Derived.Test.YthemdhlheglhoaaGreatDoorM3
import Derived.IntWalk
import Derived.Carry
import Derived.OpenShut
import Derived.ChangeSame
import Derived.Lib.Bytealg
import Derived.Lib.IndexMore
import Derived.Handed
import Derived.HandedShaped
import Derived.ChangeArms
import Derived.DataReads
import Derived.ChangeBears
set_option linter.unusedSectionVars false
set_option linter.unusedSimpArgs false
set_option linter.unusedVariables false
set_option maxHeartbeats 64000000
noncomputable section
namespace Go.Proofs.YthemdhlheglhoaaGreatDoor.a7
section
open Go Go.RowKit
variable [Lay]
def gv (P:Program) (f:FuncId) (args:List V) (h:ai) (v:V) (ab:ai):Prop:=
 f≠dC/\(((∃fn,P.funcs[f]? =some fn/\fn.body.isSome=true)/\∀(az:Fr) E w xs,bk E args xs->bf az E h w->
  Calls P f xs.toArray w fun e ao=>∃ax x,e=.returned x/\E.le ax/\Rel ax v x/\bf az ax ab ao)\/
 ∀(az:Fr) E w xs,bk E args xs->bf az E h w->∃ax x ao,(callFunc f xs.toArray).run P w=.ok (.value x) ao/\E.le ax/\Rel ax v x/\bf az ax ab ao)
def OR (P:Program) (args:List V) (b:aQ) (h:ai) (v:V) (ab:ai):Prop:=
 ∀(az:Fr) E w xs p,bk E args xs->bf az E h w->E b=some p->
  ∃f tmps assign body,(Instr.yield p.aM xs.toArray).run P w=.ok (.round p.aM f tmps assign body) w/\
   RoundIn (cA none) 0 P p.aM f tmps assign body w fun e ao=>∃ax x,e=.returned x/\E.le ax/\Rel ax v x/\bf az ax ab ao
theorem gv.calls {P:Program} (bJ:eT P) {f:FuncId} {args:List V} {h ab:ai} {v:V} (H:gv P f args h v ab) (ae:∃fn,P.funcs[f]? =some fn/\fn.body.isSome=true) (az:Fr) (E:Env) (w:World) (xs:List Value) (ak:bk E args xs) (s:bf az E h w):
 Calls P f xs.toArray w fun e ao=>∃ax x,e=.returned x/\E.le ax/\Rel ax v x/\bf az ax ab ao:=by
 rcases H.2 with ⟨_,H⟩ | H
 . exact H az E w xs ak s
 . obtain ⟨ax,x,ao,aF,_⟩:=H az E w xs ak s;obtain ⟨fn,aa,ad⟩:=ae;rw [uV bJ aa ad] at aF;cases aF
def db (P:Program) (f:FuncId) (args:List V) (h:ai) (K:V->ai->Prop):Prop:=∃v ab,gv P f args h v ab/\K v ab
def DY (P:Program) (args:List V) (b:aQ) (h:ai) (K:V->ai->Prop):Prop:=∃v ab,OR P args b h v ab/\K v ab
def OT (P:Program) (xs:List V) (h:ai) (K:V->ai->Prop):Prop:=∃cY b,xs=cY++[.ptr b 0]/\DY P cY b h K
def NY (P:Program) (g:FuncId) (xs:List V) (h:ai) (K:V->ai->Prop):Prop:=if g=dC then OT P xs h K else db P g xs h K
def V.target (v:V) (args:List V):Option (FuncId × List V):=
 match v with
 | .func g cs=>some (g,args++cs)
 | .oF g cs=>some (g,cs++args)
 | _=>none
theorem Vk {v:V} {args xs:List V} {g:FuncId} (h:v.target args=some (g,xs)) (F:FuncId->List V->a8):v.zD args F=F g xs:=by
 cases v<;>simp only [V.target] at h<;>try (cases h;done)
 all_goals (simp only [Option.some.injEq,Prod.mk.injEq] at h;obtain ⟨rfl,rfl⟩:=h;rfl)
theorem db.mono {P:Program} {f:FuncId} {args:List V} {h:ai} {K nW:V->ai->Prop} (c:db P f args h K) (aH:∀v ab,K v ab->nW v ab):db P f args h nW:=by obtain ⟨v,ab,ar,av⟩:=c;exact ⟨v,ab,ar,aH v ab av⟩
def lD:dU:=fun _ _ _=>.fail
theorem Gm (P:Program):hi P lD/\hx P lD:=
 ⟨⟨fun _ f args h v ab _ he=>by simp [lD] at he,fun _ f args h v ab _ he=>by simp [lD] at he,fun _ args b h v ab he=>by simp [lD] at he,fun args h v ab he=>by simp [lD] at he⟩,fun f args h v ab he=>by simp [lD] at he⟩
open Classical in
def nJ (f:FuncId) (args:List V) (h:ai) (v:V) (ab:ai):dU:=
 fun f1 bW aa=>if f1=f/\bW=args/\aa=h then .val v ab else .fail
theorem Vs {P:Program} {f:FuncId} {args:List V} {h ab:ai} {v:V} (H:gv P f args h v ab):hi P (nJ f args h v ab)/\hx P (nJ f args h v ab):=by
 refine ⟨⟨fun az f1 bW aa v1 gz _ he=>?_,fun az f1 bW aa v1 gz _ he=>?_,fun az bW b aa v1 gz he=>?_,fun bW aa v1 gz he=>?_⟩,fun f1 bW aa v1 gz he=>?_⟩
 . unfold nJ at he
   split at he
   . rename_i aD;obtain ⟨rfl,rfl,rfl⟩:=aD;simp only [a8.val.injEq] at he;obtain ⟨rfl,rfl⟩:=he;intro E w xs ak s;rcases H.2 with H | H
     . exact .inl ⟨H.1,H.2 az E w xs ak s⟩
     . exact .inr (H az E w xs ak s)
   . cases he
 . unfold nJ at he
   split at he<;>cases he
 . unfold nJ at he
   split at he
   . rename_i aD;exact absurd aD.1.symm H.1
   . cases he
 . unfold nJ at he
   split at he<;>cases he
 . trivial
theorem anj {xs cY:List V} {x y:V} (h:xs++[x]=cY++[y]):xs=cY/\x=y:=by have:=List.append_inj' h rfl;exact ⟨this.1,by simpa using this.2⟩
theorem alz {P:Program} {args:List V} {b:aQ} {h ab:ai} {v:V} (H:OR P args b h v ab):hi P (nJ dC (args++[.ptr b 0]) h v ab)/\hx P (nJ dC (args++[.ptr b 0]) h v ab):=by
 refine ⟨⟨fun az f1 bW aa v1 gz cl he=>?_,fun az f1 bW aa v1 gz _ he=>?_,fun az bW cb aa v1 gz he=>?_,fun bW aa v1 gz he=>?_⟩,fun f1 bW aa v1 gz he=>?_⟩
 . unfold nJ at he
   split at he
   . rename_i aD;exact absurd aD.1 cl
   . cases he
 . unfold nJ at he
   split at he<;>cases he
 . unfold nJ at he
   split at he
   . rename_i aD;obtain ⟨_,aD,rfl⟩:=aD;obtain ⟨rfl,ae⟩:=anj aD;simp only [V.ptr.injEq,and_true] at ae;subst ae;simp only [a8.val.injEq] at he;obtain ⟨rfl,rfl⟩:=he;exact fun E w xs p ak s ag=>H az E w xs p ak s ag
   . cases he
 . unfold nJ at he
   split at he<;>cases he
 . trivial
theorem L6 {f:FuncId} {args:List V} {h ab:ai} {v:V}:nJ f args h v ab f args h=.val v ab:=by unfold nJ;rw [if_pos ⟨rfl,rfl,rfl⟩]
def bd.set (r:bd) (d:Option Nat) (v:V):bd:=
 match d with
 | none=>r
 | some d=>fun t=>if t=d then v else r t
def bd.trim (r:bd):List Nat->bd
 | [],_=>.bad
 | u::us,t=>if t=u then r t else bd.trim r us t
def bd.bC:List V->bd
 | [],_=>.bad
 | v::ah,t=>if t=0 then v else bd.bC ah (t-1)
def C7 (r:bd):List Nat->bI
 | []=>.e
 | t::cQ=>T.put .bad (r t) (aj t) (C7 r cQ)
theorem Xv (r:bd):∀cQ:List Nat,eo (C7 r cQ)=bd.trim r cQ
 | []=>by funext t;simp [eo,C7,bd.trim]
 | u::cQ=>by
   funext t;have br:=congrFun (Xv r cQ) t;simp only [eo] at br;simp only [eo,C7,bd.trim,T.iy];by_cases h:t=u
   . subst h;simp
   . rw [if_neg (fun e=>h (fu e).symm),if_neg h];exact br
theorem C8 (ch:bI):∀cQ:List Nat,eo (dA ch cQ)=bd.trim (eo ch) cQ
 | []=>by funext t;simp [eo,dA,bd.trim]
 | u::cQ=>by
   funext t;have br:=congrFun (C8 ch cQ) t;simp only [eo] at br;simp only [eo,dA,bd.trim,T.iy];by_cases h:t=u
   . subst h;simp
   . rw [if_neg (fun e=>h (fu e).symm),if_neg h];exact br
theorem Nr {r:bd}:∀{cQ:List Nat} {t:Nat},t ∈ cQ->bd.trim r cQ t=r t
 | [],t,h=>by simp at h
 | u::cQ,t,h=>by
   simp only [bd.trim];by_cases hu:t=u
   . rw [if_pos hu]
   . rw [if_neg hu];simp only [List.mem_cons] at h;exact Nr (h.resolve_left hu)
theorem Xw {r:bd}:∀{cQ:List Nat} {t:Nat},t ∉ cQ->bd.trim r cQ t=.bad
 | [],t,_=>rfl
 | u::cQ,t,h=>by simp only [List.mem_cons,not_or] at h;simp only [bd.trim];rw [if_neg h.1];exact Xw h.2
theorem GL (d:Option Nat) (ch:bI) (v:V):eo ((ga d).run ch v)=(eo ch).set d v:=by
 cases d with
 | none=>rfl
 | some d=>
   funext t;simp only [eo,ga,bd.set,T.iy];by_cases h:t=d
   . subst h;simp
   . rw [if_neg (fun e=>h (fu e).symm),if_neg h]
abbrev eS:Nat:=17179869185
def Out (au:Nat) (r:bd):Prop:=∀t,au<=t->t≠eS->r t=.bad
theorem EI {au:Nat} {r:bd} (a6:Out au r):∃ch,eo ch=r:=by
 refine ⟨C7 r (eS::List.range au),?_⟩;rw [Xv];funext t;by_cases h:t<au
 . exact Nr (List.mem_cons_of_mem _ (List.mem_range.2 h))
 . by_cases ad:t=eS
   . exact Nr (by rw [ad];exact List.mem_cons_self)
   . rw [Xw (by simp only [List.mem_cons,List.mem_range,not_or];exact ⟨ad,h⟩),a6 t (by omega) ad]
theorem Out.set {au:Nat} {r:bd} (a6:Out au r) {d:Option Nat} (bc:fa au d=true) (v:V):Out au (r.set d v):=by
 intro t aw aR;cases d with
 | none=>exact a6 t aw aR
 | some d=>
   simp only [fa,Bool.and_eq_true,Nat.blt_eq] at bc;simp only [bd.set];rw [if_neg (by omega)];exact a6 t aw aR
theorem MW {au:Nat} {r:bd} {d:Option Nat} (bc:fa au d=true) (v:V):r.set d v eS=r eS:=by
 cases d with
 | none=>rfl
 | some d=>
   simp only [fa,Bool.and_eq_true,Nat.blt_eq,Nat.ble_eq] at bc;simp only [bd.set];rw [if_neg (by have:=bc.2;unfold top at this;unfold eS;omega)]
structure ku (E:Env) (au:Nat) (r:bd) (a:Act):Prop where
 size:a.tmps.size=au
 defers:lK E (r eS) a.defers
 aq:∀t,t≠eS->Rel E (r t) (a.tmps.getD t undef)
theorem w9 {t:Nat} (h:t<=top):t≠eS:=by unfold top at h;unfold eS;omega
theorem ku.mono {E ax:Env} (h:E.le ax) {au:Nat} {r:bd} {a:Act} (k:ku E au r a):ku ax au r a:=
 ⟨k.size,k.defers.mono h,fun t aw=>Rel.mono h _ _ (k.aq t aw)⟩
theorem ku.put {E ax:Env} (h:E.le ax) {au:Nat} {r:bd} {a:Act} (k:ku E au r a) {d:Option Nat} (bc:fa au d=true) {v:V} {x:Value} (ak:Rel ax v x):ku ax au (r.set d v) (a.put d x):=by
 cases d with
 | none=>exact k.mono h
 | some d=>
   have aR:=MW (r:=r) bc v;simp only [fa,Bool.and_eq_true,Nat.blt_eq] at bc;refine ⟨by simp [Act.put,k.size],by rw [aR];exact k.defers.mono h,fun t fk=>?_⟩;simp only [bd.set,Act.put];rw [Array.getD_eq_getD_getElem?,Array.getElem?_setIfInBounds];by_cases aw:t=d
   . subst aw;rw [if_pos rfl,if_pos rfl,if_pos (by rw [k.size];exact bc.1)];exact ak
   . rw [if_neg aw,if_neg (fun e=>aw e.symm),<-Array.getD_eq_getD_getElem?];exact Rel.mono h _ _ (k.aq t fk)
def G.wp (P:Program) (g:G) (r:bd) (h:ai) (K:V->ai->Prop):Prop:=
 match g with
 | .call f args=>db P f (aY.gg r args) h K
 | .o2 f args=>∃g xs,(f.aT r).target (aY.gg r args)=some (g,xs)/\NY P g xs h K
 | g=>∃v ab,g.run P lD r h=.val v ab/\K v ab
theorem G.Aa {P:Program} {g:G} {r:bd} {h:ai} {K:V->ai->Prop} (H:g.wp P r h K):∃call v ab,(hi P call/\hx P call)/\g.run P call r h=.val v ab/\K v ab:=by
 cases g
 case call f args=>
  obtain ⟨v,ab,ar,av⟩:=H;exact ⟨_,v,ab,Vs ar,L6,av⟩
 case o2 f args=>
  obtain ⟨g,xs,aA,H⟩:=H;unfold NY at H
  split at H
  rotate_left
  . obtain ⟨v,ab,ar,av⟩:=H;refine ⟨_,v,ab,Vs ar,?_,av⟩;simp only [G.run];rw [Vk aA];exact L6
  . rename_i aB;subst aB;obtain ⟨cY,b,rfl,v,ab,ar,av⟩:=H;refine ⟨_,v,ab,alz ar,?_,av⟩;simp only [G.run];rw [Vk aA];exact L6
 all_goals
  obtain ⟨v,ab,ar,av⟩:=H;exact ⟨lD,v,ab,Gm P,ar,av⟩
structure bH where
 dst:Option Nat
 g:G
 JH:Option (Nat × Bool)
 rs:List Nat
def bH.bad:bH:=⟨none,.bad,none,[]⟩
def gate (v:V) (want:Bool) (A B:Prop):Prop:=
 match v with
 | .bool b=>(b=want->A)/\(b=!want->B)
 | .tuple _=>B
 | _=>False
def bH.wp (P:Program) (o:bH) (r:bd) (h:ai) (K:bd->V->ai->Prop):Prop:=
 match o.JH with
 | none=>o.g.wp P (r.trim o.rs) h fun v ab=>K (r.set o.dst v) v ab
 | some (d,want)=>gate (r.trim o.rs d) want (o.g.wp P (r.trim o.rs) h fun v ab=>K (r.set o.dst v) v ab) (K (r.set o.dst (.tuple [])) (.tuple []) h)
def uT (P:Program) (au:Nat) (all:Array Oper) (o:Oper):bH:=
 bif fa au o.dst&&j_ (b7 all o) then
  match o.guard with
  | none=>⟨o.dst,GR P o.op,none,b7 all o⟩
  | some (j,want)=>match all[j]? with
    | some g=>match g.dst with
      | some d=>bif Nat.blt d au&&Nat.ble d top then ⟨o.dst,GR P o.op,some (d,want),b7 all o⟩ else bH.bad
      | none=>bH.bad
    | none=>bH.bad
 else bH.bad
def zP (P:Program) (au:Nat) (all:Array Oper):List Oper->List bH
 | []=>[]
 | o::os=>uT P au all o::zP P au all os
theorem Wm (P:Program) (au:Nat) (all:Array Oper):∀l:List Oper,zP P au all l=l.map (uT P au all)
 | []=>rfl
 | o::os=>by simp [zP,Wm P au all os]
def aY.isNil:aY->Bool
 | .c .ej=>true
 | _=>false
def CY (P:Program) (au:Nat) (all:Array Oper) (o:Oper):bH:=
 match o.op,o.guard with
 | .binOp op t x y _,none=>match xl P op t with
   | some neg=>bif !((rx x).isNil||(rx y).isNil)&&(fa au o.dst&&j_ (b7 all o)) then ⟨o.dst,.peq neg (rx x) (rx y),none,b7 all o⟩ else uT P au all o
   | none=>uT P au all o
 | _,_=>uT P au all o
def GS (P:Program) (au:Nat) (all:Array Oper):List Oper->List bH
 | []=>[]
 | o::os=>CY P au all o::GS P au all os
theorem bH.D_ {P:Program} {r:bd} {h:ai} {K:bd->V->ai->Prop}:¬bH.bad.wp P r h K:=by rintro ⟨v,ab,q,_⟩;cases q
theorem bH.Aa {P:Program} {au:Nat} {all:Array Oper} {o:Oper} {r:bd} {h:ai} {K:bd->V->ai->Prop} (H:(uT P au all o).wp P r h K):
 ∃call v ab,(hi P call/\hx P call)/\fa au o.dst=true/\K (r.set o.dst v) v ab/\∀ch,eo ch=r->(cK P au all o).run call ch h=.val v ab:=by
 unfold uT at H;cases aD:(fa au o.dst&&j_ (b7 all o)) with
 | false=>rw [aD] at H;exact absurd H bH.D_
 | true=>
   have bc:fa au o.dst=true:=by simp only [Bool.and_eq_true] at aD;exact aD.1
   rw [aD] at H;simp only [cond_true] at H;cases aB:o.guard with
   | none=>
     rw [aB] at H;obtain ⟨call,v,ab,ar,av,aK⟩:=G.Aa H;refine ⟨call,v,ab,ar,bc,aK,fun ch dz=>?_⟩;unfold cK;rw [aD];simp only [cond_true,aB,jr];refine Wl ?_;rw [C8,dz];exact av
   | some qh=>
     obtain ⟨j,want⟩:=qh;rw [aB] at H;simp only at H;cases aU:all[j]? with
     | none=>rw [aU] at H;exact absurd H bH.D_
     | some g=>
       rw [aU] at H;simp only at H;cases kZ:g.dst with
       | none=>rw [kZ] at H;exact absurd H bH.D_
       | some d=>
         rw [kZ] at H;simp only at H;cases ae:(Nat.blt d au&&Nat.ble d top) with
         | false=>rw [ae] at H;exact absurd H bH.D_
         | true=>
           rw [ae] at H;simp only [cond_true,bH.wp] at H;have key:cK P au all o=⟨jr (some (o6 (aj d),want)) (fD P o) (b7 all o)⟩:=by unfold cK;rw [aD];simp only [cond_true,aB,aU,kZ,ae]
           have Ka:∀ch,eo ch=r->(o6 (aj d)).run (dA ch (b7 all o))=r.trim (b7 all o) d:=by intro ch dz;rw [<-dz,<-C8];rfl
           cases bh:r.trim (b7 all o) d<;>rw [bh] at H<;>simp only [gate] at H
           case bool b=>
            by_cases SE:b=want
            . obtain ⟨call,v,ab,ar,av,aK⟩:=G.Aa (H.1 SE);refine ⟨call,v,ab,ar,bc,aK,fun ch dz=>?_⟩;rw [key];simp only [jr,Ka ch dz,bh];rw [show (bif want then b else !b)=true from by subst SE;cases b<;>rfl];simp only [cond_true];refine Wl ?_;rw [C8,dz];exact av
            . have SC:b=!want:=by cases b<;>cases want<;>simp_all
              refine ⟨lD,.tuple [],h,Gm P,bc,H.2 SC,fun ch dz=>?_⟩;rw [key];simp only [jr,Ka ch dz,bh];rw [show (bif want then b else !b)=false from by subst SC;cases want<;>rfl];rfl
           case tuple ah=>
            refine ⟨lD,.tuple [],h,Gm P,bc,H,fun ch dz=>?_⟩;rw [key];simp only [jr,Ka ch dz,bh]
def tl (P:Program):List bH->bd->ai->(bd->ai->Prop)->Prop
 | [],r,h,K=>K r h
 | o::os,r,h,K=>o.wp P r h fun bD _ ab=>tl P os bD ab K
structure gQ where
 r:bd
 h:ai
 v:V
def lH (P:Program):List bH->bd->ai->(List gQ->bd->ai->Prop)->Prop
 | [],r,h,K=>K [] r h
 | o::os,r,h,K=>o.wp P r h fun bD v ab=>lH P os bD ab fun es dc aA=>K (⟨r,h,v⟩::es) dc aA
def yM (es:List gQ) (aA:ai) (i:Nat):ai:=
 match es[i]? with
 | some e=>e.h
 | none=>aA
def r_ (P:Program) (o:Option bH) (e:Option gQ) (es:List gQ) (aA:ai):List Nat->Prop
 | []=>True
 | s::fV=>(match o,e with
   | some o,some e=>o.wp P e.r (yM es aA s) fun _ c9 _=>c9=e.v
   | _,_=>False)/\r_ P o e es aA fV
def pT (P:Program) (ops:List bH) (es:List gQ) (aA:ai):List (Nat × List Nat)->Prop
 | []=>True
 | (p,fV)::rest=>r_ P ops[p]? es[p]? es aA fV/\pT P ops es aA rest
inductive aW where
 | bad
 | skip
 | aq (ops:List bH)
 | draw (ops:List bH) (asks:List (Nat × List Nat))
 | seq (a b:aW)
 | cond (c:aY) (a b:aW)
 | block (id:Nat) (b:aW)
 | loop (b:aW)
 | exit (id:Nat)
 | ret
 | range (f:aY) (bm:List Nat) (au:Nat) (a b:aW)
def x' (P:Program) (ops:List Oper) (eb aG eE:List Nat):Nat->List Oper->List (Nat × List Nat)
 | _,[]=>[]
 | i,o::os=>bif looks o.op&&!fe P o.op then
    (posOf aG i,eE.filter (s4 P eb ops aG i ((eb[i]?).getD 0)))::x' P ops eb aG eE (i+1) os
   else x' P ops eb aG eE (i+1) os
def MJ (P:Program) (au:Nat) (ops:Array Oper) (order aG:List Nat):aW:=
 bif me ops.size order aG&&yj P ops aG then
  .draw (zP P au ops (hW ops order)) (bif r9 P ops.toList then x' P ops.toList (eZ [] ops.toList) aG (h7 P aG 0 ops.toList) 0 ops.toList else [])
 else .bad
def gO (P:Program) (au:Nat):Code->aW
 | .skip=>.skip
 | .label _=>.skip
 | .region _ ops draw=>bif draw then MJ P au ops (CK P ops) (GK (CK P ops) 0 ops.toList) else .aq (GS P au ops ops.toList)
 | .seq a b=>.seq (gO P au a) (gO P au b)
 | .cond c a b=>.cond (rx c) (gO P au a) (gO P au b)
 | .block id b=>.block id (gO P au b)
 | .loop b=>.loop (gO P au b)
 | .exit id=>.exit id
 | .ret=>.ret
 | .scope b=>gO P au b
 | .rangeFunc f bm a b=>bif px au bm.toList&&(noMark a&&noMark b) then .range (rx f) bm.toList au (gO P au a) (gO P au b) else .bad
 | _=>.bad
structure DM (P:Program) (l:lM) (au:Nat) (r:bd) (bm:List Nat) (CX kL:aW):Prop where
 aV:l.au=au
 aF:eo l.r=r
 ag:l.bm=bm
 a1:gO P au l.assign=CX
 ae:gO P au l.body=kL
 kf:px au bm=true
 aqA:noMark l.assign=true
 cX:noMark l.body=true
 out:Out au r
def lM.go (l:lM) (st:Nat) (ew:Option dm):lM:=⟨st,ew,l.d,l.au,l.r,l.bm,l.assign,l.body⟩
def bd.uJ:List Nat->List V->bd->bd
 | p::bm,v::ah,r=>bd.uJ bm ah (r.set (some p) v)
 | _,_,r=>r
def oM (bm:List Nat) (ah:List V) (r:bd):bd:=(bd.uJ bm ah r).set (some eS) .bad
def dm.andThen:dm->Prop->Prop->Prop
 | .normal,A,_=>A
 | _,_,B=>B
def dm.leave (id:Nat):dm->dm
 | .exit i=>if i=id then .normal else .exit i
 | e=>e
def gC (P:Program):aW->bd->ai->(dm->bd->ai->Prop)->Prop
 | .bad,_,_,_=>False
 | .skip,r,h,Q=>Q .normal r h
 | .aq ops,r,h,Q=>tl P ops r h (Q .normal)
 | .draw ops asks,r,h,Q=>lH P ops r h fun es dc aA=>pT P ops es aA asks/\Q .normal dc aA
 | .seq a b,r,h,Q=>gC P a r h fun e bD ab=>e.andThen (gC P b bD ab Q) (Q e bD ab)
 | .cond c a b,r,h,Q=>match c.aT r with
   | .bool t=>(t=true->gC P a r h Q)/\(t=false->gC P b r h Q)
   | _=>False
 | .block id b,r,h,Q=>gC P b r h fun e bD ab=>Q (e.leave id) bD ab
 | .loop b,r,h,Q=>∃(I:bd->ai->Prop) (μ:bd->ai->Nat),I r h/\∀r h,I r h->gC P b r h fun e bD ab=>e.andThen (I bD ab/\μ bD ab<μ r h) (Q e bD ab)
 | .exit id,r,h,Q=>Q (.exit id) r h
 | .ret,r,h,Q=>Q .ret r h
 | .range f bm au a b,r,h,Q=>∃g cs,f.aT r=.func g cs/\g≠dC/\(∃fn,P.funcs[g]? =some fn/\fn.body.isSome=true)/\∀l,DM P l au r bm a b->l.st=0->l.ew=none->
    db P g (.func dC [.ptr (aj (h.next+1)) 0]::cs) ((h.new .gd).new (.dF l)) fun _ ab=>
     ∃dT,ab.get (aj (h.next+1))=.dF dT/\dT.st≠1/\Q (dT.ew.getD .normal) (r.set (some eS) (.tuple (.ptr (aj h.next) 0::(r eS).list))) (ab.set (aj (h.next+1)) .dead)
def aW.plain:aW->Bool
 | .seq a b=>a.plain&&b.plain
 | .cond _ a b=>a.plain&&b.plain
 | .block _ b=>b.plain
 | .loop b=>b.plain
 | .range _ _ _ _ _=>false
 | _=>true
def Dr (P:Program) (au:Nat) (c:Code) (r:bd) (h:ai) (e:dm) (bD:bd) (ab:ai):Prop:=
 ∀(rd:Option Nat) (az:Fr) E a w,(rd=none\/noMark c=true)->ku E au r a->bf az E h w->∀Q:Exit->Act->World->Prop,
  (∀ax bu ao,E.le ax->ku ax au bD bu->bf az ax ab ao->Q (toExit e) bu ao)->Hg rd P c Q a w
section
variable {P:Program} {au:Nat}
theorem amz (P:Program) (au:Nat) (all:Array Oper) (o:Oper):CY P au all o=uT P au all o\/∃op t x y u neg,o.op=.binOp op t x y u/\o.guard=none/\xl P op t=some neg/\fa au o.dst=true/\j_ (b7 all o)=true/\CY P au all o=⟨o.dst,.peq neg (rx x) (rx y),none,b7 all o⟩:=by
 obtain ⟨dst,op,type,pos,after,guard⟩:=o;cases op<;>try (exact .inl rfl)
 rename_i op t x y u;cases guard with
 | some g=>exact .inl rfl
 | none=>
   simp only [CY];cases ag:xl P op t with
   | none=>exact .inl rfl
   | some neg=>
     simp only;cases aD:(!((rx x).isNil||(rx y).isNil)&&(fa au dst&&j_ (b7 all ⟨dst,.binOp op t x y u,type,pos,after,none⟩))) with
     | false=>exact .inl rfl
     | true=>
       simp only [Bool.and_eq_true] at aD;exact .inr ⟨op,t,x,y,u,neg,by first | rfl | trivial,by first | rfl | trivial,ag,by first | exact aD.2.1 | trivial,by first | exact aD.2.2 | trivial,by first | rfl | trivial⟩
theorem bH.aoG (bJ:eT P) {all:Array Oper} {o:Oper} {i:Nat} (an:all[i]? =some o) {r:bd} {h:ai} {K:bd->V->ai->Prop} (a6:Out au r) (H:(CY P au all o).wp P r h K):
 ∃v ab,fa au o.dst=true/\K (r.set o.dst v) v ab/\∀(rd:Option Nat) (az:Fr) E a w,ku E au r a->bf az E h w->∀(Q:Exit->Act->World->Prop) (C:Act->World->Prop),
  (∀ax x ao,E.le ax->Rel ax v x->bf az ax ab ao->C (a.put o.dst x) ao)->wpOpIn (cA rd) 0 P all Q i C a w:=by
 obtain ⟨ch,dz⟩:=EI a6;rcases amz P au all o with e | ⟨op,t,x,y,u,neg,aP,a',cM,fM,gf,pW⟩
 . rw [e] at H;obtain ⟨call,v,aa,aD,bc,H1,c2⟩:=bH.Aa H;refine ⟨v,aa,bc,H1,fun rd az E a w k s Q C JM=>?_⟩;refine qT bJ aD.1 aD.2 an (c2 ch dz) k.size (fun t aw=>?_) s JM;have:=congrFun dz t;simp only [eo] at this;rw [this];exact k.aq t (w9 (Nat.le_of_ble_eq_true (List.all_eq_true.1 (kT (c2 ch dz)).2 t aw)))
 . rw [pW] at H;simp only [bH.wp,G.wp,G.run] at H;obtain ⟨v,ab,bh,dQ⟩:=H;unfold uP at bh;cases aC:ht h ((rx x).aT (r.trim (b7 all o))) ((rx y).aT (r.trim (b7 all o))) with
   | none=>rw [aC] at bh;cases bh
   | some b=>
     rw [aC] at bh;simp only [a8.of,a8.val.injEq] at bh;obtain ⟨rfl,rfl⟩:=bh;refine ⟨_,h,fM,dQ,fun rd az E a w k s Q C JM=>?_⟩;have iB:RegRel0 E au (dA ch (b7 all o)) a:=⟨k.size,fun t aw=>by
      rw [Nq gf aw];by_cases hm:t ∈ b7 all o
      . rw [if_pos hm];have:=congrFun dz t;simp only [eo] at this;rw [this];exact k.aq t (w9 aw)
      . rw [if_neg hm];simp [Rel]⟩
     have ex:∀z:Operand,(bT z).run (dA ch (b7 all o))=(rx z).aT (r.trim (b7 all o)):=fun z=>by rw [fb,C8,dz]
     rw [<-ex,<-ex] at aC;obtain ⟨dst,aqR,type,pos,after,guard⟩:=o;subst aP a';obtain ⟨Z,fO,cN⟩:=VV (P:=P) (fx:=x) (hs:=y) s cM aC (dM iB x) (dM iB y);simp only [wpOpIn,an,Region.wanted,if_true];exact gP rfl (df.plain s fO cN) fun ax v ao ar av aK=>JM ax _ ao ar av aK
theorem X0 (bJ:eT P) {all:Array Oper}:∀(l:List Oper) (i:Nat),(∀j,l[j]? =all[i+j]?)->∀(r:bd) (h:ai) (K:bd->ai->Prop),Out au r->tl P (GS P au all l) r h K->
 ∃bD ab,K bD ab/\(Out au bD/\bD eS=r eS)/\∀(rd:Option Nat) (az:Fr) E a w,ku E au r a->bf az E h w->∀Q:Exit->Act->World->Prop,
  (∀ax bu ao,E.le ax->ku ax au bD bu->bf az ax ab ao->Q .normal bu ao)->wpOpsIn (cA rd) 0 P all Q (List.range' i l.length) a w
 | [],i,_,r,h,K,a6,H=>by refine ⟨r,h,H,⟨a6,rfl⟩,fun rd az E a w k s Q cO=>?_⟩;simp only [List.length_nil,List.range'_zero,wpOpsIn];exact cO E a w (Env.le.refl E) k s
 | o::os,i,ay,r,h,K,a6,H=>by
   have an:all[i]? =some o:=by have:=ay 0;simpa using this.symm
   simp only [GS,tl] at H;obtain ⟨v,aa,bc,H1,c2⟩:=bH.aoG bJ an a6 H;obtain ⟨cw,ad,ar,av,aK⟩:=X0 bJ os (i+1) (fun j=>by have:=ay (j+1);simp only [List.getElem?_cons_succ] at this;rw [this];congr 1;omega) _ aa K (a6.set bc v) H1;refine ⟨cw,ad,ar,⟨av.1,av.2.trans (MW bc v)⟩,fun rd az E a w k s Q cO=>?_⟩;rw [List.length_cons,List.range'_succ,wpOpsIn_cons];refine c2 rd az E a w k s _ _ fun ax x ao bZ bX b_=>?_;exact aK rd az ax _ ao (k.put bZ bc bX) b_ Q fun cp a2 b0 b6 z2 z3=>cO cp a2 b0 (bZ.trans b6) z2 z3
def toF (e:e8):gQ:=⟨eo e.r,e.h,e.v⟩
theorem aeX (es:List e8) (aA:ai) (i:Nat):yM (es.map toF) aA i=cq es aA i:=by unfold yM cq;rw [List.getElem?_map];cases es[i]? <;>rfl
theorem XZ {all:Array Oper}:∀(l:List Oper) (na:bI) (h:ai) (K:List gQ->bd->ai->Prop),lH P (zP P au all l) (eo na) h K->Out au (eo na)->
 ∃es oX aA,K (es.map toF) (eo oX) aA/\(Out au (eo oX)/\eo oX eS=eo na eS)/\es.length=l.length/\cq es aA 0=h/\ey es oX 0=na/\
  ∀j o,l[j]? =some o->∃e call,es[j]? =some e/\(hi P call/\hx P call)/\(cK P au all o).run call e.r e.h=.val e.v (cq es aA (j+1))/\ey es oX (j+1)=(ga o.dst).run e.r e.v
 | [],na,h,K,H,a6=>⟨[],na,h,H,⟨a6,rfl⟩,rfl,rfl,rfl,fun j o aU=>by simp at aU⟩
 | o::os,na,h,K,H,a6=>by
   simp only [zP,lH] at H;obtain ⟨call,v,aa,aD,bc,H1,c2⟩:=bH.Aa H;rw [<-GL] at H1;obtain ⟨es,oX,aA,ar,av,aK,bU,dV,eQ⟩:=XZ os _ aa _ H1 (by rw [GL];exact a6.set bc v);refine ⟨⟨na,h,v⟩::es,oX,aA,ar,⟨av.1,av.2.trans (by rw [GL];exact MW bc v)⟩,by simp [aK],by simp [cq],by simp [ey],fun j ck aU=>?_⟩;cases j with
   | zero=>
     simp only [List.getElem?_cons_zero,Option.some.injEq] at aU;subst aU;exact ⟨⟨na,h,v⟩,call,rfl,aD,by rw [yL,bU];exact c2 na rfl,by rw [zN,dV]⟩
   | succ j=>
     obtain ⟨e,c,bZ,bX,b_,gV⟩:=eQ j ck (by simpa using aU);exact ⟨e,c,by simpa using bZ,bX,by rw [yL];exact b_,by rw [zN];exact gV⟩
theorem O' {o:Option bH} {e:Option gQ} {es:List gQ} {aA:ai}:∀{fV:List Nat},r_ P o e es aA fV->∀s ∈ fV,∃ck cZ,o=some ck/\e=some cZ/\ck.wp P cZ.r (yM es aA s) fun _ c9 _=>c9=cZ.v
 | [],_,s,h=>by simp at h
 | hX::fV,H,s,hm=>by
   simp only [r_] at H;simp only [List.mem_cons] at hm;rcases hm with rfl | hm
   . cases o with
     | none=>exact H.1.elim
     | some o=>
       cases e with
       | none=>exact H.1.elim
       | some e=>exact ⟨o,e,rfl,rfl,H.1⟩
   . exact O' H.2 s hm
theorem Pb {ops:List Oper} {eb aG eE:List Nat} {gs:List bH} {es:List gQ} {aA:ai}:∀{l:List Oper} {i:Nat},pT P gs es aA (x' P ops eb aG eE i l)->∀j o,l[j]? =some o->looks o.op=true->fe P o.op=false->
 r_ P gs[posOf aG (i+j)]? es[posOf aG (i+j)]? es aA (eE.filter (s4 P eb ops aG (i+j) ((eb[i+j]?).getD 0)))
 | [],i,_,j,o,h,_,_=>by simp at h
 | ck::os,i,H,j,o,h,aa,ad=>by
   simp only [x'] at H;cases j with
   | zero=>
     simp only [List.getElem?_cons_zero,Option.some.injEq] at h;subst h;rw [aa,ad] at H;simp only [Bool.not_false,Bool.and_true,cond_true,pT] at H;exact H.1
   | succ j=>
     have fh:pT P gs es aA (x' P ops eb aG eE (i+1) os):=by
      cases aD:(looks ck.op&&!fe P ck.op) with
      | true=>rw [aD] at H;simp only [cond_true,pT] at H;exact H.2
      | false=>rw [aD] at H;exact H
     have:=Pb fh j o (by simpa using h) aa ad;rw [show i+1+j=i + (j+1) from by omega] at this;exact this
theorem acO (hF:au<=top) (dE:P.follows .mixedOrders=true) (bJ:eT P) {id:Nat} {ops:Array Oper} {order aG:List Nat} {r:bd} {h:ai} {Q:dm->bd->ai->Prop} (a6:Out au r)
 (H:gC P (MJ P au ops order aG) r h Q):∃bD ab,Q .normal bD ab/\(Out au bD/\bD eS=r eS)/\Dr P au (.region id ops true) r h .normal bD ab:=by
 unfold MJ at H;cases aA:(me ops.size order aG&&yj P ops aG) with
 | false=>rw [aA] at H;exact H.elim
 | true=>
   rw [aA] at H;simp only [cond_true,gC] at H;simp only [Bool.and_eq_true] at aA;obtain ⟨hq,gI⟩:=aA;unfold me at hq;simp only [Bool.and_eq_true,Nat.beq_eq] at hq;obtain ⟨kG,nw,sE,sF⟩:=hq;have iE:∀k,k<ops.size->posOf aG k<ops.size/\order[posOf aG k]? =some k:=by
    intro k aH;have aB:aG[k]? =some (posOf aG k):=by unfold posOf;rw [List.getElem?_eq_getElem (by omega)];rfl
    have:=uL sE aB;rw [Nat.zero_add] at this;exact ⟨by have:=(List.getElem?_eq_some_iff.1 this).1;omega,this⟩
   have lE:∀p,p<ops.size->∃i,i<ops.size/\posOf aG i=p:=by intro p ag;have aB:order[p]? =some (order[p]'(by omega)):=List.getElem?_eq_getElem (by omega);have:=uL sF aB;rw [Nat.zero_add] at this;refine ⟨order[p]'(by omega),by have:=(List.getElem?_eq_some_iff.1 this).1;omega,?_⟩;unfold posOf;rw [this];rfl
   obtain ⟨na,t'⟩:=EI a6;rw [<-t'] at H a6;obtain ⟨es,oX,bl,⟨Bo,cO⟩,⟨sH,Tk⟩,ar,av,aK,bU⟩:=XZ _ na h _ H a6;refine ⟨_,bl,cO,⟨sH,by rw [<-t'];exact Tk⟩,fun rd az E a w aF k s gj JT=>?_⟩;have step:∀i:Nat,∃call,(hi P call/\hx P call)/\∀o,ops[i]? =some o->∃e,es[posOf aG i]? =some e/\(cK P au ops o).run call e.r e.h=.val e.v (cq es bl (posOf aG i+1))/\ey es oX (posOf aG i+1)=(ga o.dst).run e.r e.v:=by
    intro i;cases an:ops[i]? with
    | none=>exact ⟨lD,Gm P,fun o h=>by cases h⟩
    | some o=>
      obtain ⟨e,call,bZ,bX,b_,gV⟩:=bU _ o (nI (iE i (Array.getElem?_eq_some_iff.1 an).1).2 an);exact ⟨call,bX,fun ck hp=>by cases hp;exact ⟨e,bZ,b_,gV⟩⟩
   obtain ⟨calls,yH⟩:=Classical.axiomOfChoice step;have ua:∀j o,ops[j]? =some o->looks o.op=true->fe P o.op=false->∃e,es[posOf aG j]? =some e/\∀s ∈ h7 P aG 0 ops.toList,
    s4 P (eZ [] ops.toList) ops.toList aG j (((eZ [] ops.toList)[j]?).getD 0) s=true->∃c ab,(hi P c/\hx P c)/\(cK P au ops o).run c e.r (cq es bl s)=.val e.v ab:=by
    intro j o ra eD ae2;have aU:=(Array.getElem?_eq_some_iff.1 ra).1;obtain ⟨e,bZ,bX,b_⟩:=(yH j).2 o ra;refine ⟨e,bZ,fun s aR hm=>?_⟩;cases ay:r9 P ops.toList with
    | true=>
      rw [ay] at Bo;simp only [cond_true] at Bo;have:=Pb Bo j o (by simpa using ra) eD ae2;rw [Nat.zero_add] at this;obtain ⟨ck,cZ,b6,z2,z3⟩:=O' this s (List.mem_filter.2 ⟨aR,hm⟩);rw [Wm,List.getElem?_map,nI (iE j aU).2 ra] at b6;simp only [Option.map_some,Option.some.injEq] at b6;rw [List.getElem?_map,bZ] at z2;simp only [Option.map_some,Option.some.injEq] at z2;subst b6;subst z2;rw [aeX] at z3;obtain ⟨c,v,ab,e7,_,y3,y4⟩:=bH.Aa z3;have X4:=y4 e.r rfl;rw [show v=e.v from y3] at X4;exact ⟨c,ab,e7,X4⟩
    | false=>
      have none:∀(l:List Oper),r9 P l=false->∀(j:Nat) (o:Oper),l[j]? =some o->fe P o.op=false:=by
       intro l
       induction l with
       | nil=>intro _ j o h;simp at h
       | cons x l br=>
         intro h j o a6;simp only [r9,Bool.or_eq_false_iff] at h;cases j with
         | zero=>simp only [List.getElem?_cons_zero,Option.some.injEq] at a6;subst a6;exact h.1
         | succ j=>exact br h.2 j o (by simpa using a6)
      have hH:s=ops.size:=by
       rcases uB aR with h | ⟨Cc,ck,aa,ad,aJ⟩
       . simpa using h
       . have:=none _ ay Cc ck aa;unfold er at ad;rw [this] at ad;cases ad
      have flat:∀d,d<=ops.size->cq es bl d=cq es bl 0:=by
       intro d
       induction d with
       | zero=>intro _;rfl
       | succ d br=>
         intro bc;obtain ⟨i,Bx,oi⟩:=lE d (by omega);have cF:ops[i]? =some ops[i]:=Array.getElem?_eq_getElem Bx;obtain ⟨acT,b2,b0,_⟩:=(yH i).2 ops[i] cF;rw [oi] at b2 b0;have cl:fe P ops[i].op=false:=none _ ay i _ (by simp);rw [(vL cl b0).1,<-br (by omega)];simp [cq,b2]
      have aqb:=(iE j aU).1;have:e.h=cq es bl s:=by rw [hH,flat ops.size (Nat.le_refl _),<-flat (posOf aG j) (by omega)];simp [cq,bZ]
      rw [<-this];exact ⟨_,_,(yH j).1,bX⟩
   have hlen:es.length=ops.size:=by rw [ar,qs,kG]
   have C:Cert P au ops calls es na h oX bl (h7 P aG 0 ops.toList) order aG ops.size ops.size false:=
    ⟨hlen,Nat.le_refl _,Nat.le_refl _,iE,lE,av,aK,fun i o cF _=>(yH i).2 o cF,
      fun i o cF=>by obtain ⟨cV,b6,z2,z3⟩:=Rw gI i o cF;exact ⟨cV,b6,z2,fun _ k ok aH _=>by obtain ⟨mk,e7,fJ,y3⟩:=z3 k ok aH;exact ⟨mk,e7,fJ,fun aP a' cM=>.inl (y3 aP a' cM)⟩⟩,
      by simpa using F3 (P:=P) (aG:=aG) (l:=ops.toList) (i:=0),
      fun j o aa ad=>by simpa using zp (aG:=aG) (i:=0) (j:=j) (l:=ops.toList) (by simpa using aa) ad,
      fun s aR=>by
       rcases uB aR with h | ⟨j,o,aa,ad,aJ⟩
       . exact .inl (.inl (by simpa using h))
       . exact .inr ⟨j,o,by simpa using aa,ad,by simpa using aJ⟩,
      fun j o aa ad aJ _=>ua j o aa ad aJ,fun h=>absurd h (Nat.lt_irrefl _),fun h=>absurd h (Nat.lt_irrefl _)⟩
   have aH:RegRel0 E au na a:=⟨k.size,fun t aw=>by have:=congrFun t' t;simp only [eo] at this;rw [this];exact k.aq t (w9 aw)⟩;have dI:∀k,¬(Array.replicate ops.size false).getD k false=true:=by
    intro k;rw [tW,Array.getElem?_replicate]
    split<;>simp
   have kE:Holds az az es bl aG (ks ops es bl aG (Array.replicate ops.size false) 0):=
    ⟨rfl,fun _ _=>rfl,fun k aH=>(by obtain ⟨_,_,_,_,aX⟩:=aH;omega),fun k bj aH=>(by obtain ⟨_,_,_,_,aX⟩:=aH;omega)⟩
   obtain ⟨hX,fq,g1,g2,g3,g4,g5,g6⟩:=C.advance ops.size 0 (by omega) (fun k o _ _ _=>dI k) az kE (E:=E) (w:={w with drawn:=w.drawn}) (by rw [av];exact s.same rfl rfl rfl rfl);have ny:eo oX eS=r eS:=by rw [<-t'];exact Tk
   have fin:∀ax bu ao,E.le ax->RegRel0 ax au oX bu->bu.defers=a.defers->bf az ax bl ao->gj .normal bu ao:=by
    intro ax bu ao b6 z2 tn z3;refine JT ax bu ao b6 ⟨z2.size,by rw [ny,tn];exact k.defers.mono b6,fun t fk=>?_⟩ z3;by_cases aw:t<=top
    . exact z2.aq t aw
    . have cr:=z2.size;rw [sH t (by omega) fk];simp [Rel]
   refine XX dE (Ry bJ (fun i=>(yH i).1.1) (fun i=>(yH i).1.2) C (fp:=E) (D:=a.defers) (fun _=>fin)
    (fun _ _ _ _ _ _ _ h=>absurd h (Nat.lt_irrefl _)) (fun h=>absurd h (Nat.lt_irrefl _)) ops.size _ a _ ?_ ?_)
   . exact Nat.le_trans List.countP_le_length (by simp)
   . refine ⟨by simp,aH.size,rfl,fun bj aH=>absurd aH (dI bj),fun bj o e aH=>absurd aH (dI bj),E,hX,fq,Env.le.refl E,g1,g3,fun bj o aa ad=>⟨fun h=>absurd h (dI bj),fun h=>by have:=g4 bj o aa ad (Nat.zero_le _);omega⟩,
      fun bj o _ _ h=>absurd h (dI bj),g5,?_,fun t aw=>.inr ⟨fun bj o aH=>absurd aH (dI bj),aH.aq t aw⟩⟩
     exact g6.same rfl rfl rfl rfl
theorem adg {rd:Option Nat} {e:dm} {Q:Exit->Act->World->Prop} {a:Act} {w:World} (h:Q (toExit e) a w):(Jw e).wpIn (cA rd) 0 P Q a w:=by
 cases e with
 | normal=>exact wpIn_skip h
 | exit id=>exact wpIn_exit h
 | ret=>exact wpIn_ret h
theorem amr (hF:au<=top) (dE:P.follows .mixedOrders=true) (bJ:eT P) {f:Operand} {bm:Array Tmp} {x y:Code} {r:bd} {h:ai} {Q:dm->bd->ai->Prop} (a6:Out au r)
 (H:gC P (gO P au (.rangeFunc f bm x y)) r h Q):∃e bD ab,Q e bD ab/\(Out au bD/\((gO P au (.rangeFunc f bm x y)).plain=true->bD eS=r eS))/\Dr P au (.rangeFunc f bm x y) r h e bD ab:=by
 simp only [gO] at H ⊢;cases gI:(px au bm.toList&&(noMark x&&noMark y)) with
 | false=>rw [gI] at H;exact H.elim
 | true=>
   rw [gI] at H;simp only [cond_true,gC] at H ⊢;simp only [Bool.and_eq_true] at gI;obtain ⟨g,cs,bh,aB,lW,H⟩:=H;obtain ⟨ch,dz⟩:=EI a6;obtain ⟨v,ab,c1,dT,aP,a',cO⟩:=H ⟨0,none,aj h.next,au,ch,bm.toList,x,y⟩ ⟨rfl,dz,rfl,rfl,rfl,gI.1,gI.2.1,gI.2.2,a6⟩ rfl rfl;refine ⟨_,_,_,cO,⟨fun t aa ad=>by simp only [bd.set];rw [if_neg ad];exact a6 t aa ad,fun z=>by cases z⟩,fun rd az E a w aF k s gj JT=>?_⟩;have FA:rd=none:=aF.resolve_right (by simp [noMark]);subst FA;have aA:Rel E (.func g cs) (a.eval f):=by
    rw [<-bh];cases f with
    | tmp t=>
      simp only [rx];cases ae:Nat.ble t top with
      | false=>simp [aY.aT,Rel]
      | true=>
        simp only [cond_true,aY.aT];exact k.aq t (w9 (Nat.le_of_ble_eq_true ae))
    | const v=>exact uH E v
    | func f=>
      simp only [rx];cases ae:Nat.beq f dC with
      | true=>simp [aY.aT,Rel]
      | false=>
        simp only [cond_false,aY.aT,Rel];exact .inl ⟨fun e=>by subst e;simp at ae,_,rfl,by simp [bk]⟩
    | global g=>simp [rx,aY.aT,Rel]
   simp only [Rel] at aA;rcases aA with ⟨_,e4,b5,ay⟩ | ⟨Kh,_⟩
   case inr=>exact absurd Kh aB
   refine (wpIn_rangeFunc fun fn _=>?_:(Code.rangeFunc f bm x y).wpIn (cA none) 0 P gj a w);have f0:=s.fresh h.next (Nat.le_refl _)
   obtain ⟨ez,v'⟩:∃ez,ez=E.put (aj h.next) ⟨w.heap.size,0,0⟩:=⟨_,rfl⟩;obtain ⟨b2,sO⟩:∃b2:World,b2={w with heap:=w.heap.push (.deferred (some []))}:=⟨_,rfl⟩;have BN:ez (aj h.next)=some ⟨w.heap.size,0,0⟩:=by rw [v'];unfold Env.put;rw [if_pos rfl]
   have s1:bf az ez (h.new .gd) b2:=by rw [v',sO];refine s.alloc 0 ⟨⟨w.heap.size,0,0⟩,by unfold Env.put;rw [if_pos rfl],s.frame.size,by simp⟩
   have po:E.le ez:=by rw [v'];exact Env.l' f0
   have wI:b2.heap.size=w.heap.size+1:=by rw [sO];simp
   obtain ⟨o,hp⟩:∃o:Loop,o={state:=.ready,pending:=none,fn,tmps:=a.tmps,params:=bm,assign:=x,body:=y,defers:=w.heap.size}:=⟨_,rfl⟩;obtain ⟨cp,sv⟩:∃cp,cp=ez.put (aj (h.next+1)) ⟨b2.heap.size,0,0⟩:=⟨_,rfl⟩;obtain ⟨b0,sP⟩:∃b0:World,b0={b2 with heap:=b2.heap.push (.loop o)}:=⟨_,rfl⟩;have f1:ez (aj (h.next+1))=none:=s1.fresh (h.next+1) (Nat.le_refl _);have l9:ez.le cp:=by rw [sv];exact Env.l' f1
   have BO:cp (aj (h.next+1))=some ⟨b2.heap.size,0,0⟩:=by rw [sv];unfold Env.put;rw [if_pos rfl]
   have dF:vl cp ⟨0,none,aj h.next,au,ch,bm.toList,x,y⟩ o:=by subst hp;refine ⟨rfl,rfl,rfl,rfl,rfl,k.size,fun t aw=>?_,_,l9 _ _ BN,rfl⟩;have:=congrFun dz t;simp only [eo] at this;simp only [this];exact Rel.mono (po.trans l9) _ _ (k.aq t (w9 aw))
   have s2:bf az cp ((h.new .gd).new (.dF ⟨0,none,aj h.next,au,ch,bm.toList,x,y⟩)) b0:=by rw [sv,sP];refine s1.alloc 0 ⟨⟨b2.heap.size,0,0⟩,o,by show ez.put (aj (h.next+1)) _ (aj (h.next+1))=_;unfold Env.put;rw [if_pos rfl],by show az.w.heap.size<=b2.heap.size;rw [wI];have:=s.frame.size;omega,by simp,?_⟩;have:=dF;rw [sv] at this;exact this
   obtain ⟨ij,qa⟩:∃ij,ij=b2.heap.size:=⟨_,rfl⟩;have aZ:Rel cp (.func dC [.ptr (aj (h.next+1)) 0]) (.func (.yield ij) #[] #[]):=by simp only [Rel];exact .inr ⟨trivial,_,_,rfl,BO,by rw [qa]⟩
   have p5:bk cp (.func dC [.ptr (aj (h.next+1)) 0]::cs) (.func (.yield ij) #[] #[]::e4.toList):=by simp only [bk];exact ⟨_,_,rfl,aZ,bk.mono (po.trans l9) _ _ ay⟩
   have aD:Calls P g (Value.func (Fn.yield ij) #[] #[]::e4.toList).toArray b0 (rangePost (cA none) 0 P ij gj {a with defers:=[{target:=.collected w.heap.size,args:=#[]}]++a.defers}):=(c1.calls bJ lW az cp b0 _ p5 s2).mono fun e ao aC=>by
    obtain ⟨ax,arj,rfl,ar,_,aK⟩:=aC;simp only [rangePost];have jw:=ar _ _ BO;have ae:=aK.at jw;rw [aP] at ae;obtain ⟨p',ck,gL,c_,bl,Ks⟩:=ae;rw [jw] at gL;cases gL;obtain ⟨t1,t2,t3,t4,t5,t6,t7,t8⟩:=Ks;simp only at bl;rw [<-qa] at bl;have KB:(ck.state == LoopState.busy)=false:=by
     rw [t1]
     match p9:dT.st with
     | 0=>rfl
     | 1=>exact absurd p9 a'
     | n+2=>rfl
    have lY:=(Array.getElem?_eq_some_iff.1 bl).1
    let iF:World:={ao with heap:=ao.heap.setIfInBounds ij (.loop {ck with state:=.exhausted})}
    have gH:(Instr.endLoop ij).run P ao=.ok ck.pending iF:=by
     have sL:(setObj ij (.loop {ck with state:=.exhausted})).run P ao=.ok () iF:=by simp only [setObj,Sem.run,bl];rfl
     simp only [Instr.endLoop,Sem.run_bind,run_getLoop bl,Result.andThen_ok,KB,Bool.false_eq_true,if_false,sL,Sem.run_pure]
    have zT:bf az ax (ab.set (aj (h.next+1)) .dead) iF:=by refine aK.gone (p:=⟨b2.heap.size,0,0⟩) (by rw [aP];rfl) jw c_ (by simp [iF]) (fun j aU=>?_) rfl rfl rfl;simp only at aU;simp only [iF,Array.getElem?_setIfInBounds];rw [if_neg (fun e=>aU (by rw [<-e,qa]))]
    have dp:ku ax au (r.set (some eS) (.tuple (.ptr (aj h.next) 0::(r eS).list))) {a with defers:=[{target:=.collected w.heap.size,args:=#[]}]++a.defers}:=by
     refine ⟨k.size,?_,fun t aw=>?_⟩
     . simp only [bd.set,if_true,lK,nT,List.cons_append,List.nil_append];exact ⟨_,_,rfl,⟨_,ar _ _ (l9 _ _ BN),rfl⟩,(k.defers.mono (po.trans (l9.trans ar))).list⟩
     . simp only [bd.set];rw [if_neg aw];exact Rel.mono (po.trans (l9.trans ar)) _ _ (k.aq t aw)
    refine ⟨ck.pending,iF,gH,?_⟩;rw [t2];have fin:=JT ax _ iF (po.trans (l9.trans ar)) dp zT;cases j1:dT.ew with
    | none=>rw [j1] at fin;exact fin
    | some e=>rw [j1] at fin;exact adg fin
   obtain ⟨Bl,afa,lW⟩:=lW;refine ⟨ij,[{target:=.collected w.heap.size,args:=#[]}],b0,{target:=.fn (.func g) e4,args:=#[]++#[.func (.yield ij) #[] #[]]},b0,g,_,b0,?_,?_,fun _ _=>trivial,?_,fun h=>by simp at h,tJ.2 aD⟩
   . subst hp sP sO;have he:=run_enterLoop_outer (P:=P) (w:=w) fn a.tmps bm x y;rw [World.alloc,World.alloc] at he;simp only [Array.size_push] at qa ⊢;rw [qa];exact he
   . simp only [resolve,b5,Deferred.ofValue,Sem.run_pure];simp [Act.eval]
   . simp only [invoke];have e:(#[]++#[Value.func (.yield ij) #[] #[]]:Array Value)++e4=(Value.func (.yield ij) #[] #[]::e4.toList).toArray:=by apply Array.ext';simp
     rw [e];exact uV bJ afa lW _ b0
theorem NH (hF:au<=top) (dE:P.follows .mixedOrders=true) (bJ:eT P):∀(c:Code) (r:bd) (h:ai) (Q:dm->bd->ai->Prop),Out au r->gC P (gO P au c) r h Q->
 ∃e bD ab,Q e bD ab/\(Out au bD/\((gO P au c).plain=true->bD eS=r eS))/\Dr P au c r h e bD ab:=by
 intro c
 induction c with
 | skip=>
   intro r h Q a6 H;exact ⟨.normal,r,h,H,⟨a6,fun _=>rfl⟩,fun rd az E a w aF k s gj cO=>wpIn_skip (cO E a w (Env.le.refl E) k s)⟩
 | label l=>
   intro r h Q a6 H;exact ⟨.normal,r,h,H,⟨a6,fun _=>rfl⟩,fun rd az E a w aF k s gj cO=>wpIn_label (cO E a w (Env.le.refl E) k s)⟩
 | exit id=>
   intro r h Q a6 H;exact ⟨.exit id,r,h,H,⟨a6,fun _=>rfl⟩,fun rd az E a w aF k s gj cO=>wpIn_exit (cO E a w (Env.le.refl E) k s)⟩
 | ret=>
   intro r h Q a6 H;exact ⟨.ret,r,h,H,⟨a6,fun _=>rfl⟩,fun rd az E a w aF k s gj cO=>wpIn_ret (cO E a w (Env.le.refl E) k s)⟩
 | region id ops draw=>
   intro r h Q a6 H;cases draw with
   | true=>
     simp only [gO,cond_true] at H;obtain ⟨bD,ab,ar,av,aK⟩:=acO hF dE bJ (id:=id) a6 H;exact ⟨.normal,bD,ab,ar,⟨av.1,fun _=>av.2⟩,aK⟩
   | false=>
     simp only [gO,cond_false,gC] at H;obtain ⟨bD,ab,ar,av,aK⟩:=X0 bJ ops.toList 0 (fun j=>by simp) r h _ a6 H;refine ⟨.normal,bD,ab,ar,⟨av.1,fun _=>av.2⟩,fun rd az E a w aF k s gj cO=>?_⟩;refine wpIn_region ?_;have:=aK rd az E a w k s gj cO;rw [List.range_eq_range'];simpa using this
 | seq x y wP wQ=>
   intro r h Q a6 H;simp only [gO,gC] at H;obtain ⟨e,bw,aa,ar,av,aK⟩:=wP r h _ a6 H;cases e with
   | normal=>
     obtain ⟨e,cw,ad,bZ,bX,b_⟩:=wQ bw aa Q av.1 ar;refine ⟨e,cw,ad,bZ,⟨bX.1,fun z=>by simp only [gO,aW.plain,Bool.and_eq_true] at z;exact (bX.2 z.2).trans (av.2 z.1)⟩,fun rd az E a w aF k s gj cO=>?_⟩;refine wpIn_seq (aK rd az E a w (aF.imp (fun h=>h) fun h=>by simp only [noMark,Bool.and_eq_true] at h;exact h.1) k s _ fun ax bu ao b6 z2 z3=>?_).wp;exact (b_ rd az ax bu ao (aF.imp (fun h=>h) fun h=>by simp only [noMark,Bool.and_eq_true] at h;exact h.2) z2 z3 gj fun cp a2 b0 e7 fJ y3=>cO cp a2 b0 (b6.trans e7) fJ y3).wp
   | exit i=>
     refine ⟨.exit i,bw,aa,ar,⟨av.1,fun z=>by simp only [gO,aW.plain,Bool.and_eq_true] at z;exact av.2 z.1⟩,fun rd az E a w aF k s gj cO=>?_⟩;refine wpIn_seq (aK rd az E a w (aF.imp (fun h=>h) fun h=>by simp only [noMark,Bool.and_eq_true] at h;exact h.1) k s _ fun ax bu ao b6 z2 z3=>?_).wp;exact cO ax bu ao b6 z2 z3
   | ret=>
     refine ⟨.ret,bw,aa,ar,⟨av.1,fun z=>by simp only [gO,aW.plain,Bool.and_eq_true] at z;exact av.2 z.1⟩,fun rd az E a w aF k s gj cO=>?_⟩;refine wpIn_seq (aK rd az E a w (aF.imp (fun h=>h) fun h=>by simp only [noMark,Bool.and_eq_true] at h;exact h.1) k s _ fun ax bu ao b6 z2 z3=>?_).wp;exact cO ax bu ao b6 z2 z3
 | cond c x y wP wQ=>
   intro r h Q a6 H;simp only [gO,gC] at H;cases bh:(rx c).aT r<;>rw [bh] at H<;>simp only at H<;>try (exact H.elim)
   rename_i t;have aD:∀E a,ku E au r a->a.eval c=.bool t:=by
    intro E a k;cases c with
    | tmp d=>
      simp only [rx] at bh;cases ae:Nat.ble d top with
      | false=>rw [ae] at bh;simp [aY.aT] at bh
      | true=>
        rw [ae] at bh;simp only [cond_true,aY.aT] at bh;have:=k.aq d (w9 (Nat.le_of_ble_eq_true ae));rw [bh] at this;simp only [Rel] at this;exact this
    | const v=>
      simp only [rx,aY.aT] at bh;have:=uH E v;rw [bh] at this;simp only [Rel] at this;exact this
    | func f=>
      simp only [rx] at bh;cases ae:Nat.beq f dC<;>rw [ae] at bh<;>simp [aY.aT] at bh
    | global g=>simp [rx,aY.aT] at bh
   cases t with
   | true=>
     obtain ⟨e,bw,aa,ar,av,aK⟩:=wP r h Q a6 (H.1 rfl);exact ⟨e,bw,aa,ar,⟨av.1,fun z=>by simp only [gO,aW.plain,Bool.and_eq_true] at z;exact av.2 z.1⟩,fun rd az E a w aF k s gj cO=>wpIn_cond_true (aD E a k) (aK rd az E a w (aF.imp (fun h=>h) fun h=>by simp only [noMark,Bool.and_eq_true] at h;exact h.1) k s gj cO).wp⟩
   | false=>
     obtain ⟨e,bw,aa,ar,av,aK⟩:=wQ r h Q a6 (H.2 rfl);exact ⟨e,bw,aa,ar,⟨av.1,fun z=>by simp only [gO,aW.plain,Bool.and_eq_true] at z;exact av.2 z.2⟩,fun rd az E a w aF k s gj cO=>wpIn_cond_false (aD E a k) (aK rd az E a w (aF.imp (fun h=>h) fun h=>by simp only [noMark,Bool.and_eq_true] at h;exact h.2) k s gj cO).wp⟩
 | block id x br=>
   intro r h Q a6 H;simp only [gO,gC] at H;obtain ⟨e,bw,aa,ar,av,aK⟩:=br r h _ a6 H;refine ⟨e.leave id,bw,aa,ar,av,fun rd az E a w aF k s gj cO=>?_⟩;refine wpIn_block (aK rd az E a w (aF.imp (fun h=>h) fun h=>h) k s _ fun ax bu ao b6 z2 z3=>?_).wp;cases e with
   | normal=>exact cO ax bu ao b6 z2 z3
   | ret=>exact cO ax bu ao b6 z2 z3
   | exit i=>
     have:=cO ax bu ao b6 z2 z3;simp only [toExit,Exit.inBlock];simp only [dm.leave] at this;by_cases an:i=id
     . rw [if_pos an] at this ⊢;exact this
     . rw [if_neg an] at this ⊢;exact this
 | loop x br=>
   intro r h Q a6 H;simp only [gO,gC] at H;obtain ⟨I,μ,sx,af1⟩:=H;have key:∀n r h,μ r h=n->I r h->Out au r->∃e bD ab,Q e bD ab/\(Out au bD/\((gO P au (.loop x)).plain=true->bD eS=r eS))/\Dr P au (.loop x) r h e bD ab:=by
    intro n
    induction n using Nat.strongRecOn with
    | _ n agN=>
      intro r h aV sx a6;obtain ⟨e,bw,aa,ar,av,aK⟩:=br r h _ a6 (af1 r h sx);have body:∀(rd:Option Nat) (az:Fr) E a w,(rd=none\/noMark x=true)->ku E au r a->bf az E h w->∀(b:Frame) (di:List Item) (cs:List Frame),b.roundOf=rd->∃bu ao ax,E.le ax/\ku ax au bw bu/\bf az ax aa ao/\ArrivesIn (Machine.fenced P (cA rd)) P (lone (b.atR a (.code x::.inLoop x::di)) cs w) b (.inLoop x::di) cs (toExit e) bu ao:=by intro rd az E a w aF k s b di cs l1;have:=(aK rd az E a w aF k s (fun cZ bu ao=>cZ=toExit e/\∃ax,E.le ax/\ku ax au bw bu/\bf az ax aa ao) (fun ax bu ao ar av aK=>⟨rfl,ax,ar,av,aK⟩)).wp b (.inLoop x::di) cs l1 trivial (MO _);obtain ⟨a',a2,b0,⟨rfl,cp,b6,z2,z3⟩,kg⟩:=this;exact ⟨a2,b0,cp,b6,z2,z3,kg⟩
      cases e with
      | normal=>
        obtain ⟨aeo,aO⟩:=ar;obtain ⟨a',cw,ad,bZ,bX,b_⟩:=agN (μ bw aa) (aV ▸ aO) bw aa rfl aeo av.1;refine ⟨a',cw,ad,bZ,⟨bX.1,fun z=>(bX.2 z).trans (av.2 z)⟩,fun rd az E a w aF k s gj cO b di cs l1=>?_⟩;obtain ⟨a2,b0,cp,b6,z2,z3,kg⟩:=body rd az E a w (aF.imp (fun h=>h) fun h=>h) k s b di cs l1;obtain ⟨cM,a3,im,e7,fJ⟩:=b_ rd az cp a2 b0 aF z2 z3 gj (fun oS a4 iF t1 t2 t3=>cO oS a4 iF (b6.trans t1) t2 t3) b di cs l1;exact ⟨cM,a3,im,e7,.of_steps (StepsIn.trans kg (.one (qZ _) stepR_inLoop)) fJ⟩
      | exit i=>
        refine ⟨.exit i,bw,aa,ar,av,fun rd az E a w aF k s gj cO b di cs l1=>?_⟩;obtain ⟨a2,b0,cp,b6,z2,z3,kg⟩:=body rd az E a w (aF.imp (fun h=>h) fun h=>h) k s b di cs l1;exact ⟨.exit i,a2,b0,cO cp a2 b0 b6 z2 z3,.pass (x:=.inLoop x) rfl (fun _ _=>.inl (by simp)) kg⟩
      | ret=>
        refine ⟨.ret,bw,aa,ar,av,fun rd az E a w aF k s gj cO b di cs l1=>?_⟩;obtain ⟨a2,b0,cp,b6,z2,z3,kg⟩:=body rd az E a w (aF.imp (fun h=>h) fun h=>h) k s b di cs l1;exact ⟨.ret,a2,b0,cO cp a2 b0 b6 z2 z3,.pass (x:=.inLoop x) rfl (fun _ _=>.inl (by simp)) kg⟩
   exact key _ r h rfl sx a6
 | scope x br=>
   intro r h Q a6 H;obtain ⟨e,bw,aa,ar,av,aK⟩:=br r h Q a6 H;refine ⟨e,bw,aa,ar,av,fun rd az E a w aF k s gj cO=>?_⟩;refine WE (aK rd az E a w (aF.imp (fun h=>h) fun h=>h) k s _ fun ax bu ao b6 z2 z3=>?_).wp;have:=cO ax bu ao b6 z2 z3;cases e<;>exact this
 | rangeFunc f bm x y _ _=>intro r h Q a6 H;exact amr hF dE bJ a6 H
 | goto l=>intro r h Q a6 H;exact H.elim
 | refuse aoD=>intro r h Q a6 H;exact H.elim
inductive vr where
 | t (n:Nat)
 | bP (n:Nat)
 | sj (n size:Nat)
 | bad
def nM (P:Program) (au:Nat):List ResultVar->List vr
 | []=>[]
 | .tmp t::rs=>(bif Nat.ble t top&&Nat.blt t au then .t t else .bad)::nM P au rs
 | .cell a t::rs=>(bif Nat.ble a top&&Nat.blt a au then (match a_ P t with
   | none=>.bad
   | some aS=>bif aS.agg then .sj a aS.size else bif Nat.beq aS.size 1 then .bP a else .bad) else .bad)::nM P au rs
def lo (r:bd) (h:ai):List vr->Option (List V)
 | []=>some []
 | x::xs=>match (match x with
   | .t n=>some (r n)
   | .bP n=>nE h (r n)
   | .sj n size=>nD size h (r n)
   | .bad=>none) with
   | none=>none
   | some v=>match lo r h xs with
     | none=>none
     | some ah=>some (v::ah)
theorem EH {r:bd} {h:ai} {ch:bI} (dz:eo ch=r):∀{l:List ResultVar} {ah:List V},lo r h (nM P au l)=some ah->(k' P au l).run ch h=some ah
 | [],ah,he=>by simpa [lo,nM,k'] using he
 | .tmp t::rs,ah,he=>by
   simp only [nM,lo] at he;unfold k';cases aD:(Nat.ble t top&&Nat.blt t au) with
   | false=>rw [aD] at he;simp at he
   | true=>
     rw [aD] at he;simp only [cond_true] at he ⊢;cases aF:lo r h (nM P au rs) with
     | none=>rw [aF] at he;cases he
     | some xG=>
       rw [aF] at he;rw [EH dz aF];have:=congrFun dz t;simp only [eo] at this;rw [this];exact he
 | .cell a t::rs,ah,he=>by
   simp only [nM,lo] at he;unfold k';cases aD:(Nat.ble a top&&Nat.blt a au) with
   | false=>rw [aD] at he;simp at he
   | true=>
     rw [aD] at he;simp only [cond_true] at he ⊢;have ri:=congrFun dz a;simp only [eo] at ri;rw [ri];unfold qo;cases aw:a_ P t with
     | none=>rw [aw] at he;simp at he
     | some aS=>
       rw [aw] at he;simp only at he ⊢;cases Sx:aS.agg with
       | true=>
         rw [Sx] at he;simp only [cond_true] at he ⊢;cases ay:nD aS.size h (r a) with
         | none=>rw [ay] at he;cases he
         | some v=>
           rw [ay] at he;simp only at he ⊢;cases aF:lo r h (nM P au rs) with
           | none=>rw [aF] at he;cases he
           | some xG=>rw [aF] at he;rw [EH dz aF];exact he
       | false=>
         rw [Sx] at he;simp only [cond_false] at he ⊢;cases aR:Nat.beq aS.size 1 with
         | false=>rw [aR] at he;simp at he
         | true=>
           rw [aR] at he;simp only [cond_true] at he ⊢;cases ay:nE h (r a) with
           | none=>rw [ay] at he;cases he
           | some v=>
             rw [ay] at he;simp only at he ⊢;cases aF:lo r h (nM P au rs) with
             | none=>rw [aF] at he;cases he
             | some xG=>rw [aF] at he;rw [EH dz aF];exact he
theorem Gt:∀(l:List V) (t:Nat),bd.bC l t=(l[t]?).getD .bad
 | [],t=>by simp [bd.bC]
 | v::ah,t=>by
   simp only [bd.bC];cases t with
   | zero=>simp
   | succ t=>simp [Gt ah t]
def dm.ends:dm->Prop
 | .exit _=>False
 | _=>True
def qn:List V->ai->Option ai
 | [],h=>some h
 | .ptr b _::ds,h=>(match h.get b with
   | .gd=>qn ds (h.set b .dead)
   | _=>none)
 | _::_,_=>none
theorem Uk {kS:vc}:∀{ds:List V} {h ad:ai},qn ds h=some ad->nC kS ds none h=.go none ad
 | [],h,ad,e=>by simp only [qn,Option.some.injEq] at e;subst e;rfl
 | d::ds,h,ad,e=>by
   cases d<;>simp only [qn] at e<;>try (cases e;done)
   rename_i b o;simp only [nC];cases aB:h.get b<;>rw [aB] at e<;>simp only at e<;>try (cases e;done)
   exact Uk e
theorem Rh (dE:P.follows .mixedOrders=true) (bJ:eT P) {f:FuncId} {fn:Func} {c:Code} {args:List V} {h:ai} {K:V->ai->Prop} (aA:P.funcs[f]? =some fn) (ae:fn.body=some c)
 (hF:Nat.ble fn.ntmps top=true) (aZ:Nat.beq f dC=false) (lS:Nat.ble args.length fn.ntmps=true) {rc:aW} {e5:List vr} (BP:gO P fn.ntmps c=rc) (wH:nM P fn.ntmps fn.results.toList=e5) {Q:dm->bd->ai->Prop} (H:gC P rc (bd.bC args) h Q)
 (cO:∀e r ab,(rc.plain=true->r eS=.bad)->Q e r ab->e.ends/\∃ad,qn (r eS).list ab=some ad/\∃ah,lo r ad e5=some ah/\K (oneOf ah) ad):db P f args h K:=by
 subst BP wH;rw [Nat.ble_eq] at hF lS;have a6:Out fn.ntmps (bd.bC args):=by intro t aw _;rw [Gt,List.getElem?_eq_none (by omega)];rfl
 have mD:(bd.bC args) eS=.bad:=by rw [Gt,List.getElem?_eq_none (by unfold eS;unfold top at hF;omega)];rfl
 obtain ⟨e,bD,ab,aC,sH,aeO⟩:=NH hF dE bJ c _ h _ a6 H;obtain ⟨gH,ad,afv,ah,agt,dQ⟩:=cO e bD ab (fun z=>(sH.2 z).trans mD) aC;have iS:f≠dC:=fun e=>by subst e;simp at aZ
 refine ⟨oneOf ah,ad,⟨iS,.inl ⟨⟨fn,aA,by rw [ae];rfl⟩,fun az E w xs ak s=>?_⟩⟩,dQ⟩;have hlen:=ak.length;have cr:xs.toArray.size<=fn.ntmps:=by simp;omega
 refine tJ.1 (callsIn_of_wp_marks (F:=cA none) (n:=0) aA ae trivial ?_);have k:ku E fn.ntmps (bd.bC args) {tmps:=xs.toArray++Array.replicate (fn.ntmps-xs.toArray.size) undef,defers:=[]}:=by
  refine ⟨by simp;omega,by rw [mD];simp [lK],fun t _=>?_⟩;rw [Gt];cases aB:args[t]? with
  | none=>simp [Rel]
  | some v=>
    obtain ⟨y,aZ,aF⟩:=ak.get t v aB;simp only [Option.getD_some];have FF:t<xs.length:=(List.getElem?_eq_some_iff.1 aZ).1;rw [Array.getD_eq_getD_getElem?,Array.getElem?_append_left (by simpa using FF)];simp only [List.getElem?_toArray,aZ,Option.getD_some];exact aF
 have lU:Dt P (fun _ _ _ _=>.fail):=fun f args u h gW ab he=>by cases he
 have fin:∀ax bu ao,E.le ax->ku ax fn.ntmps bD bu->bf az ax ab ao->LeavesInM (cA none) 0 P fn bu.tmps (fun e ao=>∃ax x,e=.returned x/\E.le ax/\Rel ax (oneOf ah) x/\bf az ax ad ao) bu.defers .returning ao:=by
  intro ax bu ao ar av aK;obtain ⟨ch,dz⟩:=EI sH.1;have bc:T.get .bad e_ ch=bD eS:=by have:=congrFun dz eS;simp only [eo] at this;exact this
  have aH:fL ax fn.ntmps ch bu:=⟨⟨av.size,fun t aw=>by have:=congrFun dz t;simp only [eo] at this;rw [this];exact av.aq t (w9 aw)⟩,by rw [bc];exact av.defers⟩;refine Jx (C:=⟨P,fun _=>none,fun _=>none⟩) (u:=none) bJ lU aH rfl aK ?_;rw [bc,Uk afv];simp only [finish];rw [EH dz agt];exact fun cp x b0 bZ bX b_=>⟨cp,x,rfl,ar.trans bZ,bX,b_⟩
 refine (aeO none az E _ w (.inl rfl) k s _ fun ax bu ao ar av aK=>?_).wp;have:=fin ax bu ao ar av aK;cases e with
 | normal=>exact this
 | ret=>exact this
 | exit i=>exact gH.elim
theorem Vy:∀(bm:List Nat) (ah:List V) (ch:bI),eo (s8 bm ah ch)=bd.uJ bm ah (eo ch)
 | p::bm,v::ah,ch=>by rw [s8,bd.uJ,Vy bm ah];congr 1;exact GL (some p) ch v
 | [],[],_=>rfl
 | [],_::_,_=>rfl
 | _::_,[],_=>rfl
theorem Vz:∀{bm:List Nat} {ah:List V} {r:bd},px au bm=true->Out au r->Out au (bd.uJ bm ah r)
 | p::bm,v::ah,r,ag,a6=>by simp only [px,List.all_cons,Bool.and_eq_true] at ag;exact Vz (r:=r.set (some p) v) ag.2 (a6.set (d:=some p) (by simp only [fa,Bool.and_eq_true];exact ag.1) v)
 | [],[],_,_,a6=>a6
 | [],_::_,_,_,a6=>a6
 | _::_,[],_,_,a6=>a6
theorem Wt {bm:List Nat} {ah:List V} {r:bd} (ag:px au bm=true) (a6:Out au r):Out au (oM bm ah r):=fun t aa ad=>by unfold oM;simp only [bd.set];rw [if_neg ad];exact Vz ag a6 t aa ad
theorem ao6 (hF:au<=top) (dE:P.follows .mixedOrders=true) (bJ:eT P) {l:lM} {r:bd} {bm:List Nat} {CX kL:aW} {xs:List V} {b:aQ} {h:ai} {K:V->ai->Prop} (F:DM P l au r bm CX kL) (aB:h.get b=.dF l) (aX:l.st=0) (hlen:xs.length=bm.length)
 (H:gC P CX (oM bm xs r) h fun e bw aa=>e=.normal/\aa.get b=.dF l/\gC P kL bw (aa.set b (.dF (l.go 1 l.ew))) fun e cw ad=>ad.get b=.dF (l.go 1 l.ew)/\(match e with
   | .normal=>K (.bool true) (ad.set b (.dF (l.go 0 none)))
   | e=>K (.bool false) (ad.set b (.dF (l.go 2 (some e)))))):DY P xs b h K:=by
 obtain ⟨ts,rW,Hw,Yj,Yk,Hx,Yl,Ym,N_⟩:=F;subst Yj Yk;obtain ⟨aP,bw,aa,⟨rfl,g1,cu⟩,c7,bP⟩:=NH hF dE bJ l.assign _ h _ (Wt Hx N_) H;obtain ⟨a',cw,ad,⟨g2,Yq⟩,dq,bY⟩:=NH hF dE bJ l.body _ _ _ c7.1 cu;obtain ⟨v,ab,gH,dQ⟩:∃v ab,xr b a' ad=.val v ab/\K v ab:=by unfold xr;rw [g2];cases a'<;>exact ⟨_,_,rfl,Yq⟩
 refine ⟨v,ab,fun az E w Ir p ay s ag=>?_,dQ⟩;have ae:=s.at ag;rw [aB] at ae;obtain ⟨p',o,gL,c_,bl,aF⟩:=ae;rw [ag] at gL;cases gL;obtain ⟨t1,t2,t3,t4,t5,t6,t7,t8⟩:=aF;have fF:=ay.length;have BL:o.params.size=Ir.length:=by rw [<-Array.length_toList,t3,Hw,<-hlen,fF]
 refine ⟨o.fn,(o.params.zip Ir.toArray).foldl (fun tmps (t,a)=>tmps.setIfInBounds t a) o.tmps,o.assign,o.body,?_,?_⟩
 . simp only [Instr.yield,Sem.run_bind,run_getLoop bl,Result.andThen_ok];rw [if_neg (by simp [BL])];rfl
 . rw [t4,t5];refine roundIn_of_wpIn (F:=cA none) trivial ?_;have iB:RegRel0 E l.au l.r ⟨o.tmps,[]⟩:=⟨t6,t7⟩;have aa3:px l.au o.params.toList=true:=by rw [t3,Hw,ts];exact Hx
   have bA:=V1 aa3 ay iB;have k:ku E au (oM bm xs r) ⟨(o.params.zip Ir.toArray).foldl (fun t (p:Nat × Value)=>t.setIfInBounds p.1 p.2) o.tmps,[]⟩:=by
    refine ⟨by rw [<-ts];exact bA.size,by unfold oM;simp [bd.set,lK],fun t aw=>?_⟩;by_cases agd:t<=top
    . have:=bA.aq t agd;rw [t3,Hw] at this;have e:=congrFun (Vy bm xs l.r) t;rw [rW] at e;unfold oM;simp only [bd.set];rw [if_neg aw,<-e];exact this
    . rw [Wt Hx N_ t (by omega) aw];simp [Rel]
   refine (bP (some p.aM) az E _ w (.inr Yl) k s (Exit.then (fun sb tm=>∃Df,(Instr.beginRound p.aM).run P tm=.ok () Df/\
    l.body.wpIn (cA (some p.aM)) 0 P (roundPost P p.aM fun e ao=>∃ax x,e=.returned x/\E.le ax/\Rel ax v x/\bf az ax ab ao) sb Df) (fun _ _ _=>False)) fun ez bW b2 ar av aK=>?_).wp
   have je:=ar _ _ ag;have kB:=aK.at je;rw [g1] at kB;obtain ⟨bZ,dr,BJ,q4,q9,sJ⟩:=kB;rw [je] at BJ;cases BJ;obtain ⟨e7,fJ,y3,y4,NI,y6,ao3,ao4⟩:=sJ;obtain ⟨b6,z2⟩:=aK.loop (P:=P) (dT:=l.go 1 l.ew) (ck:={dr with state:=.busy}) g1 je q4 q9 ⟨rfl,fJ,y3,y4,NI,y6,ao3,ao4⟩;refine ⟨{b2 with heap:=b2.heap.setIfInBounds p.aM (.loop {dr with state:=.busy})},?_,?_⟩
   . have BQ:dr.state=.ready:=by rw [e7,aX];rfl
     simp only [Instr.beginRound,Sem.run_bind,run_getLoop q9,Result.andThen_ok,b6,BQ,Sem.run_pure]
   . refine (bY (some p.aM) az ez _ _ (.inr Ym) av z2 _ fun cp a2 b0 bz ek pK=>?_).wp;exact Ws pK (bz _ _ je) gH fun x ao u3 z7=>⟨cp,x,rfl,ar.trans bz,u3,z7⟩
theorem acr (dE:P.follows .mixedOrders=true) (bJ:eT P) {f:FuncId} {fn:Func} {c:Code} {args:List V} {h:ai} {K:V->ai->Prop} (aA:P.funcs[f]? =some fn) (ae:fn.body=some c)
 (hF:Nat.ble fn.ntmps top=true) (aZ:Nat.beq f dC=false) (lS:Nat.ble args.length fn.ntmps=true) {rc:aW} {e5:List vr} (BP:gO P fn.ntmps c=rc) (wH:nM P fn.ntmps fn.results.toList=e5) (jw:rc.plain=true)
 (H:gC P rc (bd.bC args) h fun e r ab=>e.ends/\∃ah,lo r ab e5=some ah/\K (oneOf ah) ab):db P f args h K:=by
 refine Rh dE bJ aA ae hF aZ lS BP wH H fun e r ab aR ⟨aa,ah,ad,aJ⟩=>⟨aa,ab,?_,ah,ad,aJ⟩;rw [aR jw];rfl
theorem acs (dE:P.follows .mixedOrders=true) (bJ:eT P) {f:FuncId} {fn:Func} {c:Code} {args:List V} {h:ai} {K:V->ai->Prop} (aA:P.funcs[f]? =some fn) (ae:fn.body=some c)
 (hF:Nat.ble fn.ntmps top=true) (aZ:Nat.beq f dC=false) (lS:Nat.ble args.length fn.ntmps=true) {rc:aW} {e5:List vr} (BP:gO P fn.ntmps c=rc) (wH:nM P fn.ntmps fn.results.toList=e5)
 (H:gC P rc (bd.bC args) h fun e r ab=>e.ends/\∃ad,qn (r eS).list ab=some ad/\∃ah,lo r ad e5=some ah/\K (oneOf ah) ad):db P f args h K:=
 Rh dE bJ aA ae hF aZ lS BP wH H fun e r ab _ q=>q
end
end
section
open Go Go.RowKit
variable [Lay]
theorem rJ (i j:Nat):(aj i=aj j)=(i=j):=by apply propext;exact ⟨fu,fun h=>by rw [h]⟩
theorem ama (ah:List V):∀(i off:Nat) (x:V) (t:T V),i<off->T.put .bad x (aj i) (fI t off ah)=fI (T.put .bad x (aj i) t) off ah:=by
 induction ah with
 | nil=>intro i off x t _;rfl
 | cons v ah br=>
   intro i off x t h;simp only [fI];rw [br i (off+1) x _ (by omega),T.put_comm _ _ _ _ _ _ (fun e=>by rw [rJ] at e;omega)]
def h9 (ah:List V) (off:Nat) (ws:List V):List V:=ah.take off++ws++ah.drop (off+ws.length)
theorem V6:∀(ah:List V) (base i:Nat) (x:V) (t:T V),i<ah.length->T.put .bad x (aj (base+i)) (fI t base ah)=fI t base (ah.set i x)
 | [],_,i,_,_,h=>by simp at h
 | v::ah,base,i,x,t,h=>by
   cases i with
   | zero=>
     simp only [fI,Nat.add_zero,List.set];rw [ama ah base (base+1) x _ (by omega),T.V4]
   | succ i=>
     simp only [fI,List.set];have:=V6 ah (base+1) i x (T.put .bad v (aj base) t) (by simpa using h);rw [show base + (i+1)=base+1+i from by omega];exact this
theorem WJ (ah:List V) (off:Nat) (w:V) (ws:List V) (h:off<ah.length):h9 (ah.set off w) (off+1) ws=h9 ah off (w::ws):=by
 unfold h9;have aa:(ah.set off w).take (off+1)=ah.take off++[w]:=by rw [List.take_succ_eq_append_getElem (by simpa using h)];simp [List.take_set_of_le]
 have ad:(ah.set off w).drop (off+1+ws.length)=ah.drop (off + (w::ws).length):=by rw [List.drop_set_of_lt (by omega)];congr 1;simp;omega
 rw [aa,ad];simp
theorem rP (ah:List V) (off:Nat) (ws:List V) (h:off+ws.length<=ah.length):(h9 ah off ws).length=ah.length:=by unfold h9;simp;omega
theorem Mr:∀(ws ah:List V) (off:Nat),off+ws.length<=ah.length->fI (fI .e 0 ah) off ws=fI .e 0 (h9 ah off ws)
 | [],ah,off,h=>by simp [fI,h9]
 | w::ws,ah,off,h=>by simp only [List.length_cons] at h;simp only [fI];have aa:=V6 ah 0 off w .e (by omega);rw [Nat.zero_add] at aa;rw [aa,Mr ws (ah.set off w) (off+1) (by simp;omega),WJ ah off w ws (by omega)]
theorem EU (ah:List V):∀(off i:Nat) (t:T V),T.get .bad (aj (off+i)) (fI t off ah)=if i<ah.length then (ah[i]?).getD .bad else T.get .bad (aj (off+i)) t:=by
 induction ah with
 | nil=>intro off i t;simp [fI]
 | cons v ah br=>
   intro off i t;simp only [fI];cases i with
   | zero=>
     have:∀(ws:List V) (o:Nat) (s:T V),off<o->T.get .bad (aj off) (fI s o ws)=T.get .bad (aj off) s:=by
      intro ws
      induction ws with
      | nil=>intro o s _;rfl
      | cons w ws agO=>
        intro o s a6;simp only [fI];rw [agO (o+1) _ (by omega),T.iy,if_neg (fun e=>by rw [rJ] at e;omega)]
     rw [Nat.add_zero,this ah (off+1) _ (by omega),T.iy];simp
   | succ i=>
     have:=br (off+1) i (T.put .bad v (aj off) t);rw [show off+1+i=off + (i+1) from by omega] at this;rw [this,T.iy];have cl:¬aj off=aj (off + (i+1)):=fun e=>by rw [rJ] at e;omega
     rw [if_neg cl];simp
theorem EV (ah:List V):∀(n i:Nat),i+n<=ah.length->lp (fI .e 0 ah) i n=(ah.drop i).take n
 | 0,i,h=>by simp [lp]
 | n+1,i,h=>by simp only [lp];have aa:=EU ah 0 i .e;rw [Nat.zero_add] at aa;rw [aa,if_pos (by omega),EV ah n (i+1) (by omega)];have bc:ah.drop i=ah[i]::ah.drop (i+1):=List.drop_eq_getElem_cons (by omega);rw [bc,List.take_succ_cons];simp [List.getElem?_eq_getElem (by omega:i<ah.length)]
def cf.bC (ah:List V) (cE:Nat) (st:Bool):cf:=.cells ah.length (fI .e 0 ah) cE st
def cf.ro (ah:List V):cf:=.view ah.length (fI .e 0 ah)
def Rd (h:ai) (b:aQ) (ah:List V):Prop:=h.get b=.ro ah\/∃cE st,h.get b=.bC ah cE st
def Own (h:ai) (b:aQ) (ah:List V) (cE:Nat) (st:Bool):Prop:=h.get b=.bC ah cE st
theorem Rd.pG {α:Type} {h:ai} {b:aQ} {ah:List V} (H:Rd h b ah) (d:α) (f:Nat->T V->α):(h.get b).pG d f=f ah.length (fI .e 0 ah):=by rcases H with H | ⟨_,_,H⟩<;>rw [H]<;>rfl
theorem Own.lay {h:ai} {b:aQ} {ah:List V} {cE:Nat} {st:Bool} (H:Own h b ah cE st) {off:Nat} {ws:List V} (a6:off+ws.length<=ah.length) (aa:ev ws=true):
 lay h b off ws=some (h.set b (.bC (h9 ah off ws) cE st)):=by
 unfold a7.lay;rw [show h.get b=.cells ah.length (fI .e 0 ah) cE st from H];simp only [cf.on];rw [show Nat.ble (off+ws.length) ah.length=true from by rw [Nat.ble_eq];exact a6,aa];simp only [Bool.and_true,cond_true,Option.some.injEq,cf.bC];rw [rP ah off ws a6,Mr ws ah off a6]
theorem Own.store {h:ai} {b:aQ} {ah:List V} {cE:Nat} {st:Bool} (H:Own h b ah cE st) {off n:Nat} {y:V} (aV:y.cells.length=n) (a6:off+n<=ah.length) (aa:ev y.cells=true):
 pI n h (.ptr b off) y=some (h.set b (.bC (h9 ah off y.cells) cE st)):=by
 simp only [pI,V.jz];rw [show Nat.beq y.cells.length n=true from by rw [Nat.beq_eq];exact aV];simp only [cond_true];exact H.lay (by rw [aV];exact a6) aa
theorem US {h:ai} {ah:List V} (ay:ah.length<=top):gM h ah=some (h.new (.bC ah 0 false)):=by unfold gM;rw [show Nat.ble ah.length top=true from by rw [Nat.ble_eq];exact ay];rfl
theorem Cy {h:ai} {ah:List V} {cE:Nat} {st:Bool} (ay:ah.length<=top) (he:1<=cE):km h ah cE st=some (h.new (.bC ah cE st)):=by unfold km;rw [show Nat.ble ah.length top=true from by rw [Nat.ble_eq];exact ay,show Nat.ble 1 cE=true from by rw [Nat.ble_eq];exact he];rfl
theorem gN (h:ai) (k:cf):(h.new k).next=h.next+1:=rfl
theorem lC (h:ai) (b:aQ) (k:cf):(h.set b k).next=h.next:=rfl
section
variable {P:Program} {r:bd} {h:ai}
theorem am1 (r:bd) (d:Nat) (v:V) (t:Nat):bd.set r (some d) v t=if t=d then v else r t:=(rfl)
theorem am2 (r:bd) (v:V):bd.set r none v=r:=(rfl)
theorem an' (r:bd) (u:Nat) (us:List Nat) (t:Nat):bd.trim r (u::us) t=if t=u then r t else bd.trim r us t:=(rfl)
theorem ak3 (v:V) (ah:List V):bd.bC (v::ah) 0=v:=(rfl)
theorem ak4 (v:V) (ah:List V) (t:Nat):bd.bC (v::ah) (t+1)=bd.bC ah t:=by simp [bd.bC]
theorem ade (r:bd) (n:Nat):aY.aT r (.t n)=r n:=(rfl)
theorem adb (r:bd) (v:V):aY.aT r (.c v)=v:=(rfl)
theorem U9 {d:Option Nat} {g:G} {rs:List Nat} {K:bd->V->ai->Prop}:bH.wp P ⟨d,g,none,rs⟩ r h K=g.wp P (r.trim rs) h fun v ab=>K (r.set d v) v ab:=(rfl)
theorem U7 {d:Option Nat} {g:G} {j:Nat} {want:Bool} {rs:List Nat} {K:bd->V->ai->Prop}:bH.wp P ⟨d,g,some (j,want),rs⟩ r h K=
 gate (r.trim rs j) want (g.wp P (r.trim rs) h fun v ab=>K (r.set d v) v ab) (K (r.set d (.tuple [])) (.tuple []) h):=(rfl)
variable {K:V->ai->Prop}
theorem pY (k:IntKind):o4 k k=true:=by cases k<;>rfl
theorem oB (a b:Int):Int.leB a b=decide (a<=b):=oC a b
theorem EC (a b:Int):Int.gS a b=decide (a=b):=by rw [ln];rfl
variable (k:IntKind) (a b:Int)
theorem aha:(eG.int .add).run P (.int k a) (.int k b)=some (.int k (k.wrap (a+b))):=by simp [eG.run,l6,pj,V.eu,pY]
theorem aio:(eG.int .sub).run P (.int k a) (.int k b)=some (.int k (k.wrap (a-b))):=by simp [eG.run,l6,pj,V.eu,pY]
theorem ah4:(eG.int .mul).run P (.int k a) (.int k b)=some (.int k (k.wrap (a * b))):=by simp [eG.run,l6,pj,V.eu,pY]
theorem ahy:(eG.int .eql).run P (.int k a) (.int k b)=some (.bool (decide (a=b))):=by simp [eG.run,l6,nA,V.eu,pY,EC]
theorem ah7:(eG.int .neq).run P (.int k a) (.int k b)=some (.bool (!decide (a=b))):=by simp [eG.run,l6,nA,V.eu,pY,EC]
theorem ahY:(eG.int .lss).run P (.int k a) (.int k b)=some (.bool (decide (a<b))):=by simp [eG.run,l6,nA,V.eu,pY,oB];rw [Bool.eq_iff_iff];simp
theorem ahT:(eG.int .leq).run P (.int k a) (.int k b)=some (.bool (decide (a<=b))):=by simp [eG.run,l6,nA,V.eu,pY,oB]
theorem ahH:(eG.int .gtr).run P (.int k a) (.int k b)=some (.bool (decide (b<a))):=by simp [eG.run,l6,nA,V.eu,pY,oB];rw [Bool.eq_iff_iff];simp
theorem ahG:(eG.int .geq).run P (.int k a) (.int k b)=some (.bool (decide (b<=a))):=by simp [eG.run,l6,nA,V.eu,pY,oB]
theorem ahd (x y:Bool):(eG.yq false).run P (.bool x) (.bool y)=some (.bool (x == y)):=by simp [eG.run,jS,Bd,qU]
theorem ahh (x y:Bool):(eG.yq true).run P (.bool x) (.bool y)=some (.bool (!(x == y))):=by simp [eG.run,jS,Bd,qU]
theorem aoj (x:Bool):rS .not (.bool x)=some (.bool (!x)):=(rfl)
theorem aoi:rS .neg (.int k a)=some (.int k (k.wrap (0-a))):=(rfl)
theorem wrap_i64 {n:Int} (aa:-9223372036854775808<=n) (ad:n<=9223372036854775807):IntKind.i64.wrap n=n:=by exact Go.IntWalk.i64_in n ⟨aa,ad⟩
end
section
variable {P:Program} {r:bd} {h:ai} {Q:dm->bd->ai->Prop}
theorem abD {ops:List bH}:gC P (.aq ops) r h Q=tl P ops r h (Q .normal):=(rfl)
theorem abE {a b:aW}:gC P (.seq a b) r h Q=gC P a r h fun e bD ab=>e.andThen (gC P b bD ab Q) (Q e bD ab):=(rfl)
theorem anY {A B:Prop}:dm.andThen .normal A B=A:=(rfl)
theorem anZ {A B:Prop}:dm.andThen .ret A B=B:=(rfl)
theorem anX {A B:Prop} {i:Nat}:dm.andThen (.exit i) A B=B:=(rfl)
theorem ajP {id:Nat}:dm.leave id .normal=.normal:=(rfl)
theorem ajQ {id:Nat}:dm.leave id .ret=.ret:=(rfl)
theorem ajO {id i:Nat}:dm.leave id (.exit i)=if i=id then .normal else .exit i:=(rfl)
end
def xK {α:Type} (o:Option α) (k:α->Prop):Prop:=
 match o with
 | some v=>k v
 | none=>False
@[congr] theorem ara {α:Type} {o ck:Option α} {k:α->Prop} (h:o=ck):xK o k=xK ck k:=by rw [h]
def V.opt (c:Bool) (v:V):V:=bif c then v else .tuple []
theorem alx (v:V):V.opt true v=v:=(rfl)
theorem alu (v:V):V.opt false v=.tuple []:=(rfl)
@[congr] theorem aqS {c fX:Bool} {v c9:V} (h:c=fX) (bh:fX=true->v=c9):V.opt c v=V.opt fX c9:=by
 subst h;cases c with
 | true=>rw [bh rfl]
 | false=>rfl
def V.bif (t:Bool) (a b:V):V:=bif t then a else b
theorem aot (a b:V):V.bif true a b=a:=(rfl)
theorem aos (a b:V):V.bif false a b=b:=(rfl)
theorem Z' (t a b:Bool):V.bif t (.bool a) (.bool b)=.bool (bif t then a else b):=by cases t<;>rfl
theorem Z_ (t:Bool) (k:IntKind) (a b:Int):V.bif t (.int k a) (.int k b)=.int k (if t=true then a else b):=by cases t<;>rfl
theorem aab (t x:Bool):(bif t then true else x)=(t||x):=by cases t<;>rfl
theorem Z9 (t x:Bool):(bif t then x else false)=(t&&x):=by cases t<;>rfl
@[congr] theorem apw {t u1:Bool} {a bu b bL:V} (h:t=u1) (a1:u1=true->a=bu) (ae:u1=false->b=bL):V.bif t a b=V.bif u1 bu bL:=by
 subst h;cases t with
 | true=>rw [V.bif,V.bif,a1 rfl];rfl
 | false=>rw [V.bif,V.bif,ae rfl];rfl
def e9 (c:Bool) (A:Prop):Prop:=c=true->A
@[congr] theorem apg {c fX:Bool} {A jH:Prop} (h:c=fX) (a1:fX=true->A=jH):e9 c A=e9 fX jH:=by subst h;exact propext ⟨fun q e=>(a1 e) ▸ q e,fun q e=>(a1 e) ▸ q e⟩
theorem Yr (c:Bool):e9 c True=True:=propext ⟨fun _=>trivial,fun _ _=>trivial⟩
theorem Yt (A:Prop):e9 true A=A:=propext ⟨fun q=>q rfl,fun q _=>q⟩
theorem Ys (A:Prop):e9 false A=True:=propext ⟨fun _=>trivial,fun _ e=>by cases e⟩
def took (v:V) (want:Bool):Bool:=
 match v with
 | .bool b=>b == want
 | _=>false
theorem an7 (b w:Bool):took (.bool b) w=(b == w):=(rfl)
theorem an9 (ah:List V) (w:Bool):took (.tuple ah) w=false:=(rfl)
theorem an8 (c:Bool) (v:V) (w:Bool):took (.opt c v) w=(c&&took v w):=by cases c<;>rfl
def fw (v:V):Prop:=
 match v with
 | .bool _=>True
 | .tuple _=>True
 | _=>False
theorem ag2 (b:Bool):fw (.bool b)=True:=(rfl)
theorem ag4 (ah:List V):fw (.tuple ah)=True:=(rfl)
theorem ag3 (c b:Bool):fw (.opt c (.bool b))=True:=by cases c<;>rfl
def G.pk:G->Bool
 | .b1 _ | .pick .. | .build .. | .d_ _ | .iV .. | .h8 _ | .bin .. | .un .. | .fn .. | .Cv .. | .D8 .. | .sS .. | .rO .. | .fU .. | .eJ .. | .vU .. | .vV .. | .ct .. | .l3 .. | .mH .. | .kl .. | .look .. | .ext .. | .uD _ | .ei _ | .tK _ | .ry .. | .looks .. | .peq .. =>true
 | .kz (.int _) _=>true
 | .len .map _=>false
 | .len _ _=>true
 | _=>false
def V.s6 {α:Type} (v:V) (d:α) (f:List V->α):α:=
 match v with
 | .agg cs=>f cs
 | _=>d
def V.CH {α:Type} (v:V) (d:α) (f:List V->α):α:=
 match v with
 | .tuple cs=>f cs
 | _=>d
def CR (c a b:V):Option V:=
 match c with
 | .bool t=>some (V.bif t a b)
 | _=>none
theorem alN (t:Bool) (a b:V):CR (.bool t) a b=some (V.bif t a b):=(rfl)
def hh (n:Nat) (x:V) (bB an m3:Option V):Option V:=
 match x with
 | .bF=>xv bB an m3
 | .slice b off j2 cap=>tb n b off j2 cap bB an m3
 | .dY b off j2 idx=>qB n b off j2 idx bB an m3
 | .hY b off j8 idx=>C2 b off j8 idx bB an m3
 | _=>none
def G.mf (P:Program) (g:G) (r:bd) (h:ai):Option V:=
 match g with
 | .b1 x=>some (x.aT r)
 | .pick c a b=>CR (c.aT r) (a.aT r) (b.aT r)
 | .build z bm=>(match js z (kU r bm) with
   | some cs=>some (.agg cs)
   | none=>none)
 | .d_ x=>nE h (x.aT r)
 | .iV n x=>nD n h (x.aT r)
 | .h8 x=>uE (x.aT r)
 | .bin k x y=>k.run P (x.aT r) (y.aT r)
 | .un op x=>rS op (x.aT r)
 | .kz (.int k) x=>(x.aT r).eu none fun _ n=>some (.int k (k.wrap n))
 | .fn f e4=>some (.func f (aY.gg r e4))
 | .Cv f first=>some (.oF f (aY.gg r first))
 | .D8 t z ok x=>AR t z ok (x.aT r)
 | .sS t x=>some (.iface t (x.aT r))
 | .rO x bB an m3=>mS (x.aT r) (aY.opt r bB) (aY.opt r an) (aY.opt r m3)
 | .fU n x bB an m3=>hh n (x.aT r) (aY.opt r bB) (aY.opt r an) (aY.opt r m3)
 | .eJ off x=>(x.aT r).jz none fun b o=>some (.ptr b (o+off))
 | .vU off x=>(x.aT r).s6 none fun cs=>cs[off]?
 | .vV off n x=>(x.aT r).s6 none fun cs=>some (.agg ((cs.drop off).take n))
 | .ct n x i=>(wR n).run (x.aT r) (i.aT r)
 | .l3 n s x i=>(sU n s).run (x.aT r) (i.aT r)
 | .mH x i=>sW.run (x.aT r) (i.aT r)
 | .kl t x i=>(sV P t).run (x.aT r) (i.aT r)
 | .look k z ok x i=>rz k.eq z ok h (x.aT r) (i.aT r)
 | .ext x i=>(x.aT r).CH none fun ah=>ah[i]?
 | .len (.arr n) _=>some (.int .i64 n)
 | .len .str x=>(pq .string).run (x.aT r)
 | .len .slice x=>(pq (.slice 0)).run (x.aT r)
 | .uD args=>k6 (fun b a=>!Int.leB a b) (aY.gg r args)
 | .ei args=>k6 (fun b a=>!Int.leB b a) (aY.gg r args)
 | .tK x=>sh (x.aT r)
 | .ry z ok x i=>jx ⟨ht h⟩ z ok h (x.aT r) (i.aT r)
 | .looks k z ok x i=>bif nB P k (i.aT r) then jx (structEq P k) z ok h (x.aT r) (i.aT r) else none
 | .peq neg x y=>uP neg h (x.aT r) (y.aT r)
 | _=>none
section
variable {P:Program} {r:bd} {h:ai}
theorem pure_run {g:G} (ag:g.pk=true) (call:dU):g.run P call r h=a8.of h (g.mf P r h):=by
 cases g<;>simp only [G.pk] at ag<;>try (cases ag;done)
 all_goals simp only [G.run,G.mf]
 case b1 x=>rfl
 case pick c a b=>
  generalize c.aT r=q;cases q<;>rfl
 case build z bm=>
  generalize js z (kU r bm)=q;cases q<;>rfl
 case kz k x=>
  cases k<;>simp only at ag<;>try (cases ag;done)
  simp only [tq.run];generalize x.aT r=q;cases q<;>rfl
 case fn f e4=>rfl
 case Cv f first=>rfl
 case sS t x=>rfl
 case fU n x bB an m3=>
  unfold hh;generalize x.aT r=q;cases q<;>rfl
 case vU off x=>
  generalize x.aT r=q;cases q<;>rfl
 case vV off n x=>
  generalize x.aT r=q;cases q<;>rfl
 case ext x i=>
  generalize x.aT r=q;cases q<;>rfl
 case len k x=>
  cases k<;>simp only at ag<;>first | rfl | (cases ag;done)
theorem Sb {g:G} (ag:g.pk=true) {K:V->ai->Prop}:g.wp P r h K=xK (g.mf P r h) fun v=>K v h:=by
 have e:g.wp P r h K=∃v ab,g.run P lD r h=.val v ab/\K v ab:=by cases g<;>first | rfl | (simp [G.pk] at ag;done)
 rw [e,pure_run ag];apply propext;cases bh:g.mf P r h with
 | none=>exact ⟨fun ⟨v,ab,q,_⟩=>(by cases q),fun q=>q.elim⟩
 | some v=>
   constructor
   . rintro ⟨v1,aa,q,k⟩;simp only [a8.of,a8.val.injEq] at q;obtain ⟨rfl,rfl⟩:=q;exact k
   . intro k;exact ⟨v,h,rfl,k⟩
theorem U' {d:Option Nat} {g:G} {rs:List Nat} {K:bd->V->ai->Prop} (ag:g.pk=true):bH.wp P ⟨d,g,none,rs⟩ r h K=xK (g.mf P (r.trim rs) h) fun v=>K (r.set d v) v h:=by rw [U9,Sb ag]
theorem U8 {d:Option Nat} {g:G} {j:Nat} {want:Bool} {rs:List Nat} {K:bd->V->ai->Prop} (ag:g.pk=true):bH.wp P ⟨d,g,some (j,want),rs⟩ r h K=
 (fw (r.trim rs j)/\e9 (took (r.trim rs j) want) ((g.mf P (r.trim rs) h).isSome=true)/\
   K (r.set d (V.opt (took (r.trim rs j) want) ((g.mf P (r.trim rs) h).getD .bad))) (V.opt (took (r.trim rs j) want) ((g.mf P (r.trim rs) h).getD .bad)) h):=by
 rw [U7,Sb ag];generalize r.trim rs j=q;generalize g.mf P (r.trim rs) h=o;apply propext;cases q<;>simp only [gate,fw,took,false_and,true_and]
 case bool b=>
  cases b<;>cases want<;>cases o<;>simp [xK,e9,V.opt]
 case tuple ah=>simp [e9,V.opt]
@[congr] theorem are {os:List bH} {r bD:bd} {h ab:ai} {K:bd->ai->Prop} (aP:r=bD) (a':h=ab):tl P os r h K=tl P os bD ab K:=by rw [aP,a']
@[congr] theorem arc {os:List bH} {r bD:bd} {h ab:ai} {K:List gQ->bd->ai->Prop} (aP:r=bD) (a':h=ab):lH P os r h K=lH P os bD ab K:=by rw [aP,a']
@[congr] theorem apc {o:bH} {r bD:bd} {h ab:ai} {K:bd->V->ai->Prop} (aP:r=bD) (a':h=ab):o.wp P r h K=o.wp P bD ab K:=by rw [aP,a']
@[congr] theorem ape {g:G} {r bD:bd} {h ab:ai} {K:V->ai->Prop} (aP:r=bD) (a':h=ab):g.wp P r h K=g.wp P bD ab K:=by rw [aP,a']
@[congr] theorem arb {c:aW} {r bD:bd} {h ab:ai} {Q:dm->bd->ai->Prop} (aP:r=bD) (a':h=ab):gC P c r h Q=gC P c bD ab Q:=by rw [aP,a']
@[congr] theorem ao_ {f:FuncId} {a bu:List V} {h ab:ai} {K:V->ai->Prop} (aP:a=bu) (a':h=ab):db P f a h K=db P f bu ab K:=by rw [aP,a']
def hd (k:cf) (off:Nat):Option V:=k.pG none fun n cs=>bif Nat.blt off n then some (T.get .bad (aj off) cs) else none
def oA (n:Nat) (k:cf) (off:Nat):Option V:=k.pG none fun m cs=>bif Nat.ble (off+n) m then some (.agg (lp cs off n)) else none
theorem aka (b:aQ) (off:Nat):nE h (.ptr b off)=hd (h.get b) off:=(rfl)
theorem akc (n:Nat) (b:aQ) (off:Nat):nD n h (.ptr b off)=oA n (h.get b) off:=(rfl)
theorem Uf {ah:List V} {off:Nat}:(bif Nat.blt off ah.length then some (T.get .bad (aj off) (fI .e 0 ah)) else none)=ah[off]? :=by
 have:=EU ah 0 off .e;rw [Nat.zero_add] at this;rw [this];by_cases a6:off<ah.length
 . rw [show Nat.blt off ah.length=true from by rw [Nat.blt_eq];exact a6,if_pos a6];simp [List.getElem?_eq_getElem a6]
 . rw [show Nat.blt off ah.length=false from by rw [<-Bool.not_eq_true,Nat.blt_eq];exact a6];rw [List.getElem?_eq_none (by omega)];rfl
theorem Ud (ah:List V) (cE:Nat) (st:Bool) (off:Nat):hd (.bC ah cE st) off=ah[off]? :=Uf
theorem Ue (ah:List V) (off:Nat):hd (.ro ah) off=ah[off]? :=Uf
theorem Uj {ah:List V} {off n:Nat}:(bif Nat.ble (off+n) ah.length then some (V.agg (lp (fI .e 0 ah) off n)) else none)=if off+n<=ah.length then some (.agg ((ah.drop off).take n)) else none:=by
 by_cases a6:off+n<=ah.length
 . rw [show Nat.ble (off+n) ah.length=true from by rw [Nat.ble_eq];exact a6,if_pos a6,EV ah n off a6];rfl
 . rw [show Nat.ble (off+n) ah.length=false from by rw [<-Bool.not_eq_true,Nat.ble_eq];exact a6,if_neg a6];rfl
theorem Lv (n:Nat) (ah:List V) (cE:Nat) (st:Bool) (off:Nat):oA n (.bC ah cE st) off=if off+n<=ah.length then some (.agg ((ah.drop off).take n)) else none:=Uj
theorem Ui (n:Nat) (ah:List V) (off:Nat):oA n (.ro ah) off=if off+n<=ah.length then some (.agg ((ah.drop off).take n)) else none:=Uj
theorem Rd.d_ {b:aQ} {ah:List V} (H:Rd h b ah) (off:Nat):hd (h.get b) off=ah[off]? :=by
 rcases H with H | ⟨_,_,H⟩<;>rw [H]
 . exact Ue ah off
 . exact Ud ah _ _ off
theorem Rd.iV {b:aQ} {ah:List V} (H:Rd h b ah) (n off:Nat):oA n (h.get b) off=if off+n<=ah.length then some (.agg ((ah.drop off).take n)) else none:=by
 rcases H with H | ⟨_,_,H⟩<;>rw [H]
 . exact Ui n ah off
 . exact Lv n ah _ _ off
def over:List V->List V->List V
 | ah,[]=>ah
 | [],_::_=>[]
 | _::ah,w::ws=>w::over ah ws
def nP:List V->Nat->List V->List V
 | ah,0,ws=>over ah ws
 | [],_+1,_=>[]
 | v::ah,n+1,ws=>v::nP ah n ws
theorem Vw:∀(ah ws:List V),ws.length<=ah.length->over ah ws=ws++ah.drop ws.length
 | ah,[],_=>by cases ah<;>rfl
 | [],_::_,h=>by simp at h
 | v::ah,w::ws,h=>by simp only [over,List.cons_append,List.length_cons,List.drop_succ_cons];rw [Vw ah ws (by simpa using h)]
theorem zW:∀(ah:List V) (off:Nat) (ws:List V),off+ws.length<=ah.length->nP ah off ws=h9 ah off ws
 | ah,0,ws,h=>by cases ah<;>simp only [nP,h9,List.take_zero,List.nil_append,Nat.zero_add]<;>exact Vw _ ws (by omega)
 | [],n+1,ws,h=>by simp at h
 | v::ah,n+1,ws,h=>by simp only [List.length_cons] at h;simp only [nP,h9];rw [zW ah n ws (by omega)];simp only [h9,List.take_succ_cons,List.cons_append];rw [show n+1+ws.length=n+ws.length+1 from by omega,List.drop_succ_cons]
theorem M0 (ah:List V) (off:Nat) (ws:List V) (h:off+ws.length<=ah.length):(nP ah off ws).length=ah.length:=by rw [zW ah off ws h,rP ah off ws h]
def oz (n:Nat) (h:ai) (b:aQ) (off:Nat) (y:V) (k:cf):Option ai:=
 bif Nat.beq y.cells.length n then k.on none fun m cs cE st=>
  bif Nat.ble (off+y.cells.length) m&&ev y.cells then some (h.set b (.cells m (fI cs off y.cells) cE st)) else none else none
theorem anD (n:Nat) (b:aQ) (off:Nat) (y:V):pI n h (.ptr b off) y=oz n h b off y (h.get b):=(rfl)
theorem Lt {n:Nat} {b:aQ} {off:Nat} {y:V} {ah:List V} {cE:Nat} {st:Bool} (aa:y.cells.length=n) (ad:ev y.cells=true) (aJ:off+n<=ah.length):
 oz n h b off y (.bC ah cE st)=some (h.set b (.bC (nP ah off y.cells) cE st)):=by
 unfold oz;rw [show Nat.beq y.cells.length n=true from by rw [Nat.beq_eq];exact aa];simp only [cond_true,cf.bC,cf.on];rw [show Nat.ble (off+y.cells.length) ah.length=true from by rw [Nat.ble_eq,aa];exact aJ,ad];simp only [Bool.and_true,cond_true,Option.some.injEq];rw [M0 ah off _ (by rw [aa];exact aJ),zW ah off _ (by rw [aa];exact aJ),Mr _ ah off (by rw [aa];exact aJ)]
theorem ni (k:cf):(h.new k).get (aj h.next)=k:=by rw [ai.iM,if_pos rfl]
theorem iM (b:aQ) (k:cf):(h.new k).get b=if aj h.next=b then k else h.get b:=ai.iM h b k
theorem dy (b bL:aQ) (k:cf):(h.set b k).get bL=if b=bL then k else h.get bL:=ai.dy h b bL k
def Old (h:ai) (b:aQ):Prop:=cI b<h.next
theorem CG {b:aQ} {i:Nat} (ae:Old h b) (an:h.next<=i):(aj i=b)=False:=by
 apply propext;constructor
 . intro e;unfold Old at ae;rw [<-e,cc] at ae;omega
 . exact False.elim
theorem Vh {k:cf}:Old (h.new k) (aj h.next):=by unfold Old;rw [cc];exact Nat.lt_succ_self _
def EJ (off:Nat) (x:V):Option V:=x.jz none fun b o=>some (.ptr b (o+off))
theorem adj (off:Nat) (b:aQ) (o:Nat):EJ off (.ptr b o)=some (.ptr b (o+off)):=(rfl)
theorem ak_ {α:Type} (ah:List V) (d:α) (f:List V->α):V.CH (.tuple ah) d f=f ah:=(rfl)
theorem ak' {α:Type} (ah:List V) (d:α) (f:List V->α):V.s6 (.agg ah) d f=f ah:=(rfl)
def lA (x:V):Option V:=(pq (.slice 0)).run x
theorem ajW (b:aQ) (off n c:Nat):lA (.slice b off n c)=some (.int .i64 n):=(rfl)
theorem ajU (b:aQ) (off n c:Nat):lA (.dY b off n c)=some (.int .i64 n):=(rfl)
theorem ajX (b:aQ) (off n c:Nat):lA (.hY b off n c)=some (.int .i64 0):=(rfl)
theorem ajV:lA .bF=some (.int .i64 0):=(rfl)
def F2 (x:V):Option V:=(pq .string).run x
theorem ajY (s:List UInt8):F2 (.str s)=some (.int .i64 s.length):=(rfl)
def iT (n:Nat) (x i:V):Option V:=(wR n).run x i
theorem wO (n:Nat) (b:aQ) (off len cap:Nat) (k:IntKind) (i:Int):iT n (.slice b off len cap) (.int k i)=if 0<=i/\i<len then some (.ptr b (off+i.toNat * n)) else none:=by simp only [iT,wR,V.eu,uq,oB];by_cases aa:0<=i<;>by_cases ad:(len:Int)<=i<;>simp [aa,ad]<;>omega
theorem B6 (n:Nat) (b:aQ) (off len cap:Nat) (k:IntKind) (i:Int):iT n (.dY b off len cap) (.int k i)=if 0<=i/\i<len then some (.ptr b (off+i.toNat * n)) else none:=by simp only [iT,wR,V.eu,uq,oB];by_cases aa:0<=i<;>by_cases ad:(len:Int)<=i<;>simp [aa,ad]<;>omega
def Ev (k:IntKind) (x:V):Option V:=x.eu none fun _ n=>some (.int k (k.wrap n))
theorem acu (k bj:IntKind) (n:Int):Ev k (.int bj n)=some (.int k (k.wrap n)):=(rfl)
end
structure i_ where
 all:List bH
 asks:List (Nat × List Nat)
 es:List gQ
def jB (D:Option i_) (r:bd) (h:ai) (v:V):Option i_:=
 match D with
 | none=>none
 | some d=>some ⟨d.all,d.asks,d.es++[⟨r,h,v⟩]⟩
inductive ia where
 | os (D:Option i_) (os:List bH)
 | c (b:aW)
 | aM (id:Nat)
section
variable (P:Program)
def vA (D:Option i_) (es:List gQ) (aA:ai):Prop:=
 match D with
 | none=>True
 | some d=>pT P d.all (d.es++es) aA d.asks
def bo:List ia->dm->bd->ai->(dm->bd->ai->Prop)->Prop
 | [],e,r,h,Q=>Q e r h
 | .os D os::aI,e,r,h,Q=>match e with
   | .normal=>lH P os r h fun es bD ab=>vA P D es ab/\bo aI .normal bD ab Q
   | e=>bo aI e r h Q
 | .c b::aI,e,r,h,Q=>match e with
   | .normal=>gC P b r h fun e bD ab=>bo aI e bD ab Q
   | e=>bo aI e r h Q
 | .aM id::aI,e,r,h,Q=>bo aI (e.leave id) r h Q
def dj (o:Option V) (d:Option Nat) (D:Option i_) (os:List bH) (aI:List ia) (r:bd) (h:ai) (Q:dm->bd->ai->Prop):Prop:=
 xK o fun v=>bo P (.os (jB D r h v) os::aI) .normal (r.set d v) h Q
def hO (o:a8) (d:Option Nat) (D:Option i_) (os:List bH) (aI:List ia) (r:bd) (aX:ai) (Q:dm->bd->ai->Prop):Prop:=
 match o with
 | .val v h=>bo P (.os (jB D r aX v) os::aI) .normal (r.set d v) h Q
 | _=>False
def ft (v:V) (want:Bool) (d:Option Nat) (g:G) (rs:List Nat) (D:Option i_) (os:List bH) (aI:List ia) (r:bd) (h:ai) (Q:dm->bd->ai->Prop):Prop:=
 gate v want (bo P (.os D (⟨d,g,none,rs⟩::os)::aI) .normal r h Q) (bo P (.os (jB D r h (.tuple [])) os::aI) .normal (r.set d (.tuple [])) h Q)
def yd (v:V) (a b:aW) (aI:List ia) (r:bd) (h:ai) (Q:dm->bd->ai->Prop):Prop:=
 match v with
 | .bool t=>(t=true->bo P (.c a::aI) .normal r h Q)/\(t=false->bo P (.c b::aI) .normal r h Q)
 | _=>False
def pV (f:FuncId) (args:List V) (d:Option Nat) (D:Option i_) (os:List bH) (aI:List ia) (r:bd) (h:ai) (Q:dm->bd->ai->Prop):Prop:=
 db P f args h fun v ab=>bo P (.os (jB D r h v) os::aI) .normal (r.set d v) ab Q
def Di (xs:List V) (d:Option Nat) (D:Option i_) (os:List bH) (aI:List ia) (r:bd) (h:ai) (Q:dm->bd->ai->Prop):Prop:=
 OT P xs h fun v ab=>bo P (.os (jB D r h v) os::aI) .normal (r.set d v) ab Q
def I1 (g:FuncId) (xs:List V) (d:Option Nat) (D:Option i_) (os:List bH) (aI:List ia) (r:bd) (h:ai) (Q:dm->bd->ai->Prop):Prop:=
 if g=4294967296 then Di P xs d D os aI r h Q else pV P g xs d D os aI r h Q
def vI (f:V) (args:List V) (d:Option Nat) (D:Option i_) (os:List bH) (aI:List ia) (r:bd) (h:ai) (Q:dm->bd->ai->Prop):Prop:=
 ∃g xs,f.target args=some (g,xs)/\I1 P g xs d D os aI r h Q
def zq (b:aW) (aI:List ia) (r:bd) (h:ai) (Q:dm->bd->ai->Prop):Prop:=gC P (.loop b) r h fun e bD ab=>bo P aI e bD ab Q
end
section
variable {P:Program} {r:bd} {h:ai} {Q:dm->bd->ai->Prop} {aI:List ia} {os:List bH} {D:Option i_}
theorem al7 (r:bd) (h:ai) (v:V):jB none r h v=none:=(rfl)
theorem al8 (all:List bH) (asks:List (Nat × List Nat)) (es:List gQ) (r:bd) (h:ai) (v:V):jB (some ⟨all,asks,es⟩) r h v=some ⟨all,asks,es++[⟨r,h,v⟩]⟩:=(rfl)
theorem dB {c:aW} (H:bo P [.c c] .normal r h Q):gC P c r h Q:=H
theorem ah9 {e:dm}:bo P [] e r h Q=Q e r h:=(rfl)
theorem ahf {e:dm} {id:Nat}:bo P (.aM id::aI) e r h Q=bo P aI (e.leave id) r h Q:=(rfl)
theorem aij {a b:aW}:bo P (.c (.seq a b)::aI) .normal r h Q=bo P (.c a::.c b::aI) .normal r h Q:=by simp only [bo];rw [abE];congr 1;funext e bD ab;cases e<;>rfl
theorem ahg {id:Nat} {b:aW}:bo P (.c (.block id b)::aI) .normal r h Q=bo P (.c b::.aM id::aI) .normal r h Q:=(rfl)
theorem XY:∀(os:List bH) (r:bd) (h:ai) (K:bd->ai->Prop),lH P os r h (fun _ r h=>K r h)=tl P os r h K
 | [],_,_,_=>rfl
 | o::os,r,h,K=>by simp only [lH,tl];congr 1;funext bD v ab;exact XY os bD ab K
theorem aie {ops:List bH}:bo P (.c (.aq ops)::aI) .normal r h Q=bo P (.os none ops::aI) .normal r h Q:=by simp only [bo,vA,true_and];rw [XY,abD]
theorem aik:bo P (.c .skip::aI) .normal r h Q=bo P aI .normal r h Q:=(rfl)
theorem aif:bo P (.c .ret::aI) .normal r h Q=bo P aI .ret r h Q:=(rfl)
theorem ahA {i:Nat}:bo P (.c (.exit i)::aI) .normal r h Q=bo P aI (.exit i) r h Q:=(rfl)
theorem ahq {b:aW}:bo P (.c b::aI) .ret r h Q=bo P aI .ret r h Q:=(rfl)
theorem ahn {b:aW} {i:Nat}:bo P (.c b::aI) (.exit i) r h Q=bo P aI (.exit i) r h Q:=(rfl)
theorem aho {c:aY} {a b:aW}:bo P (.c (.cond c a b)::aI) .normal r h Q=yd P (c.aT r) a b aI r h Q:=by simp only [bo,gC];cases c.aT r<;>rfl
theorem amp {f:aY} {bm:List Nat} {au:Nat} {a b:aW} {g:FuncId} {cs:List V} (bh:f.aT r=.func g cs) (aB:g≠dC) (ae:∃fn,P.funcs[g]? =some fn/\fn.body.isSome=true)
 (H:∀l,DM P l au r bm a b->l.st=0->l.ew=none->db P g (.func dC [.ptr (aj (h.next+1)) 0]::cs) ((h.new .gd).new (.dF l)) fun _ ab=>
   ∃dT,ab.get (aj (h.next+1))=.dF dT/\dT.st≠1/\bo P aI (dT.ew.getD .normal) (r.set (some eS) (.tuple (.ptr (aj h.next) 0::(r eS).list))) (ab.set (aj (h.next+1)) .dead) Q):
 bo P (.c (.range f bm au a b)::aI) .normal r h Q:=by
 simp only [bo,gC];exact ⟨g,cs,bh,aB,ae,H⟩
theorem ahX {b:aW}:bo P (.c (.loop b)::aI) .normal r h Q=zq P b aI r h Q:=(rfl)
theorem ahw {ops:List bH} {asks:List (Nat × List Nat)}:bo P (.c (.draw ops asks)::aI) .normal r h Q=bo P (.os (some ⟨ops,asks,[]⟩) ops::aI) .normal r h Q:=(rfl)
theorem aib:bo P (.os none []::aI) .normal r h Q=bo P aI .normal r h Q:=by simp only [bo,lH,vA,true_and]
theorem ahv {all:List bH} {asks:List (Nat × List Nat)} {es:List gQ}:bo P (.os (some ⟨all,asks,es⟩) []::aI) .normal r h Q=(pT P all es h asks/\bo P aI .normal r h Q):=by simp only [bo,lH,vA,List.append_nil]
theorem x9 (D:Option i_) (r:bd) (h:ai) (v:V) (es:List gQ) (aA:ai):vA P (jB D r h v) es aA=vA P D (⟨r,h,v⟩::es) aA:=by
 cases D with
 | none=>rfl
 | some d=>simp only [jB,vA,List.append_assoc,List.cons_append,List.nil_append]
theorem hc {d:Option Nat} {g:G} {rs:List Nat} (ag:g.pk=true):bo P (.os D (⟨d,g,none,rs⟩::os)::aI) .normal r h Q=dj P (g.mf P (r.trim rs) h) d D os aI r h Q:=by simp only [bo,lH,dj];rw [U' ag];simp only [x9]
theorem hb {d:Option Nat} {g:G} {j:Nat} {want:Bool} {rs:List Nat} (ag:g.pk=true):bo P (.os D (⟨d,g,some (j,want),rs⟩::os)::aI) .normal r h Q=
 (fw (r.trim rs j)/\e9 (took (r.trim rs j) want) ((g.mf P (r.trim rs) h).isSome=true)/\
   dj P (some (V.opt (took (r.trim rs j) want) ((g.mf P (r.trim rs) h).getD .bad))) d D os aI r h Q):=by
 simp only [bo,lH,dj,xK];rw [U8 ag];simp only [x9]
def G.TT:G->Bool
 | .call .. | .o2 .. =>true
 | _=>false
theorem iU {d:Option Nat} {g:G} {rs:List Nat} (ag:g.pk=false) (aD:g.TT=false):bo P (.os D (⟨d,g,none,rs⟩::os)::aI) .normal r h Q=hO P (g.run P lD (r.trim rs) h) d D os aI r h Q:=by
 simp only [bo,lH];rw [U9];have e:∀K:V->ai->Prop,g.wp P (r.trim rs) h K=∃v ab,g.run P lD (r.trim rs) h=.val v ab/\K v ab:=by intro K;cases g<;>first | rfl | (simp [G.TT] at aD;done)
 rw [e];unfold hO;simp only [bo,x9];cases g.run P lD (r.trim rs) h with
 | fail=>exact propext ⟨fun ⟨v,ab,q,_⟩=>(by cases q),fun q=>q.elim⟩
 | cT v1 aa=>exact propext ⟨fun ⟨v,ab,q,_⟩=>(by cases q),fun q=>q.elim⟩
 | val v1 aa=>
   apply propext;constructor
   . rintro ⟨v,ab,q,k⟩;simp only [a8.val.injEq] at q;obtain ⟨rfl,rfl⟩:=q;exact k
   . intro k;exact ⟨_,_,rfl,k⟩
theorem ih {d:Option Nat} {g:G} {j:Nat} {want:Bool} {rs:List Nat} (ag:g.pk=false):bo P (.os D (⟨d,g,some (j,want),rs⟩::os)::aI) .normal r h Q=ft P (r.trim rs j) want d g rs D os aI r h Q:=by simp only [ft,bo,lH,x9];rw [U7];rfl
theorem TZ {d:Option Nat} {f:FuncId} {args:List aY} {rs:List Nat}:bo P (.os D (⟨d,.call f args,none,rs⟩::os)::aI) .normal r h Q=pV P f (aY.gg (r.trim rs) args) d D os aI r h Q:=by simp only [pV,bo,lH,x9];rfl
theorem ahl {d:Option Nat} {f:aY} {args:List aY} {rs:List Nat}:bo P (.os D (⟨d,.o2 f args,none,rs⟩::os)::aI) .normal r h Q=vI P (f.aT (r.trim rs)) (aY.gg (r.trim rs) args) d D os aI r h Q:=by simp only [vI,I1,Di,pV,bo,lH,x9];rfl
theorem Q1 {f:V} {g:FuncId} {xs args:List V} {d:Option Nat} (aA:f.target args=some (g,xs)):vI P f args d D os aI r h Q=I1 P g xs d D os aI r h Q:=by
 apply propext;constructor
 . rintro ⟨cH,ari,q,k⟩;rw [aA] at q;simp only [Option.some.injEq,Prod.mk.injEq] at q;obtain ⟨rfl,rfl⟩:=q;exact k
 . intro k;exact ⟨_,_,aA,k⟩
theorem abJ {g:FuncId} {cs args:List V} {d:Option Nat}:vI P (.func g cs) args d D os aI r h Q=if g=4294967296 then Di P (args++cs) d D os aI r h Q else pV P g (args++cs) d D os aI r h Q:=Q1 rfl
theorem I2 {g:FuncId} {cs args:List V} {d:Option Nat}:vI P (.oF g cs) args d D os aI r h Q=if g=4294967296 then Di P (cs++args) d D os aI r h Q else pV P g (cs++args) d D os aI r h Q:=Q1 rfl
@[congr] theorem aq1 {o ck:Option V} {d:Option Nat} (e:o=ck):dj P o d D os aI r h Q=dj P ck d D os aI r h Q:=by rw [e]
@[congr] theorem aq0 {o ck:a8} {d:Option Nat} (e:o=ck):hO P o d D os aI r h Q=hO P ck d D os aI r h Q:=by rw [e]
@[congr] theorem apE {v c9:V} {a b:aW} (e:v=c9):yd P v a b aI r h Q=yd P c9 a b aI r h Q:=by rw [e]
@[congr] theorem apO {v c9:V} {want:Bool} {d:Option Nat} {g:G} {rs:List Nat} (e:v=c9):ft P v want d g rs D os aI r h Q=ft P c9 want d g rs D os aI r h Q:=by rw [e]
@[congr] theorem apC {f kV:V} {args AQ:List V} {d:Option Nat} (aP:f=kV) (a':args=AQ):vI P f args d D os aI r h Q=vI P kV AQ d D os aI r h Q:=by rw [aP,a']
@[congr] theorem apB {f:FuncId} {args AQ:List V} {d:Option Nat} (a':args=AQ):pV P f args d D os aI r h Q=pV P f AQ d D os aI r h Q:=by rw [a']
@[congr] theorem ard {e cZ:dm} {bD:bd} {ab:ai} (c0:e=cZ) (aP:r=bD) (a':h=ab):bo P aI e r h Q=bo P aI cZ bD ab Q:=by rw [c0,aP,a']
@[congr] theorem aqt {b:aW} {bD:bd} {ab:ai} (aP:r=bD) (a':h=ab):zq P b aI r h Q=zq P b aI bD ab Q:=by rw [aP,a']
theorem anI {v:V} {d:Option Nat}:dj P (some v) d D os aI r h Q=bo P (.os (jB D r h v) os::aI) .normal (r.set d v) h Q:=(rfl)
theorem ank {v:V} {ab:ai} {d:Option Nat}:hO P (.val v ab) d D os aI r h Q=bo P (.os (jB D r h v) os::aI) .normal (r.set d v) ab Q:=(rfl)
theorem Q' {t:Bool} {a b:aW}:yd P (.bool t) a b aI r h Q=((t=true->bo P (.c a::aI) .normal r h Q)/\(t=false->bo P (.c b::aI) .normal r h Q)):=(rfl)
theorem Sd {b:Bool} {d:Option Nat} {g:G} {rs:List Nat}:ft P (.bool b) true d g rs D os aI r h Q=((b=true->bo P (.os D (⟨d,g,none,rs⟩::os)::aI) .normal r h Q)/\(b=false->bo P (.os (jB D r h (.tuple [])) os::aI) .normal (r.set d (.tuple [])) h Q)):=(rfl)
theorem Sc {b:Bool} {d:Option Nat} {g:G} {rs:List Nat}:ft P (.bool b) false d g rs D os aI r h Q=((b=false->bo P (.os D (⟨d,g,none,rs⟩::os)::aI) .normal r h Q)/\(b=true->bo P (.os (jB D r h (.tuple [])) os::aI) .normal (r.set d (.tuple [])) h Q)):=(rfl)
theorem adS {ah:List V} {want:Bool} {d:Option Nat} {g:G} {rs:List Nat}:ft P (.tuple ah) want d g rs D os aI r h Q=bo P (.os (jB D r h (.tuple [])) os::aI) .normal (r.set d (.tuple [])) h Q:=(rfl)
theorem adM {c b:Bool} {want:Bool} {d:Option Nat} {f:FuncId} {args:List aY} {rs:List Nat} (v:V)
 (bh:(c&&(b == want))=true->gv P f (aY.gg (r.trim rs) args) h v h)
 (H:bo P (.os (jB D r h (V.opt (c&&(b == want)) v)) os::aI) .normal (r.set d (V.opt (c&&(b == want)) v)) h Q):ft P (V.opt c (.bool b)) want d (.call f args) rs D os aI r h Q:=by
 unfold ft;rw [TZ];cases c with
 | false=>exact H
 | true=>
   simp only [V.opt,cond_true,Bool.true_and] at bh H ⊢;cases b<;>cases want<;>simp only [gate]
   . exact ⟨fun _=>⟨v,h,bh rfl,H⟩,fun e=>by cases e⟩
   . exact ⟨fun e=>(by cases e),fun _=>H⟩
   . exact ⟨fun e=>(by cases e),fun _=>H⟩
   . exact ⟨fun _=>⟨v,h,bh rfl,H⟩,fun e=>by cases e⟩
def qt (v:V) (o:Option ai):a8:=hr v o
theorem aly (v:V) (ab:ai):qt v (some ab)=.val v ab:=(rfl)
def Py (b:Bool) (o:a8):a8:=bif b then o else .fail
theorem aal (o:a8):Py true o=o:=(rfl)
def Ee (n:Nat) (h:ai) (o:Option (List V)):a8:=
 match o with
 | some cs=>qt (.slice (aj h.next) 0 n n) (gM h cs)
 | none=>.fail
theorem aam (n:Nat) (cs:List V):Ee n h (some cs)=qt (.slice (aj h.next) 0 n n) (gM h cs):=(rfl)
theorem amO {n size:Nat} {z:List V} {bm:List (Nat × Nat × aY)}:(G.iw n size z bm).run P lD r h=Ee n h (js (hM z n) (kU r bm)):=by
 simp only [G.run];cases js (hM z n) (kU r bm) with
 | none=>rfl
 | some cs=>
   simp only [Ee,qt,hr];cases gM h cs<;>rfl
theorem adp (cells:List V):js cells []=some cells:=(rfl)
theorem adn {cells:List V} {off size:Nat} {v:V} {rest:List (Nat × Nat × V)} (aa:v.fY=true) (ad:v.cells.length=size) (aJ:off+size<=cells.length):
 js cells ((off,size,v)::rest)=js (nP cells off v.cells) rest:=by
 simp only [js];rw [aa,show Nat.beq v.cells.length size=true from by rw [Nat.beq_eq];exact ad,show Nat.ble (off+v.cells.length) cells.length=true from by rw [Nat.ble_eq,ad];exact aJ];simp only [Bool.and_true,cond_true];congr 1;have eJ:∀(ws cs:List V) (o:Nat),o+ws.length<=cs.length->so cs o ws=h9 cs o ws:=by
  intro ws
  induction ws with
  | nil=>intro cs o _;simp [so,h9]
  | cons w ws br=>
    intro cs o a6;simp only [List.length_cons] at a6;simp only [so];rw [br (cs.set o w) (o+1) (by simp;omega),WJ cs o w ws (by omega)]
 rw [eJ _ _ _ (by rw [ad];exact aJ),zW _ _ _ (by rw [ad];exact aJ)]
def Eg (o:Option (List V)):Option V:=
 match o with
 | some cs=>some (.agg cs)
 | none=>none
theorem aao (cs:List V):Eg (some cs)=some (.agg cs):=(rfl)
theorem ada:kU r []=[]:=(rfl)
theorem ac_ {o s:Nat} {x:aY} {bm:List (Nat × Nat × aY)}:kU r ((o,s,x)::bm)=(o,s,x.aT r)::kU r bm:=(rfl)
def r' (P:Program) (o:bH) (e:gQ) (H:ai):Prop:=o.wp P e.r H fun _ c9 _=>c9=e.v
theorem ZU {ops:List bH} {es:List gQ} {aA:ai}:pT P ops es aA []=True:=(rfl)
theorem ZT {ops:List bH} {es:List gQ} {aA:ai} {p:Nat} {fV:List Nat} {rest:List (Nat × List Nat)}:pT P ops es aA ((p,fV)::rest)=(r_ P ops[p]? es[p]? es aA fV/\pT P ops es aA rest):=(rfl)
theorem ZQ {o:Option bH} {e:Option gQ} {es:List gQ} {aA:ai}:r_ P o e es aA []=True:=(rfl)
theorem ZN {o:bH} {e:gQ} {es:List gQ} {aA:ai} {s:Nat} {fV:List Nat}:r_ P (some o) (some e) es aA (s::fV)=(r' P o e (yM es aA s)/\r_ P (some o) (some e) es aA fV):=(rfl)
def J9 (o:Option gQ) (aA:ai):ai:=
 match o with
 | some e=>e.h
 | none=>aA
theorem aeY (es:List gQ) (aA:ai) (s:Nat):yM es aA s=J9 es[s]? aA:=(rfl)
theorem ae0 (e:gQ) (aA:ai):J9 (some e) aA=e.h:=(rfl)
theorem aeZ (aA:ai):J9 none aA=aA:=(rfl)
theorem Pa {d:Option Nat} {g:G} {rs:List Nat} {e:gQ} {H:ai} (ag:g.pk=true):r' P ⟨d,g,none,rs⟩ e H=(g.mf P (e.r.trim rs) H=some e.v):=by
 unfold r';rw [U' ag];apply propext;cases g.mf P (e.r.trim rs) H with
 | none=>exact ⟨fun q=>q.elim,fun q=>(by cases q)⟩
 | some v=>exact ⟨fun q=>by rw [show v=e.v from q],fun q=>by cases q;rfl⟩
theorem O_ {d:Option Nat} {g:G} {j:Nat} {want:Bool} {rs:List Nat} {e:gQ} {H:ai} (ag:g.pk=true):r' P ⟨d,g,some (j,want),rs⟩ e H=
 (fw (e.r.trim rs j)/\e9 (took (e.r.trim rs j) want) ((g.mf P (e.r.trim rs) H).isSome=true)/\V.opt (took (e.r.trim rs j) want) ((g.mf P (e.r.trim rs) H).getD .bad)=e.v):=by
 unfold r';rw [U8 ag]
theorem ZO {d:Option Nat} {x:aY} {rs:List Nat} {e:gQ} {H:ai}:r' P ⟨d,.d_ x,none,rs⟩ e H=(nE H (x.aT (e.r.trim rs))=some e.v):=Pa rfl
theorem ZP {d:Option Nat} {n:Nat} {x:aY} {rs:List Nat} {e:gQ} {H:ai}:r' P ⟨d,.iV n x,none,rs⟩ e H=(nD n H (x.aT (e.r.trim rs))=some e.v):=Pa rfl
theorem ZR {d:Option Nat} {x:aY} {j:Nat} {want:Bool} {rs:List Nat} {e:gQ} {H:ai}:r' P ⟨d,.d_ x,some (j,want),rs⟩ e H=
 (fw (e.r.trim rs j)/\e9 (took (e.r.trim rs j) want) ((nE H (x.aT (e.r.trim rs))).isSome=true)/\V.opt (took (e.r.trim rs j) want) ((nE H (x.aT (e.r.trim rs))).getD .bad)=e.v):=O_ rfl
theorem ZS {d:Option Nat} {n:Nat} {x:aY} {j:Nat} {want:Bool} {rs:List Nat} {e:gQ} {H:ai}:r' P ⟨d,.iV n x,some (j,want),rs⟩ e H=
 (fw (e.r.trim rs j)/\e9 (took (e.r.trim rs j) want) ((nD n H (x.aT (e.r.trim rs))).isSome=true)/\V.opt (took (e.r.trim rs j) want) ((nD n H (x.aT (e.r.trim rs))).getD .bad)=e.v):=O_ rfl
end
def GU (x:V) (h:ai):a8:=
 match x with
 | .str s=>.val (.ptr (aj h.next) 0) (h.new (.iter s 0))
 | _=>.fail
theorem amG (s:List UInt8) (h:ai):GU (.str s) h=.val (.ptr (aj h.next) 0) (h.new (.iter s 0)):=(rfl)
section
variable {P:Program} {r:bd} {h:ai} {Q:dm->bd->ai->Prop} {aI:List ia} {os:List bH} {D:Option i_} {d:Option Nat} {rs:List Nat}
theorem ah5 {x:aY}:bo P (.os D (⟨d,(.b1 x),none,rs⟩::os)::aI) .normal r h Q=dj P (some (x.aT (r.trim rs))) d D os aI r h Q:=hc rfl
theorem ai' {x:aY} {j:Nat} {want:Bool}:bo P (.os D (⟨d,(.b1 x),some (j,want),rs⟩::os)::aI) .normal r h Q=(fw (r.trim rs j)/\e9 (took (r.trim rs j) want) ((some (x.aT (r.trim rs))).isSome=true)/\dj P (some (V.opt (took (r.trim rs j) want) ((some (x.aT (r.trim rs))).getD .bad))) d D os aI r h Q):=hb rfl
theorem aid {c a b:aY}:bo P (.os D (⟨d,(.pick c a b),none,rs⟩::os)::aI) .normal r h Q=dj P (CR (c.aT (r.trim rs)) (a.aT (r.trim rs)) (b.aT (r.trim rs))) d D os aI r h Q:=hc rfl
theorem ajf {c a b:aY} {j:Nat} {want:Bool}:bo P (.os D (⟨d,(.pick c a b),some (j,want),rs⟩::os)::aI) .normal r h Q=(fw (r.trim rs j)/\e9 (took (r.trim rs j) want) ((CR (c.aT (r.trim rs)) (a.aT (r.trim rs)) (b.aT (r.trim rs))).isSome=true)/\dj P (some (V.opt (took (r.trim rs j) want) ((CR (c.aT (r.trim rs)) (a.aT (r.trim rs)) (b.aT (r.trim rs))).getD .bad))) d D os aI r h Q):=hb rfl
theorem ahk {z:List V} {bm:List (Nat × Nat × aY)}:bo P (.os D (⟨d,(.build z bm),none,rs⟩::os)::aI) .normal r h Q=dj P (Eg (js z (kU (r.trim rs) bm))) d D os aI r h Q:=hc rfl
theorem aiB {z:List V} {bm:List (Nat × Nat × aY)} {j:Nat} {want:Bool}:bo P (.os D (⟨d,(.build z bm),some (j,want),rs⟩::os)::aI) .normal r h Q=(fw (r.trim rs j)/\e9 (took (r.trim rs j) want) ((Eg (js z (kU (r.trim rs) bm))).isSome=true)/\dj P (some (V.opt (took (r.trim rs j) want) ((Eg (js z (kU (r.trim rs) bm))).getD .bad))) d D os aI r h Q):=hb rfl
theorem ahN {x:aY}:bo P (.os D (⟨d,(.d_ x),none,rs⟩::os)::aI) .normal r h Q=dj P (nE h (x.aT (r.trim rs))) d D os aI r h Q:=hc rfl
theorem aiW {x:aY} {j:Nat} {want:Bool}:bo P (.os D (⟨d,(.d_ x),some (j,want),rs⟩::os)::aI) .normal r h Q=(fw (r.trim rs j)/\e9 (took (r.trim rs j) want) ((nE h (x.aT (r.trim rs))).isSome=true)/\dj P (some (V.opt (took (r.trim rs j) want) ((nE h (x.aT (r.trim rs))).getD .bad))) d D os aI r h Q):=hb rfl
theorem ahO {n:Nat} {x:aY}:bo P (.os D (⟨d,(.iV n x),none,rs⟩::os)::aI) .normal r h Q=dj P (nD n h (x.aT (r.trim rs))) d D os aI r h Q:=hc rfl
theorem aiX {n:Nat} {x:aY} {j:Nat} {want:Bool}:bo P (.os D (⟨d,(.iV n x),some (j,want),rs⟩::os)::aI) .normal r h Q=(fw (r.trim rs j)/\e9 (took (r.trim rs j) want) ((nD n h (x.aT (r.trim rs))).isSome=true)/\dj P (some (V.opt (took (r.trim rs j) want) ((nD n h (x.aT (r.trim rs))).getD .bad))) d D os aI r h Q):=hb rfl
theorem ah' {x:aY}:bo P (.os D (⟨d,(.h8 x),none,rs⟩::os)::aI) .normal r h Q=dj P (uE (x.aT (r.trim rs))) d D os aI r h Q:=hc rfl
theorem ajb {x:aY} {j:Nat} {want:Bool}:bo P (.os D (⟨d,(.h8 x),some (j,want),rs⟩::os)::aI) .normal r h Q=(fw (r.trim rs j)/\e9 (took (r.trim rs j) want) ((uE (x.aT (r.trim rs))).isSome=true)/\dj P (some (V.opt (took (r.trim rs j) want) ((uE (x.aT (r.trim rs))).getD .bad))) d D os aI r h Q):=hb rfl
theorem ahe {k:eG} {x y:aY}:bo P (.os D (⟨d,(.bin k x y),none,rs⟩::os)::aI) .normal r h Q=dj P (k.run P (x.aT (r.trim rs)) (y.aT (r.trim rs))) d D os aI r h Q:=hc rfl
theorem aiy {k:eG} {x y:aY} {j:Nat} {want:Bool}:bo P (.os D (⟨d,(.bin k x y),some (j,want),rs⟩::os)::aI) .normal r h Q=(fw (r.trim rs j)/\e9 (took (r.trim rs j) want) ((k.run P (x.aT (r.trim rs)) (y.aT (r.trim rs))).isSome=true)/\dj P (some (V.opt (took (r.trim rs j) want) ((k.run P (x.aT (r.trim rs)) (y.aT (r.trim rs))).getD .bad))) d D os aI r h Q):=hb rfl
theorem aip {o:UnOp} {x:aY}:bo P (.os D (⟨d,(.un o x),none,rs⟩::os)::aI) .normal r h Q=dj P (rS o (x.aT (r.trim rs))) d D os aI r h Q:=hc rfl
theorem ajl {o:UnOp} {x:aY} {j:Nat} {want:Bool}:bo P (.os D (⟨d,(.un o x),some (j,want),rs⟩::os)::aI) .normal r h Q=(fw (r.trim rs j)/\e9 (took (r.trim rs j) want) ((rS o (x.aT (r.trim rs))).isSome=true)/\dj P (some (V.opt (took (r.trim rs j) want) ((rS o (x.aT (r.trim rs))).getD .bad))) d D os aI r h Q):=hb rfl
theorem ahF {f:FuncId} {cs:List aY}:bo P (.os D (⟨d,(.fn f cs),none,rs⟩::os)::aI) .normal r h Q=dj P (some (V.func f (aY.gg (r.trim rs) cs))) d D os aI r h Q:=hc rfl
theorem aiQ {f:FuncId} {cs:List aY} {j:Nat} {want:Bool}:bo P (.os D (⟨d,(.fn f cs),some (j,want),rs⟩::os)::aI) .normal r h Q=(fw (r.trim rs j)/\e9 (took (r.trim rs j) want) ((some (V.func f (aY.gg (r.trim rs) cs))).isSome=true)/\dj P (some (V.opt (took (r.trim rs j) want) ((some (V.func f (aY.gg (r.trim rs) cs))).getD .bad))) d D os aI r h Q):=hb rfl
theorem ahK {t:TypeId} {x:aY}:bo P (.os D (⟨d,(.sS t x),none,rs⟩::os)::aI) .normal r h Q=dj P (some (V.iface t (x.aT (r.trim rs)))) d D os aI r h Q:=hc rfl
theorem aiT {t:TypeId} {x:aY} {j:Nat} {want:Bool}:bo P (.os D (⟨d,(.sS t x),some (j,want),rs⟩::os)::aI) .normal r h Q=(fw (r.trim rs j)/\e9 (took (r.trim rs j) want) ((some (V.iface t (x.aT (r.trim rs)))).isSome=true)/\dj P (some (V.opt (took (r.trim rs j) want) ((some (V.iface t (x.aT (r.trim rs)))).getD .bad))) d D os aI r h Q):=hb rfl
theorem aim {x:aY} {bB an m3:Option aY}:bo P (.os D (⟨d,(.rO x bB an m3),none,rs⟩::os)::aI) .normal r h Q=dj P (mS (x.aT (r.trim rs)) (aY.opt (r.trim rs) bB) (aY.opt (r.trim rs) an) (aY.opt (r.trim rs) m3)) d D os aI r h Q:=hc rfl
theorem ajj {x:aY} {bB an m3:Option aY} {j:Nat} {want:Bool}:bo P (.os D (⟨d,(.rO x bB an m3),some (j,want),rs⟩::os)::aI) .normal r h Q=(fw (r.trim rs j)/\e9 (took (r.trim rs j) want) ((mS (x.aT (r.trim rs)) (aY.opt (r.trim rs) bB) (aY.opt (r.trim rs) an) (aY.opt (r.trim rs) m3)).isSome=true)/\dj P (some (V.opt (took (r.trim rs j) want) ((mS (x.aT (r.trim rs)) (aY.opt (r.trim rs) bB) (aY.opt (r.trim rs) an) (aY.opt (r.trim rs) m3)).getD .bad))) d D os aI r h Q):=hb rfl
theorem ail {n:Nat} {x:aY} {bB an m3:Option aY}:bo P (.os D (⟨d,(.fU n x bB an m3),none,rs⟩::os)::aI) .normal r h Q=dj P (hh n (x.aT (r.trim rs)) (aY.opt (r.trim rs) bB) (aY.opt (r.trim rs) an) (aY.opt (r.trim rs) m3)) d D os aI r h Q:=hc rfl
theorem aji {n:Nat} {x:aY} {bB an m3:Option aY} {j:Nat} {want:Bool}:bo P (.os D (⟨d,(.fU n x bB an m3),some (j,want),rs⟩::os)::aI) .normal r h Q=(fw (r.trim rs j)/\e9 (took (r.trim rs j) want) ((hh n (x.aT (r.trim rs)) (aY.opt (r.trim rs) bB) (aY.opt (r.trim rs) an) (aY.opt (r.trim rs) m3)).isSome=true)/\dj P (some (V.opt (took (r.trim rs j) want) ((hh n (x.aT (r.trim rs)) (aY.opt (r.trim rs) bB) (aY.opt (r.trim rs) an) (aY.opt (r.trim rs) m3)).getD .bad))) d D os aI r h Q):=hb rfl
theorem ahC {o:Nat} {x:aY}:bo P (.os D (⟨d,(.eJ o x),none,rs⟩::os)::aI) .normal r h Q=dj P (EJ o (x.aT (r.trim rs))) d D os aI r h Q:=hc rfl
theorem aiN {o:Nat} {x:aY} {j:Nat} {want:Bool}:bo P (.os D (⟨d,(.eJ o x),some (j,want),rs⟩::os)::aI) .normal r h Q=(fw (r.trim rs j)/\e9 (took (r.trim rs j) want) ((EJ o (x.aT (r.trim rs))).isSome=true)/\dj P (some (V.opt (took (r.trim rs j) want) ((EJ o (x.aT (r.trim rs))).getD .bad))) d D os aI r h Q):=hb rfl
theorem ahD {o:Nat} {x:aY}:bo P (.os D (⟨d,(.vU o x),none,rs⟩::os)::aI) .normal r h Q=dj P ((x.aT (r.trim rs)).s6 none fun cs=>cs[o]?) d D os aI r h Q:=hc rfl
theorem aiO {o:Nat} {x:aY} {j:Nat} {want:Bool}:bo P (.os D (⟨d,(.vU o x),some (j,want),rs⟩::os)::aI) .normal r h Q=(fw (r.trim rs j)/\e9 (took (r.trim rs j) want) (((x.aT (r.trim rs)).s6 none fun cs=>cs[o]?).isSome=true)/\dj P (some (V.opt (took (r.trim rs j) want) (((x.aT (r.trim rs)).s6 none fun cs=>cs[o]?).getD .bad))) d D os aI r h Q):=hb rfl
theorem ahE {o n:Nat} {x:aY}:bo P (.os D (⟨d,(.vV o n x),none,rs⟩::os)::aI) .normal r h Q=dj P ((x.aT (r.trim rs)).s6 none fun cs=>some (V.agg ((cs.drop o).take n))) d D os aI r h Q:=hc rfl
theorem aiP {o n:Nat} {x:aY} {j:Nat} {want:Bool}:bo P (.os D (⟨d,(.vV o n x),some (j,want),rs⟩::os)::aI) .normal r h Q=(fw (r.trim rs j)/\e9 (took (r.trim rs j) want) (((x.aT (r.trim rs)).s6 none fun cs=>some (V.agg ((cs.drop o).take n))).isSome=true)/\dj P (some (V.opt (took (r.trim rs j) want) (((x.aT (r.trim rs)).s6 none fun cs=>some (V.agg ((cs.drop o).take n))).getD .bad))) d D os aI r h Q):=hb rfl
theorem ahI {n:Nat} {x i:aY}:bo P (.os D (⟨d,(.ct n x i),none,rs⟩::os)::aI) .normal r h Q=dj P (iT n (x.aT (r.trim rs)) (i.aT (r.trim rs))) d D os aI r h Q:=hc rfl
theorem aiR {n:Nat} {x i:aY} {j:Nat} {want:Bool}:bo P (.os D (⟨d,(.ct n x i),some (j,want),rs⟩::os)::aI) .normal r h Q=(fw (r.trim rs j)/\e9 (took (r.trim rs j) want) ((iT n (x.aT (r.trim rs)) (i.aT (r.trim rs))).isSome=true)/\dj P (some (V.opt (took (r.trim rs j) want) ((iT n (x.aT (r.trim rs)) (i.aT (r.trim rs))).getD .bad))) d D os aI r h Q):=hb rfl
theorem ahJ {m n:Nat} {x i:aY}:bo P (.os D (⟨d,(.l3 m n x i),none,rs⟩::os)::aI) .normal r h Q=dj P ((sU m n).run (x.aT (r.trim rs)) (i.aT (r.trim rs))) d D os aI r h Q:=hc rfl
theorem aiS {m n:Nat} {x i:aY} {j:Nat} {want:Bool}:bo P (.os D (⟨d,(.l3 m n x i),some (j,want),rs⟩::os)::aI) .normal r h Q=(fw (r.trim rs j)/\e9 (took (r.trim rs j) want) (((sU m n).run (x.aT (r.trim rs)) (i.aT (r.trim rs))).isSome=true)/\dj P (some (V.opt (took (r.trim rs j) want) (((sU m n).run (x.aT (r.trim rs)) (i.aT (r.trim rs))).getD .bad))) d D os aI r h Q):=hb rfl
theorem ahM {x i:aY}:bo P (.os D (⟨d,(.mH x i),none,rs⟩::os)::aI) .normal r h Q=dj P (sW.run (x.aT (r.trim rs)) (i.aT (r.trim rs))) d D os aI r h Q:=hc rfl
theorem aiV {x i:aY} {j:Nat} {want:Bool}:bo P (.os D (⟨d,(.mH x i),some (j,want),rs⟩::os)::aI) .normal r h Q=(fw (r.trim rs j)/\e9 (took (r.trim rs j) want) ((sW.run (x.aT (r.trim rs)) (i.aT (r.trim rs))).isSome=true)/\dj P (some (V.opt (took (r.trim rs j) want) ((sW.run (x.aT (r.trim rs)) (i.aT (r.trim rs))).getD .bad))) d D os aI r h Q):=hb rfl
theorem ahL {t:TypeId} {x i:aY}:bo P (.os D (⟨d,(.kl t x i),none,rs⟩::os)::aI) .normal r h Q=dj P ((sV P t).run (x.aT (r.trim rs)) (i.aT (r.trim rs))) d D os aI r h Q:=hc rfl
theorem aiU {t:TypeId} {x i:aY} {j:Nat} {want:Bool}:bo P (.os D (⟨d,(.kl t x i),some (j,want),rs⟩::os)::aI) .normal r h Q=(fw (r.trim rs j)/\e9 (took (r.trim rs j) want) (((sV P t).run (x.aT (r.trim rs)) (i.aT (r.trim rs))).isSome=true)/\dj P (some (V.opt (took (r.trim rs j) want) (((sV P t).run (x.aT (r.trim rs)) (i.aT (r.trim rs))).getD .bad))) d D os aI r h Q):=hb rfl
theorem ahU {k:m'} {z:V} {ok:Bool} {x i:aY}:bo P (.os D (⟨d,(.look k z ok x i),none,rs⟩::os)::aI) .normal r h Q=dj P (rz k.eq z ok h (x.aT (r.trim rs)) (i.aT (r.trim rs))) d D os aI r h Q:=hc rfl
theorem ai2 {k:m'} {z:V} {ok:Bool} {x i:aY} {j:Nat} {want:Bool}:bo P (.os D (⟨d,(.look k z ok x i),some (j,want),rs⟩::os)::aI) .normal r h Q=(fw (r.trim rs j)/\e9 (took (r.trim rs j) want) ((rz k.eq z ok h (x.aT (r.trim rs)) (i.aT (r.trim rs))).isSome=true)/\dj P (some (V.opt (took (r.trim rs j) want) ((rz k.eq z ok h (x.aT (r.trim rs)) (i.aT (r.trim rs))).getD .bad))) d D os aI r h Q):=hb rfl
theorem ahB {x:aY} {i:Nat}:bo P (.os D (⟨d,(.ext x i),none,rs⟩::os)::aI) .normal r h Q=dj P ((x.aT (r.trim rs)).CH none fun ah=>ah[i]?) d D os aI r h Q:=hc rfl
theorem aiM {x:aY} {i:Nat} {j:Nat} {want:Bool}:bo P (.os D (⟨d,(.ext x i),some (j,want),rs⟩::os)::aI) .normal r h Q=(fw (r.trim rs j)/\e9 (took (r.trim rs j) want) (((x.aT (r.trim rs)).CH none fun ah=>ah[i]?).isSome=true)/\dj P (some (V.opt (took (r.trim rs j) want) (((x.aT (r.trim rs)).CH none fun ah=>ah[i]?).getD .bad))) d D os aI r h Q):=hb rfl
theorem ah3 {args:List aY}:bo P (.os D (⟨d,(.uD args),none,rs⟩::os)::aI) .normal r h Q=dj P (k6 (fun b a=>!Int.leB a b) (aY.gg (r.trim rs) args)) d D os aI r h Q:=hc rfl
theorem ai9 {args:List aY} {j:Nat} {want:Bool}:bo P (.os D (⟨d,(.uD args),some (j,want),rs⟩::os)::aI) .normal r h Q=(fw (r.trim rs j)/\e9 (took (r.trim rs j) want) ((k6 (fun b a=>!Int.leB a b) (aY.gg (r.trim rs) args)).isSome=true)/\dj P (some (V.opt (took (r.trim rs j) want) ((k6 (fun b a=>!Int.leB a b) (aY.gg (r.trim rs) args)).getD .bad))) d D os aI r h Q):=hb rfl
theorem ah6 {args:List aY}:bo P (.os D (⟨d,(.ei args),none,rs⟩::os)::aI) .normal r h Q=dj P (k6 (fun b a=>!Int.leB b a) (aY.gg (r.trim rs) args)) d D os aI r h Q:=hc rfl
theorem ai_ {args:List aY} {j:Nat} {want:Bool}:bo P (.os D (⟨d,(.ei args),some (j,want),rs⟩::os)::aI) .normal r h Q=(fw (r.trim rs j)/\e9 (took (r.trim rs j) want) ((k6 (fun b a=>!Int.leB b a) (aY.gg (r.trim rs) args)).isSome=true)/\dj P (some (V.opt (took (r.trim rs j) want) ((k6 (fun b a=>!Int.leB b a) (aY.gg (r.trim rs) args)).getD .bad))) d D os aI r h Q):=hb rfl
theorem ahs {k:IntKind} {x:aY}:bo P (.os D (⟨d,(.kz (.int k) x),none,rs⟩::os)::aI) .normal r h Q=dj P (Ev k (x.aT (r.trim rs))) d D os aI r h Q:=hc rfl
theorem aiH {k:IntKind} {x:aY} {j:Nat} {want:Bool}:bo P (.os D (⟨d,(.kz (.int k) x),some (j,want),rs⟩::os)::aI) .normal r h Q=(fw (r.trim rs j)/\e9 (took (r.trim rs j) want) ((Ev k (x.aT (r.trim rs))).isSome=true)/\dj P (some (V.opt (took (r.trim rs j) want) ((Ev k (x.aT (r.trim rs))).getD .bad))) d D os aI r h Q):=hb rfl
theorem ahR {x:aY}:bo P (.os D (⟨d,(.len .slice x),none,rs⟩::os)::aI) .normal r h Q=dj P (lA (x.aT (r.trim rs))) d D os aI r h Q:=hc rfl
theorem ai0 {x:aY} {j:Nat} {want:Bool}:bo P (.os D (⟨d,(.len .slice x),some (j,want),rs⟩::os)::aI) .normal r h Q=(fw (r.trim rs j)/\e9 (took (r.trim rs j) want) ((lA (x.aT (r.trim rs))).isSome=true)/\dj P (some (V.opt (took (r.trim rs j) want) ((lA (x.aT (r.trim rs))).getD .bad))) d D os aI r h Q):=hb rfl
theorem ahS {x:aY}:bo P (.os D (⟨d,(.len .str x),none,rs⟩::os)::aI) .normal r h Q=dj P (F2 (x.aT (r.trim rs))) d D os aI r h Q:=hc rfl
theorem ai1 {x:aY} {j:Nat} {want:Bool}:bo P (.os D (⟨d,(.len .str x),some (j,want),rs⟩::os)::aI) .normal r h Q=(fw (r.trim rs j)/\e9 (took (r.trim rs j) want) ((F2 (x.aT (r.trim rs))).isSome=true)/\dj P (some (V.opt (took (r.trim rs j) want) ((F2 (x.aT (r.trim rs))).getD .bad))) d D os aI r h Q):=hb rfl
theorem ahP {n:Nat} {x:aY}:bo P (.os D (⟨d,(.len (.arr n) x),none,rs⟩::os)::aI) .normal r h Q=dj P (some (V.int .i64 n)) d D os aI r h Q:=hc rfl
theorem aiY {n:Nat} {x:aY} {j:Nat} {want:Bool}:bo P (.os D (⟨d,(.len (.arr n) x),some (j,want),rs⟩::os)::aI) .normal r h Q=(fw (r.trim rs j)/\e9 (took (r.trim rs j) want) ((some (V.int .i64 n)).isSome=true)/\dj P (some (V.opt (took (r.trim rs j) want) ((some (V.int .i64 n)).getD .bad))) d D os aI r h Q):=hb rfl
theorem ah8 {z:List V}:bo P (.os D (⟨d,(.new z),none,rs⟩::os)::aI) .normal r h Q=hO P (qt (.ptr (aj h.next) 0) (gM h z)) d D os aI r h Q:=iU rfl rfl
theorem aja {z:List V} {j:Nat} {want:Bool}:bo P (.os D (⟨d,(.new z),some (j,want),rs⟩::os)::aI) .normal r h Q=ft P (r.trim rs j) want d (.new z) rs D os aI r h Q:=ih rfl
theorem ahi {x:aY}:bo P (.os D (⟨d,(.box x),none,rs⟩::os)::aI) .normal r h Q=hO P (Py (x.aT (r.trim rs)).fY (qt (.ptr (aj h.next) 0) (gM h (x.aT (r.trim rs)).cells))) d D os aI r h Q:=iU rfl rfl
theorem aiz {x:aY} {j:Nat} {want:Bool}:bo P (.os D (⟨d,(.box x),some (j,want),rs⟩::os)::aI) .normal r h Q=ft P (r.trim rs j) want d (.box x) rs D os aI r h Q:=ih rfl
theorem ahj {n m:Nat} {z:List V} {bm:List (Nat × Nat × aY)}:bo P (.os D (⟨d,(.iw n m z bm),none,rs⟩::os)::aI) .normal r h Q=hO P (Ee n h (js (hM z n) (kU (r.trim rs) bm))) d D os aI r h Q:=by rw [iU rfl rfl,amO]
theorem aiA {n m:Nat} {z:List V} {bm:List (Nat × Nat × aY)} {j:Nat} {want:Bool}:bo P (.os D (⟨d,(.iw n m z bm),some (j,want),rs⟩::os)::aI) .normal r h Q=ft P (r.trim rs j) want d (.iw n m z bm) rs D os aI r h Q:=ih rfl
theorem ain {n:Nat} {x y:aY}:bo P (.os D (⟨d,(.st n x y),none,rs⟩::os)::aI) .normal r h Q=hO P (qt .bad (pI n h (x.aT (r.trim rs)) (y.aT (r.trim rs)))) d D os aI r h Q:=iU rfl rfl
theorem ajk {n:Nat} {x y:aY} {j:Nat} {want:Bool}:bo P (.os D (⟨d,(.st n x y),some (j,want),rs⟩::os)::aI) .normal r h Q=ft P (r.trim rs j) want d (.st n x y) rs D os aI r h Q:=ih rfl
theorem ah2 {n:Nat} {z:List V} {l c:aY}:bo P (.os D (⟨d,(.s5 n z l c),none,rs⟩::os)::aI) .normal r h Q=hO P (s0 n z (l.aT (r.trim rs)) (c.aT (r.trim rs)) h) d D os aI r h Q:=iU rfl rfl
theorem ai8 {n:Nat} {z:List V} {l c:aY} {j:Nat} {want:Bool}:bo P (.os D (⟨d,(.s5 n z l c),some (j,want),rs⟩::os)::aI) .normal r h Q=ft P (r.trim rs j) want d (.s5 n z l c) rs D os aI r h Q:=ih rfl
theorem aiq {k:m'} {m i x:aY}:bo P (.os D (⟨d,(.e0 k m i x),none,rs⟩::os)::aI) .normal r h Q=hO P (qt .bad (k_ k.eq h (m.aT (r.trim rs)) (i.aT (r.trim rs)) (x.aT (r.trim rs)))) d D os aI r h Q:=iU rfl rfl
theorem ajm {k:m'} {m i x:aY} {j:Nat} {want:Bool}:bo P (.os D (⟨d,(.e0 k m i x),some (j,want),rs⟩::os)::aI) .normal r h Q=ft P (r.trim rs j) want d (.e0 k m i x) rs D os aI r h Q:=ih rfl
theorem ah1 {x:Option aY}:bo P (.os D (⟨d,(.nG x),none,rs⟩::os)::aI) .normal r h Q=hO P (sZ (aY.opt (r.trim rs) x) h) d D os aI r h Q:=iU rfl rfl
theorem ai7 {x:Option aY} {j:Nat} {want:Bool}:bo P (.os D (⟨d,(.nG x),some (j,want),rs⟩::os)::aI) .normal r h Q=ft P (r.trim rs j) want d (.nG x) rs D os aI r h Q:=ih rfl
theorem aii {x:aY}:bo P (.os D (⟨d,(.zQ x),none,rs⟩::os)::aI) .normal r h Q=hO P (GU (x.aT (r.trim rs)) h) d D os aI r h Q:=(iU rfl rfl).trans (by first | rfl | (unfold GU;simp only [G.run];cases x.aT (r.trim rs)<;>rfl) | (unfold GU;cases x.aT (r.trim rs)<;>rfl))
theorem ajh {x:aY} {j:Nat} {want:Bool}:bo P (.os D (⟨d,(.zQ x),some (j,want),rs⟩::os)::aI) .normal r h Q=ft P (r.trim rs j) want d (.zQ x) rs D os aI r h Q:=ih rfl
theorem ah_ {x:aY}:bo P (.os D (⟨d,(.zA x),none,rs⟩::os)::aI) .normal r h Q=hO P (xa (x.aT (r.trim rs)) h) d D os aI r h Q:=iU rfl rfl
theorem ajc {x:aY} {j:Nat} {want:Bool}:bo P (.os D (⟨d,(.zA x),some (j,want),rs⟩::os)::aI) .normal r h Q=ft P (r.trim rs j) want d (.zA x) rs D os aI r h Q:=ih rfl
theorem ahb {n:Nat} {s x:aY}:bo P (.os D (⟨d,(.app n s x),none,rs⟩::os)::aI) .normal r h Q=hO P (iK n (s.aT (r.trim rs)) (x.aT (r.trim rs)) h) d D os aI r h Q:=iU rfl rfl
theorem aiw {n:Nat} {s x:aY} {j:Nat} {want:Bool}:bo P (.os D (⟨d,(.app n s x),some (j,want),rs⟩::os)::aI) .normal r h Q=ft P (r.trim rs j) want d (.app n s x) rs D os aI r h Q:=ih rfl
theorem ahp {n:Nat} {jq s:aY}:bo P (.os D (⟨d,(.copy n jq s),none,rs⟩::os)::aI) .normal r h Q=hO P (copyV n (jq.aT (r.trim rs)) (s.aT (r.trim rs)) h) d D os aI r h Q:=iU rfl rfl
theorem aiF {n:Nat} {jq s:aY} {j:Nat} {want:Bool}:bo P (.os D (⟨d,(.copy n jq s),some (j,want),rs⟩::os)::aI) .normal r h Q=ft P (r.trim rs j) want d (.copy n jq s) rs D os aI r h Q:=ih rfl
theorem ahQ {x:aY}:bo P (.os D (⟨d,(.len .map x),none,rs⟩::os)::aI) .normal r h Q=hO P (Cn [x.aT (r.trim rs)] h) d D os aI r h Q:=iU rfl rfl
theorem aiZ {x:aY} {j:Nat} {want:Bool}:bo P (.os D (⟨d,(.len .map x),some (j,want),rs⟩::os)::aI) .normal r h Q=ft P (r.trim rs j) want d (.len .map x) rs D os aI r h Q:=ih rfl
theorem ahr {x:aY}:bo P (.os D (⟨d,(.kz .bytes x),none,rs⟩::os)::aI) .normal r h Q=hO P (A4.run (x.aT (r.trim rs)) h) d D os aI r h Q:=iU rfl rfl
theorem aiG {x:aY} {j:Nat} {want:Bool}:bo P (.os D (⟨d,(.kz .bytes x),some (j,want),rs⟩::os)::aI) .normal r h Q=ft P (r.trim rs j) want d (.kz .bytes x) rs D os aI r h Q:=ih rfl
theorem ahu {x:aY}:bo P (.os D (⟨d,(.kz .str x),none,rs⟩::os)::aI) .normal r h Q=hO P (tM.run (x.aT (r.trim rs)) h) d D os aI r h Q:=iU rfl rfl
theorem aiJ {x:aY} {j:Nat} {want:Bool}:bo P (.os D (⟨d,(.kz .str x),some (j,want),rs⟩::os)::aI) .normal r h Q=ft P (r.trim rs j) want d (.kz .str x) rs D os aI r h Q:=ih rfl
theorem aht {s jq:TypeId} {x:aY}:bo P (.os D (⟨d,(.kz (.other s jq) x),none,rs⟩::os)::aI) .normal r h Q=hO P ((qS P s jq).run (x.aT (r.trim rs)) h) d D os aI r h Q:=iU rfl rfl
theorem aiI {s jq:TypeId} {x:aY} {j:Nat} {want:Bool}:bo P (.os D (⟨d,(.kz (.other s jq) x),some (j,want),rs⟩::os)::aI) .normal r h Q=ft P (r.trim rs j) want d (.kz (.other s jq) x) rs D os aI r h Q:=ih rfl
theorem aiC {f:FuncId} {args:List aY} {j:Nat} {want:Bool}:bo P (.os D (⟨d,(.call f args),some (j,want),rs⟩::os)::aI) .normal r h Q=ft P (r.trim rs j) want d (.call f args) rs D os aI r h Q:=ih rfl
theorem aiD {f:aY} {args:List aY} {j:Nat} {want:Bool}:bo P (.os D (⟨d,(.o2 f args),some (j,want),rs⟩::os)::aI) .normal r h Q=ft P (r.trim rs j) want d (.o2 f args) rs D os aI r h Q:=ih rfl
theorem ahm {x:aY}:bo P (.os D (⟨d,(.tK x),none,rs⟩::os)::aI) .normal r h Q=dj P (sh (x.aT (r.trim rs))) d D os aI r h Q:=hc rfl
theorem aiE {x:aY} {j:Nat} {want:Bool}:bo P (.os D (⟨d,(.tK x),some (j,want),rs⟩::os)::aI) .normal r h Q=(fw (r.trim rs j)/\e9 (took (r.trim rs j) want) ((sh (x.aT (r.trim rs))).isSome=true)/\dj P (some (V.opt (took (r.trim rs j) want) ((sh (x.aT (r.trim rs))).getD .bad))) d D os aI r h Q):=hb rfl
theorem ahV {z:V} {ok:Bool} {x i:aY}:bo P (.os D (⟨d,(.ry z ok x i),none,rs⟩::os)::aI) .normal r h Q=dj P (jx ⟨ht h⟩ z ok h (x.aT (r.trim rs)) (i.aT (r.trim rs))) d D os aI r h Q:=hc rfl
theorem ai3 {z:V} {ok:Bool} {x i:aY} {j:Nat} {want:Bool}:bo P (.os D (⟨d,(.ry z ok x i),some (j,want),rs⟩::os)::aI) .normal r h Q=(fw (r.trim rs j)/\e9 (took (r.trim rs j) want) ((jx ⟨ht h⟩ z ok h (x.aT (r.trim rs)) (i.aT (r.trim rs))).isSome=true)/\dj P (some (V.opt (took (r.trim rs j) want) ((jx ⟨ht h⟩ z ok h (x.aT (r.trim rs)) (i.aT (r.trim rs))).getD .bad))) d D os aI r h Q):=hb rfl
theorem ahW {k:TypeId} {z:V} {ok:Bool} {x i:aY}:bo P (.os D (⟨d,(.looks k z ok x i),none,rs⟩::os)::aI) .normal r h Q=dj P (bif nB P k (i.aT (r.trim rs)) then jx (structEq P k) z ok h (x.aT (r.trim rs)) (i.aT (r.trim rs)) else none) d D os aI r h Q:=hc rfl
theorem ai4 {k:TypeId} {z:V} {ok:Bool} {x i:aY} {j:Nat} {want:Bool}:bo P (.os D (⟨d,(.looks k z ok x i),some (j,want),rs⟩::os)::aI) .normal r h Q=(fw (r.trim rs j)/\e9 (took (r.trim rs j) want) ((bif nB P k (i.aT (r.trim rs)) then jx (structEq P k) z ok h (x.aT (r.trim rs)) (i.aT (r.trim rs)) else none).isSome=true)/\dj P (some (V.opt (took (r.trim rs j) want) ((bif nB P k (i.aT (r.trim rs)) then jx (structEq P k) z ok h (x.aT (r.trim rs)) (i.aT (r.trim rs)) else none).getD .bad))) d D os aI r h Q):=hb rfl
theorem aic {neg:Bool} {x y:aY}:bo P (.os D (⟨d,(.peq neg x y),none,rs⟩::os)::aI) .normal r h Q=dj P (uP neg h (x.aT (r.trim rs)) (y.aT (r.trim rs))) d D os aI r h Q:=hc rfl
theorem aje {neg:Bool} {x y:aY} {j:Nat} {want:Bool}:bo P (.os D (⟨d,(.peq neg x y),some (j,want),rs⟩::os)::aI) .normal r h Q=(fw (r.trim rs j)/\e9 (took (r.trim rs j) want) ((uP neg h (x.aT (r.trim rs)) (y.aT (r.trim rs))).isSome=true)/\dj P (some (V.opt (took (r.trim rs j) want) ((uP neg h (x.aT (r.trim rs)) (y.aT (r.trim rs))).getD .bad))) d D os aI r h Q):=hb rfl
theorem ahc {n:Nat} {z:List V} {s x:aY}:bo P (.os D (⟨d,(.x8 n z s x),none,rs⟩::os)::aI) .normal r h Q=hO P (x7 n z (s.aT (r.trim rs)) (x.aT (r.trim rs)) h) d D os aI r h Q:=iU rfl rfl
theorem aix {n:Nat} {z:List V} {s x:aY} {j:Nat} {want:Bool}:bo P (.os D (⟨d,(.x8 n z s x),some (j,want),rs⟩::os)::aI) .normal r h Q=ft P (r.trim rs j) want d (.x8 n z s x) rs D os aI r h Q:=ih rfl
theorem air {m i x:aY}:bo P (.os D (⟨d,(.xD m i x),none,rs⟩::os)::aI) .normal r h Q=hO P (qt .bad (k_ ⟨ht h⟩ h (m.aT (r.trim rs)) (i.aT (r.trim rs)) (x.aT (r.trim rs)))) d D os aI r h Q:=iU rfl rfl
theorem ajn {m i x:aY} {j:Nat} {want:Bool}:bo P (.os D (⟨d,(.xD m i x),some (j,want),rs⟩::os)::aI) .normal r h Q=ft P (r.trim rs j) want d (.xD m i x) rs D os aI r h Q:=ih rfl
theorem ais {k:TypeId} {m i x:aY}:bo P (.os D (⟨d,(.C' k m i x),none,rs⟩::os)::aI) .normal r h Q=hO P (qt .bad (bif nB P k (i.aT (r.trim rs)) then k_ (structEq P k) h (m.aT (r.trim rs)) (i.aT (r.trim rs)) (x.aT (r.trim rs)) else none)) d D os aI r h Q:=iU rfl rfl
theorem ajo {k:TypeId} {m i x:aY} {j:Nat} {want:Bool}:bo P (.os D (⟨d,(.C' k m i x),some (j,want),rs⟩::os)::aI) .normal r h Q=ft P (r.trim rs j) want d (.C' k m i x) rs D os aI r h Q:=ih rfl
theorem ahZ {z:V} {m i:aY}:bo P (.os D (⟨d,(.w8 z m i),none,rs⟩::os)::aI) .normal r h Q=hO P (ym z (m.aT (r.trim rs)) (i.aT (r.trim rs)) h) d D os aI r h Q:=iU rfl rfl
theorem ai5 {z:V} {m i:aY} {j:Nat} {want:Bool}:bo P (.os D (⟨d,(.w8 z m i),some (j,want),rs⟩::os)::aI) .normal r h Q=ft P (r.trim rs j) want d (.w8 z m i) rs D os aI r h Q:=ih rfl
theorem ah0 {k:TypeId} {z:V} {m i:aY}:bo P (.os D (⟨d,(.Cu k z m i),none,rs⟩::os)::aI) .normal r h Q=hO P (EB P k z (m.aT (r.trim rs)) (i.aT (r.trim rs)) h) d D os aI r h Q:=iU rfl rfl
theorem ai6 {k:TypeId} {z:V} {m i:aY} {j:Nat} {want:Bool}:bo P (.os D (⟨d,(.Cu k z m i),some (j,want),rs⟩::os)::aI) .normal r h Q=ft P (r.trim rs j) want d (.Cu k z m i) rs D os aI r h Q:=ih rfl
theorem ahz {m s x:aY}:bo P (.os D (⟨d,(.vT m s x),none,rs⟩::os)::aI) .normal r h Q=hO P (qt .bad (tQ h (m.aT (r.trim rs)) (s.aT (r.trim rs)) (x.aT (r.trim rs)))) d D os aI r h Q:=iU rfl rfl
theorem aiL {m s x:aY} {j:Nat} {want:Bool}:bo P (.os D (⟨d,(.vT m s x),some (j,want),rs⟩::os)::aI) .normal r h Q=ft P (r.trim rs j) want d (.vT m s x) rs D os aI r h Q:=ih rfl
theorem aih {x:aY}:bo P (.os D (⟨d,(.CZ x),none,rs⟩::os)::aI) .normal r h Q=hO P (rangeMap (x.aT (r.trim rs)) h) d D os aI r h Q:=iU rfl rfl
theorem ajg {x:aY} {j:Nat} {want:Bool}:bo P (.os D (⟨d,(.CZ x),some (j,want),rs⟩::os)::aI) .normal r h Q=ft P (r.trim rs j) want d (.CZ x) rs D os aI r h Q:=ih rfl
theorem aia {x:aY}:bo P (.os D (⟨d,(.CE x),none,rs⟩::os)::aI) .normal r h Q=hO P (hf (x.aT (r.trim rs)) h) d D os aI r h Q:=iU rfl rfl
theorem ajd {x:aY} {j:Nat} {want:Bool}:bo P (.os D (⟨d,(.CE x),some (j,want),rs⟩::os)::aI) .normal r h Q=ft P (r.trim rs j) want d (.CE x) rs D os aI r h Q:=ih rfl
theorem ahx {x:aY}:bo P (.os D (⟨d,(.Ba x),none,rs⟩::os)::aI) .normal r h Q=hO P (Bb (x.aT (r.trim rs)) h) d D os aI r h Q:=iU rfl rfl
theorem aiK {x:aY} {j:Nat} {want:Bool}:bo P (.os D (⟨d,(.Ba x),some (j,want),rs⟩::os)::aI) .normal r h Q=ft P (r.trim rs j) want d (.Ba x) rs D os aI r h Q:=ih rfl
set_option linter.defProp false in
def jF:=And.intro @ahm<|And.intro @aiE<|And.intro @ahV<|And.intro @ai3<|And.intro @ahW<|And.intro @ai4<|And.intro @aic<|And.intro @aje<|And.intro @ahc<|And.intro @aix<|And.intro @air<|And.intro @ajn<|And.intro @ais<|And.intro @ajo<|And.intro @ahZ<|And.intro @ai5<|And.intro @ah0<|And.intro @ai6<|And.intro @ahz<|And.intro @aiL<|And.intro @aih<|And.intro @ajg<|And.intro @aia<|And.intro @ajd<|And.intro @ahx @aiK
end
theorem akD (h:ai) (ah:List V):gM h ah=if ah.length<=top then some (h.new (.bC ah 0 false)) else none:=by
 by_cases ay:ah.length<=top
 . rw [if_pos ay,US ay]
 . rw [if_neg ay];unfold gM;rw [show Nat.ble ah.length top=false from by rw [<-Bool.not_eq_true,Nat.ble_eq];exact ay];rfl
theorem ajy (h:ai) (n:Nat) (b:aQ) (off:Nat) (y:V) (ah:List V) (cE:Nat) (st:Bool):
 oz n h b off y (.bC ah cE st)=if y.cells.length=n/\ev y.cells=true/\off+n<=ah.length then some (h.set b (.bC (nP ah off y.cells) cE st)) else none:=by
 by_cases aD:y.cells.length=n/\ev y.cells=true/\off+n<=ah.length
 . rw [if_pos aD,Lt aD.1 aD.2.1 aD.2.2]
 . rw [if_neg aD];unfold oz;by_cases aa:y.cells.length=n
   . rw [show Nat.beq y.cells.length n=true from by rw [Nat.beq_eq];exact aa];simp only [cond_true,cf.bC,cf.on];by_cases ad:ev y.cells=true
     . have aJ:¬off+y.cells.length<=ah.length:=fun q=>aD ⟨aa,ad,by omega⟩;rw [show Nat.ble (off+y.cells.length) ah.length=false from by rw [<-Bool.not_eq_true,Nat.ble_eq];exact aJ];rfl
     . rw [show ev y.cells=false from by simpa using ad,Bool.and_false];rfl
   . rw [show Nat.beq y.cells.length n=false from by rw [<-Bool.not_eq_true,Nat.beq_eq];exact aa];rfl
theorem ado (cells:List V) (off size:Nat) (v:V) (rest:List (Nat × Nat × V)):
 js cells ((off,size,v)::rest)=if v.fY=true/\v.cells.length=size/\off+size<=cells.length then js (nP cells off v.cells) rest else none:=by
 by_cases aD:v.fY=true/\v.cells.length=size/\off+size<=cells.length
 . rw [if_pos aD,adn aD.1 aD.2.1 aD.2.2]
 . rw [if_neg aD];simp only [js];cases ae:(v.fY&&(Nat.beq v.cells.length size&&Nat.ble (off+v.cells.length) cells.length)) with
   | false=>rfl
   | true=>
     simp only [Bool.and_eq_true,Nat.beq_eq,Nat.ble_eq] at ae;exact absurd ⟨ae.1,ae.2.1,by omega⟩ aD
theorem abO (b:Bool):V.cells (.bool b:V)=[.bool b]:=rfl
theorem alb (b:Bool):V.one (.bool b:V)=true:=rfl
theorem adW (b:Bool):V.fY (.bool b:V)=true:=rfl
theorem abS (k:IntKind) (n:Int):V.cells (.int k n:V)=[.int k n]:=rfl
theorem Gv (k:IntKind) (n:Int):V.one (.int k n:V)=true:=rfl
theorem ad0 (k:IntKind) (n:Int):V.fY (.int k n:V)=true:=rfl
theorem ab1 (s:List UInt8):V.cells (.str s:V)=[.str s]:=rfl
theorem Gw (s:List UInt8):V.one (.str s:V)=true:=rfl
theorem ad9 (s:List UInt8):V.fY (.str s:V)=true:=rfl
theorem abX:V.cells (.ej:V)=[.ej]:=rfl
theorem alj:V.one (.ej:V)=true:=rfl
theorem ad5:V.fY (.ej:V)=true:=rfl
theorem abZ (b:aQ) (o:Nat):V.cells (.ptr b o:V)=[.ptr b o]:=rfl
theorem alm (b:aQ) (o:Nat):V.one (.ptr b o:V)=true:=rfl
theorem ad7 (b:aQ) (o:Nat):V.fY (.ptr b o:V)=true:=rfl
theorem ab0 (b:aQ) (o l c:Nat):V.cells (.slice b o l c:V)=[.slice b o l c]:=rfl
theorem aln (b:aQ) (o l c:Nat):V.one (.slice b o l c:V)=true:=rfl
theorem ad8 (b:aQ) (o l c:Nat):V.fY (.slice b o l c:V)=true:=rfl
theorem abQ (b:aQ) (o l c:Nat):V.cells (.dY b o l c:V)=[.dY b o l c]:=rfl
theorem ald (b:aQ) (o l c:Nat):V.one (.dY b o l c:V)=true:=rfl
theorem adY (b:aQ) (o l c:Nat):V.fY (.dY b o l c:V)=true:=rfl
theorem ab2 (b:aQ) (o l c:Nat):V.cells (.hY b o l c:V)=[.hY b o l c]:=rfl
theorem alo (b:aQ) (o l c:Nat):V.one (.hY b o l c:V)=true:=rfl
theorem ad' (b:aQ) (o l c:Nat):V.fY (.hY b o l c:V)=true:=rfl
theorem abY:V.cells (.bF:V)=[.bF]:=rfl
theorem alk:V.one (.bF:V)=true:=rfl
theorem ad6:V.fY (.bF:V)=true:=rfl
theorem abW:V.cells (.j6:V)=[.j6]:=rfl
theorem ali:V.one (.j6:V)=true:=rfl
theorem ad4:V.fY (.j6:V)=true:=rfl
theorem abT (b:aQ):V.cells (.map b:V)=[.map b]:=rfl
theorem alf (b:aQ):V.one (.map b:V)=true:=rfl
theorem ad1 (b:aQ):V.fY (.map b:V)=true:=rfl
theorem abP (f:FuncId) (cs:List V):V.cells (.func f cs:V)=[.func f cs]:=rfl
theorem alc (f:FuncId) (cs:List V):V.one (.func f cs:V)=true:=rfl
theorem adX (f:FuncId) (cs:List V):V.fY (.func f cs:V)=true:=rfl
theorem abV:V.cells (.mN:V)=[.mN]:=rfl
theorem alh:V.one (.mN:V)=true:=rfl
theorem ad3:V.fY (.mN:V)=true:=rfl
theorem abR (t:TypeId) (v:V):V.cells (.iface t v:V)=[.iface t v]:=rfl
theorem ale (t:TypeId) (v:V):V.one (.iface t v:V)=true:=rfl
theorem adZ (t:TypeId) (v:V):V.fY (.iface t v:V)=true:=rfl
theorem abU:V.cells (.nilIface:V)=[.nilIface]:=rfl
theorem alg:V.one (.nilIface:V)=true:=rfl
theorem ad2:V.fY (.nilIface:V)=true:=rfl
theorem abN (cs:List V):V.cells (.agg cs)=cs:=rfl
theorem adV (cs:List V):V.fY (.agg cs)=true:=rfl
theorem ad_ (cs:List V):V.fY (.tuple cs)=true:=rfl
theorem Zk (n:Nat):n+1+1=n+2:=rfl
theorem Zq (n:Nat):n+2+1=n+3:=rfl
theorem Zr (n:Nat):n+3+1=n+4:=rfl
theorem Zs (n:Nat):n+4+1=n+5:=rfl
theorem Zt (n:Nat):n+5+1=n+6:=rfl
theorem Zu (n:Nat):n+6+1=n+7:=rfl
theorem Zv (n:Nat):n+7+1=n+8:=rfl
theorem Zw (n:Nat):n+8+1=n+9:=rfl
theorem Zx (n:Nat):n+9+1=n+10:=rfl
theorem Zj (n:Nat):n+10+1=n+11:=rfl
theorem Zl (n:Nat):n+11+1=n+12:=rfl
theorem Zm (n:Nat):n+12+1=n+13:=rfl
theorem Zn (n:Nat):n+13+1=n+14:=rfl
theorem Zo (n:Nat):n+14+1=n+15:=rfl
theorem Zp (n:Nat):n+15+1=n+16:=rfl
theorem CD (n:Nat):(n+1=n)=False:=eq_false (by omega)
theorem aoU (n:Nat):(n=n+1)=False:=eq_false (by omega)
theorem rE (n:Nat):(n+2=n)=False:=eq_false (by omega)
theorem aoV (n:Nat):(n=n+2)=False:=eq_false (by omega)
theorem Gs (n:Nat):(n+3=n)=False:=eq_false (by omega)
theorem aoW (n:Nat):(n=n+3)=False:=eq_false (by omega)
theorem akX (n:Nat):(n+4=n)=False:=eq_false (by omega)
theorem aoX (n:Nat):(n=n+4)=False:=eq_false (by omega)
theorem U4 (n:Nat):(n+5=n)=False:=eq_false (by omega)
theorem aoY (n:Nat):(n=n+5)=False:=eq_false (by omega)
theorem akY (n:Nat):(n+6=n)=False:=eq_false (by omega)
theorem aoZ (n:Nat):(n=n+6)=False:=eq_false (by omega)
theorem akZ (n:Nat):(n+7=n)=False:=eq_false (by omega)
theorem ao0 (n:Nat):(n=n+7)=False:=eq_false (by omega)
theorem ak0 (n:Nat):(n+8=n)=False:=eq_false (by omega)
theorem ao1 (n:Nat):(n=n+8)=False:=eq_false (by omega)
theorem adR {P:Program} {r:bd} {h:ai} {Q:dm->bd->ai->Prop} {aI:List ia} {os:List bH} {D:Option i_} {d:Option Nat} {g:G} {rs:List Nat}:ft P (.bool true) true d g rs D os aI r h Q=bo P (.os D (⟨d,g,none,rs⟩::os)::aI) .normal r h Q:=by rw [Sd];simp
theorem adO {P:Program} {r:bd} {h:ai} {Q:dm->bd->ai->Prop} {aI:List ia} {os:List bH} {D:Option i_} {d:Option Nat} {g:G} {rs:List Nat}:ft P (.bool false) false d g rs D os aI r h Q=bo P (.os D (⟨d,g,none,rs⟩::os)::aI) .normal r h Q:=by rw [Sc];simp
theorem adQ {P:Program} {r:bd} {h:ai} {Q:dm->bd->ai->Prop} {aI:List ia} {os:List bH} {D:Option i_} {d:Option Nat} {g:G} {rs:List Nat}:ft P (.bool true) false d g rs D os aI r h Q=bo P (.os (jB D r h (.tuple [])) os::aI) .normal (r.set d (.tuple [])) h Q:=by rw [Sc];simp
theorem adP {P:Program} {r:bd} {h:ai} {Q:dm->bd->ai->Prop} {aI:List ia} {os:List bH} {D:Option i_} {d:Option Nat} {g:G} {rs:List Nat}:ft P (.bool false) true d g rs D os aI r h Q=bo P (.os (jB D r h (.tuple [])) os::aI) .normal (r.set d (.tuple [])) h Q:=by rw [Sd];simp
theorem aaa (c:Bool) (a b:V):V.bif (!c) a (V.opt c b)=V.bif (!c) a b:=by cases c<;>rfl
theorem agQ (A:Prop):(True->A)=A:=propext ⟨fun q=>q trivial,fun q _=>q⟩
theorem agP (A:Prop):(False->A)=True:=propext ⟨fun _=>trivial,fun _ q=>q.elim⟩
section
variable {P:Program}
theorem eY {b:aW} {aI:List ia} {r:bd} {h:ai} {Q:dm->bd->ai->Prop} (I:bd->ai->Prop) (μ:bd->ai->Nat) (aX:I r h)
 (step:∀r h,I r h->bo P [.c b] .normal r h fun e bD ab=>e.andThen (I bD ab/\μ bD ab<μ r h) (bo P aI e bD ab Q)):zq P b aI r h Q:=
 ⟨I,μ,aX,step⟩
theorem adN {b want:Bool} {d:Option Nat} {f:FuncId} {args:List aY} {rs:List Nat} {os:List bH} {D:Option i_} {aI:List ia} {r:bd} {h:ai} {Q:dm->bd->ai->Prop} (v:V)
 (bh:(b == want)=true->gv P f (aY.gg (r.trim rs) args) h v h)
 (H:bo P (.os (jB D r h (V.opt (b == want) v)) os::aI) .normal (r.set d (V.opt (b == want) v)) h Q):ft P (.bool b) want d (.call f args) rs D os aI r h Q:=by
 have:=adM (P:=P) (c:=true) (b:=b) (want:=want) (d:=d) (f:=f) (args:=args) (rs:=rs) (D:=D) (os:=os) (aI:=aI) (r:=r) (h:=h) (Q:=Q) v;simp only [V.opt,cond_true,Bool.true_and] at this;exact this bh H
theorem ET {b:Bool} {d:Option Nat} {f:FuncId} {args:List aY} {rs:List Nat} {os:List bH} {D:Option i_} {aI:List ia} {r:bd} {h:ai} {Q:dm->bd->ai->Prop} (v:V)
 (bh:(!b)=true->gv P f (aY.gg (r.trim rs) args) h v h)
 (H:bo P (.os (jB D r h (V.opt (!b) v)) os::aI) .normal (r.set d (V.opt (!b) v)) h Q):ft P (.bool b) false d (.call f args) rs D os aI r h Q:=by
 refine adN v ?_ ?_<;>rw [beq_false]<;>assumption
def V.toN:V->Nat
 | .int _ n=>n.toNat
 | _=>0
theorem an4 (k:IntKind) (n:Int):V.toN (.int k n)=n.toNat:=rfl
theorem gR {f:FuncId} {args:List V} {d:Option Nat} {os:List bH} {D:Option i_} {aI:List ia} {r:bd} {h:ai} {Q:dm->bd->ai->Prop} {v:V}
 (c:gv P f args h v h) (H:bo P (.os (jB D r h v) os::aI) .normal (r.set d v) h Q):pV P f args d D os aI r h Q:=⟨v,h,c,H⟩
theorem cz {f:FuncId} {args:List V} {d:Option Nat} {os:List bH} {D:Option i_} {aI:List ia} {r:bd} {h:ai} {Q:dm->bd->ai->Prop} {K:V->ai->Prop}
 (c:db P f args h K) (H:∀v ab,K v ab->bo P (.os (jB D r h v) os::aI) .normal (r.set d v) ab Q):pV P f args d D os aI r h Q:=c.mono H
structure Ext (h ab:ai):Prop where
 next:h.next<=ab.next
 get:∀b,Old h b->ab.get b=h.get b
theorem Ext.refl (h:ai):Ext h h:=⟨Nat.le_refl _,fun _ _=>rfl⟩
theorem Ext.bG {h ab:ai} (e:Ext h ab) {b:aQ} (ae:Old h b):Old ab b:=Nat.lt_of_lt_of_le ae e.next
theorem Ext.trans {h ab mu:ai} (e:Ext h ab) (cZ:Ext ab mu):Ext h mu:=
 ⟨Nat.le_trans e.next cZ.next,fun b ae=>(cZ.get b (e.bG ae)).trans (e.get b ae)⟩
theorem Ext.new {h ab:ai} (e:Ext h ab) (k:cf):Ext h (ab.new k):=
 ⟨Nat.le_succ_of_le e.next,fun b ae=>by rw [iM,if_neg (fun q=>(CG (h:=h) ae e.next) ▸ q)];exact e.get b ae⟩
theorem Ext.set {h ab:ai} (e:Ext h ab) {i:Nat} (an:h.next<=i) (k:cf):Ext h (ab.set (aj i) k):=
 ⟨e.next,fun b ae=>by rw [dy,if_neg (fun q=>(CG (h:=h) ae an) ▸ q)];exact e.get b ae⟩
theorem Ext.rd {h ab:ai} (e:Ext h ab) {b:aQ} (ae:Old h b) {ah:List V} (H:Rd h b ah):Rd ab b ah:=by unfold Rd at H ⊢;rw [e.get b ae];exact H
def jI (h:ai) (b:aQ) (off:Nat) (ah:List V):Prop:=Old h b/\∃us,Rd h b us/\off+ah.length<=us.length/\(us.drop off).take ah.length=ah
theorem jI.ext {h ab:ai} (e:Ext h ab) {b:aQ} {off:Nat} {ah:List V} (H:jI h b off ah):jI ab b off ah:=by obtain ⟨aX,us,aa,ad,aJ⟩:=H;exact ⟨e.bG aX,us,e.rd aX aa,ad,aJ⟩
theorem jI.d_ {h:ai} {b:aQ} {off:Nat} {ah:List V} (H:jI h b off ah) {i:Nat} (an:i<ah.length):hd (h.get b) (off+i)=some ah[i]:=by
 obtain ⟨_,us,aa,ad,aJ⟩:=H;rw [aa.d_,List.getElem?_eq_getElem (by omega)];congr 1;have:((us.drop off).take ah.length)[i]? =ah[i]? :=by rw [aJ]
 rw [List.getElem?_take_of_lt an,List.getElem?_drop,List.getElem?_eq_getElem (by omega),List.getElem?_eq_getElem an] at this;simpa using this
theorem jI.iV {h:ai} {b:aQ} {off:Nat} {ah:List V} (H:jI h b off ah) {i n:Nat} (an:i+n<=ah.length):oA n (h.get b) (off+i)=some (.agg ((ah.drop i).take n)):=by
 obtain ⟨_,us,aa,ad,aJ⟩:=H;rw [aa.iV,if_pos (by omega)];congr 2;have:(((us.drop off).take ah.length).drop i).take n=(ah.drop i).take n:=by rw [aJ]
 rw [<-this,List.drop_take,List.drop_drop,List.take_take];congr 1;omega
def fC (h:ai) (size:Nat) (v:V) (n:Nat) (ah:List V):Prop:=
 ah.length=n * size/\match v with
  | .bF=>n=0
  | .slice b off len _=>len=n/\jI h b off ah
  | .dY b off len _=>len=n/\jI h b off ah
  | .hY _ _ _ _=>n=0
  | _=>False
theorem fC.ext {h ab:ai} (e:Ext h ab) {size:Nat} {v:V} {n:Nat} {ah:List V} (H:fC h size v n ah):fC ab size v n ah:=by refine ⟨H.1,?_⟩;have cu:=H.2;cases v<;>simp only at cu ⊢<;>first | exact cu | exact ⟨cu.1,cu.2.ext e⟩
theorem fC.len {h:ai} {size:Nat} {v:V} {n:Nat} {ah:List V} (H:fC h size v n ah):lA v=some (.int .i64 n):=by
 have cu:=H.2;cases v<;>simp only at cu<;>first
  | (rw [<-cu.1];rfl)
  | (subst cu;rfl)
  | (exact cu.elim)
theorem fC.ct {h:ai} {size:Nat} {v:V} {n:Nat} {ah:List V} (H:fC h size v n ah) {k:IntKind} {i:Nat} (an:i<n):
 ∃b off,iT size v (.int k i)=some (.ptr b (off+i * size))/\jI h b off ah:=by
 have cu:=H.2;cases v<;>simp only at cu<;>first
  | omega
  | (exact cu.elim)
  | skip
 . rename_i b off len cap;obtain ⟨rfl,aa⟩:=cu;refine ⟨b,off,?_,aa⟩;rw [wO,if_pos (by omega)];simp
 . rename_i b off len cap;obtain ⟨rfl,aa⟩:=cu;refine ⟨b,off,?_,aa⟩;rw [B6,if_pos (by omega)];simp
end
structure Mod (M:aQ->Prop) (h ab:ai):Prop where
 next:h.next<=ab.next
 get:∀b,Old h b->¬M b->ab.get b=h.get b
theorem Mod.refl (M:aQ->Prop) (h:ai):Mod M h h:=⟨Nat.le_refl _,fun _ _ _=>rfl⟩
theorem Mod.bG {M:aQ->Prop} {h ab:ai} (e:Mod M h ab) {b:aQ} (ae:Old h b):Old ab b:=Nat.lt_of_lt_of_le ae e.next
theorem Mod.trans {M:aQ->Prop} {h ab mu:ai} (e:Mod M h ab) (cZ:Mod M ab mu):Mod M h mu:=
 ⟨Nat.le_trans e.next cZ.next,fun b ae hm=>(cZ.get b (e.bG ae) hm).trans (e.get b ae hm)⟩
theorem Mod.mono {M Oo:aQ->Prop} {h ab:ai} (e:Mod M h ab) (hm:∀b,Old h b->M b->Oo b):Mod Oo h ab:=
 ⟨e.next,fun b ae aV=>e.get b ae fun q=>aV (hm b ae q)⟩
theorem Mod.new {M:aQ->Prop} {h ab:ai} (e:Mod M h ab) (k:cf):Mod M h (ab.new k):=
 ⟨Nat.le_succ_of_le e.next,fun b ae hm=>by rw [iM,if_neg (fun q=>(CG (h:=h) ae e.next) ▸ q)];exact e.get b ae hm⟩
theorem Mod.set {M:aQ->Prop} {h ab:ai} (e:Mod M h ab) {b:aQ} (ae:Old h b->M b) (k:cf):Mod M h (ab.set b k):=
 ⟨e.next,fun bL fc hm=>by
   rw [dy];by_cases q:b=bL
   . subst q;exact absurd (ae fc) hm
   . rw [if_neg q];exact e.get bL fc hm⟩
theorem Ext.mod {h ab:ai} (e:Ext h ab) (M:aQ->Prop):Mod M h ab:=⟨e.next,fun b ae _=>e.get b ae⟩
theorem Ext.hJ {h ab mu:ai} (e:Ext h ab) {M:aQ->Prop} (m:Mod M ab mu) (hm:∀b,M b->h.next<=cI b):Ext h mu:=
 ⟨Nat.le_trans e.next m.next,fun b ae=>by
   have mA:¬M b:=fun q=>by have:=hm b q;unfold Old at ae;omega
   exact (m.get b (e.bG ae) mA).trans (e.get b ae)⟩
theorem Mod.at {M:aQ->Prop} {h ab:ai} (e:Mod M h ab) {b:aQ} {off:Nat} {ah:List V} (H:jI h b off ah) (hm:¬M b):jI ab b off ah:=by obtain ⟨aX,us,aa,ad,aJ⟩:=H;refine ⟨e.bG aX,us,?_,ad,aJ⟩;unfold Rd at aa ⊢;rw [e.get b aX hm];exact aa
theorem gi {h:ai} {i:Nat} (an:i<h.next):Old h (aj i):=by unfold Old;rw [cc];exact an
theorem Cz {h:ai} {b:aQ} {i:Nat} (ae:Old h b) (an:h.next<=i):(b=aj i)=False:=by apply eq_false;intro e;unfold Old at ae;rw [e,cc] at ae;omega
def V.aM:V->aQ->Prop
 | .slice b _ _ _,bL=>bL=b
 | .dY b _ _ _,bL=>bL=b
 | _,_=>False
theorem fC.ov {h:ai} {size:Nat} {v:V} {n:Nat} {ah:List V} (H:fC h size v n ah) {k:IntKind} {i:Nat} (an:i<n):
 ∃b off,iT size v (.int k i)=some (.ptr b (off+i * size))/\jI h b off ah/\v.aM b:=by
 have cu:=H.2;cases v<;>simp only at cu<;>first
  | omega
  | (exact cu.elim)
  | skip
 . rename_i b off len cap;obtain ⟨rfl,aa⟩:=cu;refine ⟨b,off,?_,aa,rfl⟩;rw [wO,if_pos (by omega)];simp
 . rename_i b off len cap;obtain ⟨rfl,aa⟩:=cu;refine ⟨b,off,?_,aa,rfl⟩;rw [B6,if_pos (by omega)];simp
theorem fC.one {h:ai} {size:Nat} {v:V} {n:Nat} {ah:List V} (H:fC h size v n ah):v.one=true/\v.cells=[v]/\v.fY=true:=by have q:=H.2;cases v<;>simp only at q<;>first | exact ⟨rfl,rfl,rfl⟩ | exact q.elim
theorem fC.mod {M:aQ->Prop} {h ab:ai} (e:Mod M h ab) {size:Nat} {v:V} {n:Nat} {ah:List V} (H:fC h size v n ah) (hm:∀b,v.aM b->¬M b):fC ab size v n ah:=by refine ⟨H.1,?_⟩;have cu:=H.2;cases v<;>simp only at cu ⊢<;>first | exact cu | exact ⟨cu.1,e.at cu.2 (hm _ rfl)⟩
theorem fC.bG {h:ai} {size:Nat} {v:V} {n:Nat} {ah:List V} (H:fC h size v n ah) {b:aQ} (ae:v.aM b):Old h b:=by have cu:=H.2;cases v<;>simp only [V.aM] at cu ae<;>first | (exact ae.elim) | (subst ae;exact cu.2.1)
def cD (B:Nat) (h:ai) (size:Nat) (v:V) (n:Nat) (ah:List V):Prop:=
 ah.length=n * size/\match v with
  | .bF=>n=0
  | .slice b off len cap=>len=n/\B<=cI b/\Old h b/\n<=cap/\cap<=top/\∃us cE st,h.get b=.bC us cE st/\off+cap * size<=us.length/\(us.drop off).take ah.length=ah
  | .dY b off len idx=>len=n/\B<=cI b/\Old h b/\off=0/\idx=0/\∃us st,h.get b=.bC us size st/\ah.length<=us.length/\us.take ah.length=ah
  | _=>False
theorem cD.v {B:Nat} {h:ai} {size:Nat} {v:V} {n:Nat} {ah:List V} (H:cD B h size v n ah):fC h size v n ah:=by
 obtain ⟨aa,ad⟩:=H;refine ⟨aa,?_⟩;cases v<;>simp only at ad ⊢<;>first | exact ad | skip
 . obtain ⟨ar,_,av,aK,_,us,cE,st,bU,dV,eQ⟩:=ad;refine ⟨ar,av,us,.inr ⟨cE,st,bU⟩,?_,eQ⟩;rw [aa];have:=Nat.mul_le_mul_right size aK;omega
 . obtain ⟨ar,_,av,aK,_,us,st,bU,dV,eQ⟩:=ad;subst aK;exact ⟨ar,av,us,.inr ⟨size,st,bU⟩,by omega,by simpa using eQ⟩
theorem cD.base {B:Nat} {h:ai} {size:Nat} {v:V} {n:Nat} {ah:List V} (H:cD B h size v n ah) {b:aQ} (ae:v.aM b):B<=cI b:=by have cu:=H.2;cases v<;>simp only [V.aM] at cu ae<;>first | (exact ae.elim) | (subst ae;exact cu.2.1)
theorem cD.mono {B NT:Nat} {h:ai} {size:Nat} {v:V} {n:Nat} {ah:List V} (H:cD B h size v n ah) (c_:NT<=B):cD NT h size v n ah:=by refine ⟨H.1,?_⟩;have cu:=H.2;cases v<;>simp only at cu ⊢<;>first | exact cu | exact ⟨cu.1,Nat.le_trans c_ cu.2.1,cu.2.2⟩
theorem cD.mod {M:aQ->Prop} {h ab:ai} (e:Mod M h ab) {B size:Nat} {v:V} {n:Nat} {ah:List V} (H:cD B h size v n ah) (hm:∀b,v.aM b->¬M b):cD B ab size v n ah:=by
 refine ⟨H.1,?_⟩;have cu:=H.2;cases v<;>simp only at cu ⊢<;>first | exact cu | skip
 . obtain ⟨ar,av,aK,bU,dV,us,cE,st,eQ,hg⟩:=cu;exact ⟨ar,av,e.bG aK,bU,dV,us,cE,st,by rw [e.get _ aK (hm _ rfl)];exact eQ,hg⟩
 . obtain ⟨ar,av,aK,bU,dV,us,st,eQ,hg⟩:=cu;exact ⟨ar,av,e.bG aK,bU,dV,us,st,by rw [e.get _ aK (hm _ rfl)];exact eQ,hg⟩
theorem cD.ext {h ab:ai} (e:Ext h ab) {B size:Nat} {v:V} {n:Nat} {ah:List V} (H:cD B h size v n ah):cD B ab size v n ah:=
 H.mod (e.mod fun _=>False) fun _ _ q=>q
theorem ajT {h:ai} {size:Nat} {v:V} {n:Nat} {ah:List V} (H:fC h size v n ah):pr v=some n:=by
 have cu:=H.2;cases v<;>simp only at cu<;>first
  | (rw [<-cu.1];rfl)
  | (subst cu;rfl)
  | (exact cu.elim)
theorem M1 {h:ai} {b:aQ} {off size n:Nat} {ah:List V} (H:jI h b off ah) (ay:ah.length=n * size):pH h size b off n=some ah:=by obtain ⟨_,us,aa,ad,aJ⟩:=H;unfold pH;rw [aa.pG,show Nat.ble (off+n * size) us.length=true from by rw [Nat.ble_eq];omega,EV us _ off (by omega),<-ay,aJ];rfl
theorem ant {h:ai} {size:Nat} {v:V} {n:Nat} {ah:List V} (H:fC h size v n ah):xx h size v n=some ah:=by
 obtain ⟨aa,ad⟩:=H;cases v<;>simp only at ad<;>first
  | (exact ad.elim)
  | (obtain ⟨_,aJ⟩:=ad;exact M1 aJ aa)
  | (subst ad
     have:ah=[]:=List.eq_nil_of_length_eq_zero (by omega);subst this;rfl)
theorem cD.grown {B:Nat} {h:ai} {size:Nat} {ah:List V} {n:Nat} {st:Bool} (ay:ah.length=n * size) (c_:B<=h.next):cD B (h.new (.bC ah size st)) size (.dY (aj h.next) 0 n 0) n ah:=
 ⟨ay,rfl,by rw [cc];exact c_,Vh,rfl,rfl,ah,st,ni _,Nat.le_refl _,List.take_length⟩
theorem ZF {h:ai} {size:Nat} {s x:V} {m:Nat} {ah:List V} (cu:fC h size x m ah) (hm:m<=top):iK size s x h=(match s with
 | .bF=>vz size m ah h
 | .slice b off len cap=>x6 size b off len cap m ah h
 | .dY b off len idx=>x5 size b off len idx m ah h
 | _=>.fail):=by
 unfold iK;rw [ajT cu];simp only;rw [ant cu];simp only;rw [show Nat.ble m top=true from by rw [Nat.ble_eq];exact hm];rfl
theorem W6 (A:List V) (o:Nat) (W:List V) (h:o+W.length<=A.length) (q:Nat):(h9 A o W)[q]? =if q<o then A[q]? else if q<o+W.length then W[q-o]? else A[q]? :=by
 have ay:(A.take o).length=o:=by rw [List.length_take];omega
 unfold h9;rw [List.append_assoc];by_cases bP:q<o
 . rw [if_pos bP,List.getElem?_append_left (by omega),List.getElem?_take_of_lt bP]
 . rw [if_neg bP,List.getElem?_append_right (by omega),ay];by_cases bY:q<o+W.length
   . rw [if_pos bY,List.getElem?_append_left (by omega)]
   . rw [if_neg bY,List.getElem?_append_right (by omega),List.getElem?_drop];congr 1;omega
theorem G3 (A:List V) (o j:Nat) (L W:List V) (nk:o+L.length<=A.length) (eO:(A.drop o).take L.length=L) (aU:j+W.length<=L.length):((h9 A (o+j) W).drop o).take L.length=h9 L j W:=by
 apply List.ext_getElem?;intro q;have ay:((A.drop o).take L.length)[q]? =L[q]? :=by rw [eO]
 rw [W6 L j W aU];by_cases aC:q<L.length
 . rw [List.getElem?_take_of_lt aC,List.getElem?_drop,W6 A (o+j) W (by omega)];rw [List.getElem?_take_of_lt aC,List.getElem?_drop] at ay;by_cases bP:q<j
   . rw [if_pos (by omega),if_pos bP,ay]
   . rw [if_neg (by omega),if_neg bP];by_cases bY:q<j+W.length
     . rw [if_pos (by omega),if_pos bY];congr 1;omega
     . rw [if_neg (by omega),if_neg bY,ay]
 . rw [List.getElem?_take_eq_none (by omega),if_neg (by omega),if_neg (by omega),List.getElem?_eq_none (by omega)]
theorem D6 {B:Nat} {h:ai} {size:Nat} {s x:V} {n m:Nat} {us ah:List V} (cr:1<=size) (H1:cD B h size s n us) (cu:fC h size x m ah) (c_:B<=h.next) (hlen:(n+m) * size<=top) (a6:ev ah=true):
 ∃v ab,iK size s x h=.val v ab/\cD B ab size v (n+m) (us++ah)/\Mod s.aM h ab/\∀b,v.aM b->s.aM b\/h.next<=cI b:=by
 have mA:n+m<=top:=Nat.le_trans (Nat.le_mul_of_pos_right _ cr) hlen;have mx:=H1.1;have iz:=cu.1;have fF:(us++ah).length=(n+m) * size:=by rw [List.length_append,mx,iz,Nat.add_mul]
 rw [ZF cu (by omega)];have ad:=H1.2;cases s<;>simp only at ad ⊢<;>try (exact ad.elim)
 case bF=>
  subst ad;have:us=[]:=List.eq_nil_of_length_eq_zero (by omega);subst this;unfold vz;by_cases hm:m=0
  . subst hm;have:ah=[]:=List.eq_nil_of_length_eq_zero (by omega);subst this;exact ⟨.bF,h,rfl,⟨by simp,rfl⟩,Mod.refl _ _,fun b ae=>.inl ae⟩
  . rw [show Nat.beq m 0=false from by rw [<-Bool.not_eq_true,Nat.beq_eq];exact hm];simp only [cond_false];rw [Cy (by rw [iz];simpa using hlen) cr];refine ⟨_,_,rfl,?_,(Mod.refl _ _).new _,fun b ae=>.inr (by rw [show b=aj h.next from ae,cc];exact Nat.le_refl _)⟩;have:=cD.grown (B:=B) (h:=h) (size:=size) (ah:=ah) (n:=m) (st:=false) iz c_;simpa using this
 case slice b off len cap=>
  obtain ⟨rfl,av,aK,bU,dV,hv,cE,st,eQ,hg,il⟩:=ad;unfold x6;by_cases aD:len+m<=cap
  . rw [show Nat.ble (len+m) cap=true from by rw [Nat.ble_eq];exact aD];simp only [cond_true];have ep:off+len * size+ah.length<=hv.length:=by
     have:=Nat.mul_le_mul_right size aD;rw [Nat.add_mul] at this;rw [iz];omega
    rw [Own.lay (ah:=hv) (cE:=cE) (st:=st) eQ ep a6];refine ⟨_,_,rfl,⟨fF,rfl,av,aK,aD,dV,_,cE,st,dy _ _ _ |>.trans (if_pos rfl),?_,?_⟩,(Mod.refl (V.aM (.slice b off len cap)) h).set (fun _=>rfl) _,fun bL ae=>.inl ae⟩
    . rw [rP _ _ _ ep];exact hg
    . rw [List.length_append];unfold h9;have eD:off+us.length<=hv.length:=by rw [mx];omega
      have aP:hv.take (off+len * size)=hv.take off++us:=by rw [<-mx,List.take_add,il]
      rw [aP,List.append_assoc,List.append_assoc,List.drop_append,List.drop_eq_nil_of_le (by rw [List.length_take];omega),List.nil_append];rw [show off - (hv.take off).length=0 from by rw [List.length_take];omega,List.drop_zero];rw [<-List.append_assoc,List.take_left' (by rw [List.length_append])]
  . rw [show Nat.ble (len+m) cap=false from by rw [<-Bool.not_eq_true,Nat.ble_eq];exact aD];simp only [cond_false];rw [show (Nat.ble (len+m) top&&Nat.ble cap top)=true from by simp only [Bool.and_eq_true,Nat.ble_eq];exact ⟨mA,dV⟩];simp only [cond_true];have JX:jI h b off us:=⟨aK,hv,.inr ⟨cE,st,eQ⟩,by rw [mx];have:=Nat.mul_le_mul_right size bU;omega,il⟩;rw [M1 JX mx];simp only;rw [Cy (by rw [fF];exact hlen) cr];exact ⟨_,_,rfl,cD.grown fF c_,(Mod.refl _ _).new _,fun b ae=>.inr (by rw [show b=aj h.next from ae,cc];exact Nat.le_refl _)⟩
 case dY b off len idx=>
  obtain ⟨rfl,av,aK,rfl,rfl,hv,st,eQ,hg,il⟩:=ad;unfold x5;by_cases hm:m=0
  . subst hm;have:ah=[]:=List.eq_nil_of_length_eq_zero (by omega);subst this;exact ⟨_,h,rfl,⟨fF,rfl,av,aK,rfl,rfl,hv,st,eQ,by simpa using hg,by simpa using il⟩,Mod.refl _ _,fun b ae=>.inl ae⟩
  . rw [show Nat.beq m 0=false from by rw [<-Bool.not_eq_true,Nat.beq_eq];exact hm];simp only [cond_false];rw [eQ];simp only [cf.bC,cf.on];rw [show (Nat.beq size size&&(Nat.ble (len+m) top&&ev ah)&&Nat.beq 0 (0 * size))=true from by
     simp only [Bool.and_eq_true,Nat.beq_eq,Nat.ble_eq];exact ⟨⟨trivial,mA,a6⟩,by omega⟩]
    simp only [cond_true];have JX:jI h b 0 us:=⟨aK,hv,.inr ⟨size,st,eQ⟩,by omega,by simpa using il⟩;rw [M1 JX mx];simp only;rw [Cy (by rw [fF];exact hlen) cr];exact ⟨_,_,rfl,cD.grown (h:=h.set b .dead) fF c_,((Mod.refl (V.aM (.dY b 0 len 0)) h).set (fun _=>rfl) _).new _,fun bL ae=>.inr (by rw [show bL=aj h.next from ae,cc];exact Nat.le_refl _)⟩
theorem alp {ah ws:List V} (aa:ev ah=true) (ad:ev ws=true):ev (ah++ws)=true:=by
 induction ah with
 | nil=>exact ad
 | cons v ah br=>
   simp only [ev,Bool.and_eq_true,List.cons_append] at aa ⊢;exact ⟨aa.1,br aa.2⟩
theorem cD.put {B:Nat} {h:ai} {size:Nat} {v:V} {n:Nat} {ah:List V} (H:cD B h size v n ah) {i:Nat} (an:i<n) {k:IntKind} {y:V} (aZ:y.cells.length=size) (a6:ev y.cells=true):
 ∃b off ab,iT size v (.int k i)=some (.ptr b (off+i * size))/\v.aM b/\pI size h (.ptr b (off+i * size)) y=some ab/\cD B ab size v n (h9 ah (i * size) y.cells)/\Mod v.aM h ab:=by
 obtain ⟨aa,ad⟩:=H;have aO:i * size+size<=n * size:=by have:=Nat.mul_le_mul_right size (show i+1<=n from an);rw [Nat.add_mul] at this;omega
 cases v<;>simp only at ad<;>try (first | omega | exact ad.elim)
 case slice b off len cap=>
  obtain ⟨rfl,av,aK,bU,dV,hv,cE,st,eQ,hg,il⟩:=ad;have aD:=Nat.mul_le_mul_right size bU;have ep:off+i * size+y.cells.length<=hv.length:=by rw [aZ];omega
  refine ⟨b,off,_,?_,rfl,Own.store (ah:=hv) (cE:=cE) (st:=st) eQ aZ (by rw [aZ] at ep;exact ep) a6,⟨?_,rfl,av,aK,bU,dV,_,cE,st,dy _ _ _ |>.trans (if_pos rfl),?_,?_⟩,(Mod.refl (V.aM (.slice b off len cap)) h).set (fun _=>rfl) _⟩
  . rw [wO,if_pos (by omega)];simp
  . rw [rP _ _ _ (by rw [aZ,aa];omega)];exact aa
  . rw [rP _ _ _ ep];exact hg
  . rw [rP _ _ _ (by rw [aZ,aa];omega)];exact G3 hv off (i * size) ah y.cells (by rw [aa];omega) il (by rw [aZ,aa];omega)
 case dY b off len idx=>
  obtain ⟨rfl,av,aK,rfl,rfl,hv,st,eQ,hg,il⟩:=ad;have ep:i * size+y.cells.length<=ah.length:=by rw [aZ,aa];omega
  have BR:0+i * size+y.cells.length<=hv.length:=by omega
  refine ⟨b,0,_,?_,rfl,Own.store (ah:=hv) (cE:=size) (st:=st) eQ aZ (by rw [aZ] at BR;exact BR) a6,⟨?_,rfl,av,aK,rfl,rfl,_,st,dy _ _ _ |>.trans (if_pos rfl),?_,?_⟩,(Mod.refl (V.aM (.dY b 0 len 0)) h).set (fun _=>rfl) _⟩
  . rw [B6,if_pos (by omega)];simp
  . rw [rP _ _ _ ep];exact aa
  . rw [rP _ _ _ ep,rP _ _ _ BR];exact hg
  . rw [rP _ _ _ ep];have:=G3 hv 0 (i * size) ah y.cells (by omega) (by simpa using il) ep;simpa using this
def V.at (v:V) (b:aQ) (off:Nat):Prop:=
 match v with
 | .slice bL o _ _=>b=bL/\off=o
 | .dY bL o _ _=>b=bL/\off=o
 | _=>False
theorem Pd {h:ai} {size:Nat} {v:V} {n:Nat} {ah:List V} (H:fC h size v n ah) {k:IntKind} {i:Nat} (an:i<n) {b:aQ} {off:Nat} (e:iT size v (.int k i)=some (.ptr b (off+i * size))):v.at b off:=by
 have cu:=H.2;cases v<;>simp only at cu<;>first | omega | (exact cu.elim) | skip
 . obtain ⟨rfl,_⟩:=cu;rw [wO,if_pos (by omega)] at e;simp only [Option.some.injEq,V.ptr.injEq,Int.toNat_natCast] at e;exact ⟨e.1.symm,by omega⟩
 . obtain ⟨rfl,_⟩:=cu;rw [B6,if_pos (by omega)] at e;simp only [Option.some.injEq,V.ptr.injEq,Int.toNat_natCast] at e;exact ⟨e.1.symm,by omega⟩
theorem W7 (ah:List V) (c:Nat) (y:V) (h:c<ah.length):h9 ah c [y]=ah.set c y:=by unfold h9;rw [List.set_eq_take_append_cons_drop,if_pos h];simp
theorem cD.V5 {B:Nat} {h:ai} {size:Nat} {v:V} {n:Nat} {ah:List V} (H:cD B h size v n ah) {b:aQ} {off:Nat} (a1:v.at b off) {c:Nat} (aD:c<ah.length) {y:V} (aZ:y.cells=[y]) (a6:y.one=true):
 ∃k,oz 1 h b (off+c) y (h.get b)=some (h.set b k)/\(∀fh:ai,fh.get b=h.get b->oz 1 fh b (off+c) y (h.get b)=some (fh.set b k))/\cD B (h.set b k) size v n (ah.set c y)/\v.aM b:=by
 obtain ⟨aa,ad⟩:=H;have hp:ev y.cells=true:=by rw [aZ];simp [ev,a6]
 cases v<;>simp only at ad<;>simp only [V.at] at a1<;>try (exact a1.elim)
 case slice bL o len cap=>
  obtain ⟨rfl,rfl⟩:=a1;obtain ⟨rfl,av,aK,bU,dV,hv,cE,st,eQ,hg,il⟩:=ad;have o7:=Nat.mul_le_mul_right size bU;have ep:off+c+y.cells.length<=hv.length:=by rw [aZ];simp;omega
  have e:∀fh:ai,fh.get b=h.get b->oz 1 fh b (off+c) y (h.get b)=some (fh.set b (.bC (nP hv (off+c) y.cells) cE st)):=by intro fh _;rw [eQ];exact Lt (by rw [aZ];rfl) hp (by rw [aZ] at ep;simpa using ep)
  refine ⟨_,e h rfl,e,⟨by simpa using aa,rfl,av,aK,bU,dV,_,cE,st,dy _ _ _ |>.trans (if_pos rfl),?_,?_⟩,rfl⟩
  . rw [M0 _ _ _ ep];exact hg
  . rw [zW _ _ _ ep,List.length_set];have:=G3 hv off c ah y.cells (by rw [aa];omega) il (by rw [aZ];simp;omega);rw [this,aZ,W7 ah c y aD]
 case dY bL o len idx=>
  obtain ⟨rfl,rfl⟩:=a1;obtain ⟨rfl,av,aK,rfl,rfl,hv,st,eQ,hg,il⟩:=ad;have ep:0+c+y.cells.length<=hv.length:=by rw [aZ];simp;omega
  have e:∀fh:ai,fh.get b=h.get b->oz 1 fh b (0+c) y (h.get b)=some (fh.set b (.bC (nP hv (0+c) y.cells) size st)):=by intro fh _;rw [eQ];exact Lt (by rw [aZ];rfl) hp (by rw [aZ] at ep;simpa using ep)
  refine ⟨_,e h rfl,e,⟨by simpa using aa,rfl,av,aK,rfl,rfl,_,st,dy _ _ _ |>.trans (if_pos rfl),?_,?_⟩,rfl⟩
  . rw [M0 _ _ _ ep,List.length_set];exact hg
  . rw [zW _ _ _ ep,List.length_set];have:=G3 hv 0 c ah y.cells (by omega) (by simpa using il) (by rw [aZ];simp;omega);rw [List.drop_zero] at this;rw [this,aZ,W7 ah c y aD]
theorem alv (r:bd):aY.opt r none=none:=(rfl)
theorem alw (r:bd) (x:aY):aY.opt r (some x)=some (x.aT r):=(rfl)
theorem qQ {k:IntKind} {m d y:Nat} (h:m<=y):bound (some (.int k (m:Int))) d y=some m:=by simp only [bound,V.eu,oB];rw [show (decide ((0:Int)<=(m:Int))&&decide ((m:Int)<=(y:Int)))=true from by simp;omega];simp
theorem sd (d y:Nat):bound none d y=some d:=rfl
theorem fC.cut {h:ai} {size:Nat} {v:V} {n:Nat} {ah:List V} (H:fC h size v n ah) {k bj:IntKind} {bB an:Nat} (aa:bB<=an) (ad:an<=n) (w1 wx:Option V)
 (eD:w1=some (.int k bB)\/w1=none/\bB=0) (ju:wx=some (.int bj an)\/wx=none/\an=n) (lT:∀b off l c,v=.slice b off l c->l<=c):
 ∃c9,hh size v w1 wx none=some c9/\fC h size c9 (an-bB) ((ah.drop (bB * size)).take ((an-bB) * size))/\∀b,c9.aM b->v.aM b:=by
 obtain ⟨ar,av⟩:=H;have fF:((ah.drop (bB * size)).take ((an-bB) * size)).length=(an-bB) * size:=by rw [List.length_take,List.length_drop,ar];have aP:=Nat.mul_le_mul_right size aa;have a':=Nat.mul_le_mul_right size ad;rw [Nat.sub_mul];omega
 have vG:∀y,bB<=y->bound w1 0 y=some bB:=by
  intro y aZ;rcases eD with rfl | ⟨rfl,rfl⟩
  . exact qQ aZ
  . rfl
 have AT:∀d y,n=d->n<=y->bound wx d y=some an:=by
  intro d y bc aZ;rcases ju with rfl | ⟨rfl,rfl⟩
  . exact qQ (by omega)
  . rw [sd,bc]
 have piece:∀(b:aQ) (off:Nat),jI h b off ah->jI h b (off+bB * size) ((ah.drop (bB * size)).take ((an-bB) * size)):=by
  rintro b off ⟨bW,us,a2,a3,a4⟩;have aP:=Nat.mul_le_mul_right size aa;have a':=Nat.mul_le_mul_right size ad;refine ⟨bW,us,a2,?_,?_⟩
  . rw [fF,Nat.sub_mul];omega
  . rw [fF,<-List.drop_drop];have:(us.drop off).drop (bB * size)=(((us.drop off).take ah.length).drop (bB * size))++(us.drop off).drop ah.length:=by
     rw [<-List.drop_append_of_le_length (by rw [List.length_take,List.length_drop];omega),List.take_append_drop]
    rw [this,a4,List.take_append_of_le_length (by rw [List.length_drop,ar,Nat.sub_mul];omega)]
 cases v<;>simp only at av<;>try (exact av.elim)
 case bF=>
  subst av;obtain rfl:an=0:=by omega
  obtain rfl:bB=0:=by omega
  refine ⟨.bF,?_,⟨fF,rfl⟩,fun b ae=>ae⟩;simp only [hh,xv,AT 0 0 rfl (Nat.le_refl _),vG 0 (Nat.le_refl _)]
 case slice b off len cap=>
  obtain ⟨rfl,aK⟩:=av;have aD:=lT b off len cap rfl;have e:hh size (.slice b off len cap) w1 wx none=some (.slice b (bif Nat.beq cap bB then off else off+bB * size) (an-bB) (cap-bB)):=by simp only [hh,tb,AT len cap rfl aD,vG an aa]
  rw [e];refine ⟨_,rfl,⟨fF,rfl,?_⟩,fun bL ae=>ae⟩;cases ae:Nat.beq cap bB with
  | false=>exact piece b off aK
  | true=>
    rw [Nat.beq_eq] at ae;obtain rfl:an=bB:=by omega
    obtain ⟨bW,us,a2,a3,a4⟩:=aK;refine ⟨bW,us,a2,?_,?_⟩<;>simp;omega
 case dY b off len idx=>
  obtain ⟨rfl,aK⟩:=av;by_cases aO:bB<len
  . have e:hh size (.dY b off len idx) w1 wx none=some (.dY b (off+bB * size) (an-bB) (idx+bB)):=by
     simp only [hh,qB,AT len len rfl (Nat.le_refl _),vG an aa];rw [show Nat.blt bB len=true from by rw [Nat.blt_eq];exact aO];rfl
    rw [e];exact ⟨_,rfl,⟨fF,rfl,piece b off aK⟩,fun bL ae=>ae⟩
  . have e:hh size (.dY b off len idx) w1 wx none=some (.hY b off (off+bB * size) (idx+bB)):=by
     simp only [hh,qB,AT len len rfl (Nat.le_refl _),vG an aa];rw [show Nat.blt bB len=false from by rw [<-Bool.not_eq_true,Nat.blt_eq];exact aO];rfl
    rw [e];exact ⟨_,rfl,⟨fF,by omega⟩,fun bL ae=>ae.elim⟩
 case hY b off j8 idx=>
  subst av;obtain rfl:an=0:=by omega
  obtain rfl:bB=0:=by omega
  refine ⟨.hY b off j8 idx,?_,⟨fF,rfl⟩,fun b ae=>ae⟩;simp only [hh,C2,AT 0 0 rfl (Nat.le_refl _),vG 0 (Nat.le_refl _)]
theorem cD.cut {B:Nat} {h:ai} {size:Nat} {v:V} {n:Nat} {ah:List V} (H:cD B h size v n ah) {k:IntKind} {m:Nat} (hm:m<=n) (aV:1<=n):
 ∃c9,hh size v none (some (.int k m)) none=some c9/\cD B h size c9 m (ah.take (m * size))/\∀b,c9.aM b->v.aM b:=by
 obtain ⟨ar,av⟩:=H;have qb:=Nat.mul_le_mul_right size hm;have fF:(ah.take (m * size)).length=m * size:=by rw [List.length_take];omega
 cases v<;>simp only at av<;>try (first | omega | exact av.elim)
 case slice b off len cap=>
  obtain ⟨rfl,aK,bU,dV,eQ,us,cE,st,hg,il,Ms⟩:=av;have e:hh size (.slice b off len cap) none (some (.int k m)) none=some (.slice b off m cap):=by simp only [hh,tb,qQ (show m<=cap by omega),sd];cases Nat.beq cap 0<;>simp
  rw [e];refine ⟨_,rfl,⟨fF,rfl,aK,bU,by omega,eQ,us,cE,st,hg,il,?_⟩,fun bL ae=>ae⟩;rw [fF,<-Ms,List.take_take];congr 1;omega
 case dY b off len idx=>
  obtain ⟨rfl,aK,bU,rfl,rfl,us,st,hg,il,Ms⟩:=av;have e:hh size (.dY b 0 len 0) none (some (.int k m)) none=some (.dY b 0 m 0):=by simp only [hh,qB,qQ hm,sd];rw [show Nat.blt 0 len=true from by rw [Nat.blt_eq];omega];simp
  rw [e];refine ⟨_,rfl,⟨fF,rfl,aK,bU,rfl,rfl,us,st,hg,by omega,?_⟩,fun bL ae=>ae⟩;rw [fF,<-Ms,List.take_take];congr 1;omega
theorem akL (b:aQ) (o:Nat):uE (.ptr b o)=some (.ptr b o):=rfl
theorem akt (k bj:IntKind) (a b:Int):k6 (fun b a=>!Int.leB a b) [.int k a,.int bj b]=some (.int k (if b<a then b else a)):=by
 simp only [k6,xh,V.eu,oB];by_cases h:b<a
 . rw [if_pos h];have:¬a<=b:=by omega
   simp [this]
 . rw [if_neg h];have:a<=b:=by omega
   simp [this]
theorem akv (k bj:IntKind) (a b:Int):k6 (fun b a=>!Int.leB b a) [.int k a,.int bj b]=some (.int k (if a<b then b else a)):=by
 simp only [k6,xh,V.eu,oB];by_cases h:a<b
 . rw [if_pos h];have:¬b<=a:=by omega
   simp [this]
 . rw [if_neg h];have:b<=a:=by omega
   simp [this]
theorem jI.cell {h:ai} {b:aQ} {off:Nat} {ah:List V} (H:jI h b off ah) {i j n:Nat} {ws:List V} (hw:(ah.drop i).take n=ws) (an:i+n<=ah.length) (aU:j<n):hd (h.get b) (off+i+j)=ws[j]? :=by rw [Nat.add_assoc,H.d_ (by omega),<-hw,List.getElem?_take_of_lt aU,List.getElem?_drop,List.getElem?_eq_getElem]
end
section
open Go Go.RowKit Go.ChangeShapes Go.WideShapes
variable [Lay]
section
variable {H:Type} {enc:TypeId × Value->H} {P:Program}
end
end
section
open Go Go.RowKit
variable [Lay]
theorem bf.below {az:Fr} {E:Env} {h:ai} {w ao:World} (s:bf az E h w) (ae:Below w.heap.size w ao):bf az E h ao:=by
 have cr:az.w.heap.size<=w.heap.size:=s.frame.size;have gT:∀(k:Nat) (o:Obj),w.heap[k]? =some o->ao.heap[k]? =some o:=by
  intro k o aH;rw [ae.block k,aH];by_cases aO:k<w.heap.size
  . exact aO
  . rw [Array.getElem?_eq_none (by omega)] at aH;cases aH
 refine ⟨fun b ag=>?_,s.qw,s.inj,s.fresh,s.frame.trans (ae.mono cr),s.laid,s.base⟩;have:=s.aM b ag;cases aH:h.get b<;>rw [aH] at this<;>simp only [h0] at this ⊢
 . obtain ⟨ar,p,c,el,b4,av,aK,bU,dV⟩:=this;exact ⟨ar,p,c,el,b4,av,aK,gT _ _ bU,dV⟩
 . obtain ⟨ar,p,c,el,b4,av,aK,bU,dV⟩:=this;exact ⟨ar,p,c,el,b4,av,aK,gT _ _ bU,dV⟩
 . obtain ⟨p,ar,av,aK,bU⟩:=this;exact ⟨p,ar,av,aK,gT _ _ bU⟩
 . obtain ⟨p,a,ar,av,aK,bU⟩:=this;exact ⟨p,a,ar,av,gT _ _ aK,bU⟩
 . obtain ⟨p,o,ar,av,aK,bU⟩:=this;exact ⟨p,o,ar,av,gT _ _ aK,bU⟩
 . obtain ⟨p,ar,av,aK⟩:=this;exact ⟨p,ar,av,gT _ _ aK⟩
 . obtain ⟨p,a,c,l,ar,av,aK,bU⟩:=this;exact ⟨p,a,c,l,ar,av,gT _ _ aK,bU⟩
 . obtain ⟨p,m,a,ar,av,aK,bU,dV⟩:=this;exact ⟨p,m,a,ar,av,aK,gT _ _ bU,dV⟩
theorem ajp {P:Program} {f:FuncId} {args:List V} {v:V} {h:ai} (H:∀E xs w,Lay.ok w->bk E args xs->Calls P f xs.toArray w fun e ao=>∃x,e=.returned x/\Rel E v x/\Below w.heap.size w ao)
 (az:Fr) (E:Env) (w:World) (xs:List Value) (ak:bk E args xs) (s:bf az E h w):Calls P f xs.toArray w fun e ao=>∃ax x,e=.returned x/\E.le ax/\Rel ax v x/\bf az ax h ao:=by
 refine (H E xs w (Lay.gT s.laid s.frame) ak).mono fun e ao q=>?_;obtain ⟨x,rfl,bh,ae⟩:=q;exact ⟨E,x,rfl,Env.le.refl E,bh,s.below ae⟩
theorem adh {P:Program} {f:FuncId} {fn:Func} {e:Array Value->Sem Value} (aA:P.funcs[f]? =some fn) (aV:(fn.name == "runtime.NumGoroutine")=false) (ae:fn.body.isNone=true) (aa:Extern.findNext fn=none) (ad:Extern.find fn=some e)
 {xs:Array Value} {x:Value} {w:World} (aF:(e xs).run P w=.ok x w):(callFunc f xs).run P w=.ok (.value x) w:=by
 simp only [callFunc,Sem.run_bind,run_program,Result.andThen_ok,aA];rw [if_neg (by rw [aV];simp),if_pos ae];simp only [Sem.run_bind,aa,ad];have hm:(mark (.extern f)).run P w=.ok () w:=rfl;rw [hm];simp only [Result.andThen_ok,aF,Sem.run_pure]
def Cb (c:Nat):List UInt8->Nat->Int
 | [],_=>-1
 | b::l,i=>bif Nat.beq b.toNat c then .ofNat i else Cb c l (i+1)
theorem TW (c:Nat) (aD:c<256):∀(l:List UInt8) (i:Nat),Cb c l i=if Lib.indexByte l c.toUInt8=-1 then -1 else Lib.indexByte l c.toUInt8+i
 | [],i=>by simp [Cb,Lib.indexByte]
 | b::l,i=>by
   have jt:=Lib.indexByte_ge l c.toUInt8;have ub:(b.toNat=c)↔(b == c.toUInt8)=true:=by
    rw [beq_iff_eq,<-UInt8.toNat_inj];have:c.toUInt8.toNat=c:=by show c % 256=c;omega
    rw [this]
   have e:Lib.indexByte (b::l) c.toUInt8=if (b == c.toUInt8)=true then 0 else if (Lib.indexByte l c.toUInt8 == -1)=true then -1 else Lib.indexByte l c.toUInt8+1:=rfl;simp only [Cb,TW c aD l (i+1),ix];by_cases h:b.toNat=c
   . rw [if_pos (ub.1 h)] at e;rw [if_pos h,e];simp
   . rw [if_neg (fun e=>h (ub.2 e))] at e;rw [if_neg h];by_cases ad:Lib.indexByte l c.toUInt8=-1
     . rw [ad] at e;simp only [beq_self_eq_true,if_true] at e;simp [ad,e]
     . have aJ:(Lib.indexByte l c.toUInt8 == -1)=false:=by simpa using ad
       rw [aJ] at e;simp only [Bool.false_eq_true,if_false] at e;rw [if_neg ad,e,if_neg (by omega)];omega
def preB:List UInt8->List UInt8->Bool
 | [],_=>true
 | _::_,[]=>false
 | a::x,b::y=>bif Nat.beq a.toNat b.toNat then preB x y else false
theorem Mf:∀(x y:List UInt8),preB x y=x.isPrefixOf y
 | [],y=>by cases y<;>rfl
 | _::_,[]=>rfl
 | a::x,b::y=>by
   simp only [preB,List.isPrefixOf,ix,Mf x y];by_cases h:a.toNat=b.toNat
   . have:a=b:=UInt8.toNat_inj.1 h;subst this;simp
   . have:(a == b)=false:=by
      rw [beq_eq_false_iff_ne];exact fun e=>h (by rw [e])
     rw [if_neg h,this];rfl
def hasB:List UInt8->List UInt8->Bool
 | [],sub=>preB sub []
 | b::l,sub=>bif preB sub (b::l) then true else hasB l sub
theorem Sy:∀(s sub:List UInt8),hasB s sub=Lib.contains s sub
 | [],sub=>by simp only [hasB,Mf,Lib.contains,Lib.index];cases sub<;>simp
 | b::l,sub=>by
   simp only [hasB,Mf];have br:=Sy l sub;unfold Lib.contains at br ⊢;unfold Lib.index;cases h:sub.isPrefixOf (b::l) with
   | true=>simp
   | false=>
     simp only [cond_false,Bool.false_eq_true,if_false,br];have jt:=Lib.index_ge l sub;cases ad:(Lib.index l sub == -1) with
     | true=>
       have:Lib.index l sub=-1:=by simpa using ad
       simp [this]
     | false=>
       have:Lib.index l sub≠-1:=by simpa using ad
       simp only [Bool.false_eq_true,if_false];rw [Bool.eq_iff_iff,decide_eq_true_eq,decide_eq_true_eq];omega
def I6:x1:=⟨fun args h=>match args with
 | [x,y]=>(match x with
   | .str s=>(match y with
     | .str sub=>bif Nat.ble s.length 100000 then .val (.bool (hasB s sub)) h else .fail
     | _=>.fail)
   | _=>.fail)
 | _=>.fail⟩
theorem acf {args:List V} {h ab:ai} {v:V} (he:I6.run args h=.val v ab):∃s sub,args=[.str s,.str sub]/\s.length<=100000/\v=.bool (Lib.contains s sub)/\ab=h:=by
 simp only [I6] at he
 split at he
 case h_2=>cases he
 split at he
 case h_2=>cases he
 split at he
 case h_2=>cases he
 obtain ⟨aD,aa⟩:=jR he;simp only [a8.val.injEq] at aa;obtain ⟨rfl,rfl⟩:=aa;exact ⟨_,_,rfl,Nat.le_of_ble_eq_true aD,by rw [Sy],rfl⟩
def FQ:x1:=⟨fun args h=>match args with
 | [x,y]=>(match x with
   | .str s=>(match y with
     | .int k c=>bif o4 k .u8&&(Int.leB 0 c&&Nat.blt c.toNat 256) then .val (.int .i64 (Cb c.toNat s 0)) h else .fail
     | _=>.fail)
   | _=>.fail)
 | _=>.fail⟩
theorem agX {args:List V} {h ab:ai} {v:V} (he:FQ.run args h=.val v ab):∃s c,args=[.str s,.int .u8 c]/\v=.int .i64 (Lib.indexByte s c.toNat.toUInt8)/\ab=h:=by
 simp only [FQ] at he
 split at he
 case h_2=>cases he
 split at he
 case h_2=>cases he
 split at he
 case h_2=>cases he
 rename_i s _ k c;obtain ⟨aD,aa⟩:=jR he;simp only [Bool.and_eq_true,Nat.blt_eq] at aD;have aH:=tR aD.1;subst aH;simp only [a8.val.injEq] at aa;obtain ⟨rfl,rfl⟩:=aa;refine ⟨s,c,rfl,?_,rfl⟩;rw [TW _ aD.2.2];by_cases h:Lib.indexByte s c.toNat.toUInt8=-1
 . rw [if_pos h,h]
 . rw [if_neg h];simp
theorem agW {P:Program} {f:FuncId} {fn:Func} (aA:P.funcs[f]? =some fn) (aV:(fn.name == "runtime.NumGoroutine")=false) (ae:fn.body.isNone=true) (aa:Extern.findNext fn=none) (ad:Extern.find fn=some Extern.BytealgIndexByte.indexByte)
 {args:List V} {h ab:ai} {v:V} (he:FQ.run args h=.val v ab) (az:Fr) (E:Env) (w:World) (xs:List Value) (ak:bk E args xs) (s:bf az E h w):
 ∃ax x ao,(callFunc f xs.toArray).run P w=.ok (.value x) ao/\E.le ax/\Rel ax v x/\bf az ax ab ao:=by
 obtain ⟨t,c,rfl,rfl,rfl⟩:=agX he;obtain ⟨y,cY,rfl,ar,z,fA,rfl,av,rfl⟩:=ak;simp only [Rel] at ar av;subst ar av;exact ⟨E,_,w,adh aA aV ae aa ad (Lib.run_indexByteString _ _ _),Env.le.refl E,by simp [Rel],s⟩
theorem ab9 {P:Program} {f:FuncId} (aZ:Nat.beq f dC=false) {v:V} (bh:∀E x,x=.bool true->Rel E v x) (kD:∃fn,P.funcs[f]? =some fn/\fn.body.isSome=true) (H:∀w,Lay.ok w->Calls P f #[] w fun e ao=>e=.returned (.bool true)/\Below w.heap.size w ao) (h:ai):
 gv P f [] h v h:=by
 refine ⟨fun e=>by subst e;simp at aZ,.inl ⟨kD,fun az E w xs ak s=>?_⟩⟩;simp only [bk] at ak;subst ak;refine (H w (Lay.gT s.laid s.frame)).mono fun e ao q=>?_;obtain ⟨rfl,ae⟩:=q;exact ⟨E,_,rfl,fun _ _ q=>q,bh E _ rfl,s.below ae⟩
def rT (E:Env) (h:ai) (p:jN):Env:=fun b=>if b=aj h.next then some p else E b
theorem XN (E:Env) (h:ai) (p:jN):rT E h p (aj h.next)=some p:=if_pos rfl
theorem Ny {az:Fr} {E:Env} {h:ai} {w:World} (s:bf az E h w) (p:jN):E.le (rT E h p):=fun b q aC=>by unfold rT;rw [if_neg (fun e=>by rw [e,s.fresh _ (Nat.le_refl _)] at aC;cases aC)];exact aC
theorem am' {W:World} {E:Env} {h:ai} (s:bf ⟨W,fun _=>none⟩ E h W) (p:jN) (k:cf) (a6:k.own=false) (aH:h0 W.heap.size (rT E h p) W (aj h.next) k):
 bf ⟨W,fun _=>none⟩ (rT E h p) (h.new k) W:=by
 refine ⟨fun b _=>?_,fun _ _ h=>(by cases h),fun b bL q ec aa ad aP a' aC=>?_,fun i an=>?_,s.frame,s.laid,fun b q n cs st aa aP=>by
  rw [iM] at aa;by_cases bP:aj h.next=b
  . rw [if_pos bP] at aa;rw [aa] at a6;cases a6
  . rw [if_neg bP] at aa;unfold rT at aP;rw [if_neg (fun e=>bP e.symm)] at aP;exact s.base _ _ _ _ _ aa aP⟩
 . rw [iM];by_cases e:aj h.next=b
   . subst e;rw [if_pos rfl];exact aH
   . rw [if_neg e];exact (s.aM b rfl).mono (Ny s p)
 . rw [iM] at aa ad;by_cases bP:aj h.next=b
   . rw [if_pos bP,a6] at aa;cases aa
   . by_cases bY:aj h.next=bL
     . rw [if_pos bY,a6] at ad;cases ad
     . rw [if_neg bP] at aa;rw [if_neg bY] at ad;unfold rT at aP a';rw [if_neg (fun e=>bP e.symm)] at aP;rw [if_neg (fun e=>bY e.symm)] at a';exact s.inj b bL q ec aa ad aP a' aC
 . rw [gN] at an;unfold rT;rw [if_neg (fun e=>by have:=fu e;omega)];exact s.fresh i (by omega)
theorem am_ {W:World} {E:Env} {h:ai} (s:bf ⟨W,fun _=>none⟩ E h W) {k base cap:Nat} {c:Array Value} {el:TypeId} {b4:Nat × Nat} (aH:W.heap[k]? =some (.cells c el b4)) {ah:List V}
 (aD:base+ah.length<=c.size) (aF:∀i v y,ah[i]? =some v->c[base+i]? =some y->Rel E v y):
 bf ⟨W,fun _=>none⟩ (rT E h ⟨k,base,cap⟩) (h.new (.ro ah)) W:=by
 refine am' s _ _ rfl ?_;have aO:k<W.heap.size:=by
  by_cases aO:k<W.heap.size
  . exact aO
  . rw [Array.getElem?_eq_none (by omega)] at aH;cases aH
 refine ⟨trivial,⟨k,base,cap⟩,c,el,b4,XN _ _ _,aO,aH,aD,fun i y an aZ=>?_⟩;have:T.get .bad (aj i) (fI .e 0 ah)=ah[i]:=by have:=EU ah 0 i .e;rw [Nat.zero_add] at this;rw [this,if_pos an,List.getElem?_eq_getElem an];rfl
 rw [this];exact Rel.mono (Ny s _) _ _ (aF i _ y (List.getElem?_eq_getElem an) aZ)
end
section
open Go Go.RowKit
variable [Lay]
section
variable (P:Program)
def z6:List Field->Nat->Option Nat
 | [],o=>some o
 | f::cv,o=>if f.offset=o then z6 cv (o+P.cellsOf f.type) else none
def xA:Bool:=(List.range P.types.size).all fun t=>match P.underlying t with
 | some (.struct cv)=>decide (z6 P cv.toList 0=some (P.cellsOf t))
 | _=>true
def dS (h:ai):Nat->Nat->TypeId->List V->Prop
 | 0,_,_,_=>False
 | n+1,m,t,ah=>match P.underlying t with
   | some .bool=>∃b,ah=[.bool b]
   | some (.int k)=>∃i,ah=[.int k i]/\(Lit.int k i).wf=true
   | some .string=>∃s:List UInt8,ah=[.str s]/\s.length+1<=m
   | some (.slice e)=>1<=m/\(ah=[.bF]\/(∃b i j k,ah=[.hY b i j k])\/P.cellsOf e=0\/
      ∃b len cap,ah=[.slice b 0 len cap]/\0<len/\len<=cap/\Old h b/\∃us,Rd h b us/\us.length=len * P.cellsOf e/\∃ms:List Nat,ms.length=len/\ms.sum+1<=m/\
       ∀(i k:Nat),ms[i]? =some k->1<=k/\dS h n k e ((us.drop (i * P.cellsOf e)).take (P.cellsOf e)))
   | some (.struct cv)=>ah.length=P.cellsOf t/\∃ms:List Nat,ms.length=cv.toList.length/\ms.sum+1<=m/\∀(i:Nat) (f:Field) (k:Nat),cv.toList[i]? =some f->ms[i]? =some k->1<=k/\dS h n k f.type ((ah.drop f.offset).take (P.cellsOf f.type))
   | some (.pointer e)=>1<=m/\(ah=[.ej]\/P.cellsOf e=0\/∃b,ah=[.ptr b 0]/\Old h b/\∃us,Rd h b us/\us.length=P.cellsOf e/\∃k,k+1<=m/\dS h n k e us)
   | some (.map _ _)=>ah=[.j6]\/ah=[.bad]
   | some (.interface _)=>ah=[.nilIface]\/ah=[.bad]
   | _=>True
end
theorem dS.ext {P:Program} {h ab:ai} (e:Ext h ab):∀(n m:Nat) (t:TypeId) (ah:List V),dS P h n m t ah->dS P ab n m t ah
 | 0,_,_,_,H=>H
 | n+1,m,t,ah,H=>by
   unfold dS at H ⊢
   split at H<;>try exact H
   . refine ⟨H.1,?_⟩;rcases H.2 with H | H | H | ⟨b,len,cap,aa,ad,aJ,dn,us,bA,bx,ms,c4,dp,lx⟩
     . exact .inl H
     . exact .inr (.inl H)
     . exact .inr (.inr (.inl H))
     . exact .inr (.inr (.inr ⟨b,len,cap,aa,ad,aJ,e.bG dn,us,e.rd dn bA,bx,ms,c4,dp,fun i k aH=>⟨(lx i k aH).1,dS.ext e n _ _ _ (lx i k aH).2⟩⟩))
   . obtain ⟨aa,ms,ad,aJ,bE⟩:=H;exact ⟨aa,ms,ad,aJ,fun i f k aA aH=>⟨(bE i f k aA aH).1,dS.ext e n _ _ _ (bE i f k aA aH).2⟩⟩
   . refine ⟨H.1,?_⟩;rcases H.2 with H | H | ⟨b,aa,dn,us,bA,bx,k,c4,dp⟩
     . exact .inl H
     . exact .inr (.inl H)
     . exact .inr (.inr ⟨b,aa,e.bG dn,us,e.rd dn bA,bx,k,c4,dS.ext e n _ _ _ dp⟩)
mutual
def gm {H:Type}:DataW H->Nat
 | .lit (.string bytes)=>bytes.length+1
 | .lit _=>1
 | .nil=>1
 | .ptr d=>gm d+1
 | .slice elems spare=>mr elems+mr spare+1
 | .agg parts=>mr parts+1
 | .iface _ d=>gm d+1
 | .map entries=>Eh entries+1
 | .held _=>1
def mr {H:Type}:List (DataW H)->Nat
 | []=>0
 | d::r=>gm d+mr r
def Eh {H:Type}:List (Lit × DataW H)->Nat
 | []=>0
 | x::r=>Iz x+Eh r
def Iz {H:Type}:Lit × DataW H->Nat
 | (.string bytes,d)=>bytes.length+gm d+1
 | (_,d)=>gm d+1
end
theorem se {H:Type} (d:DataW H):1<=gm d:=by
 cases d with
 | lit l=>cases l<;>simp [gm]
 | _=>simp [gm]
theorem Iy {H:Type}:∀l:List (DataW H),mr l=(l.map gm).sum
 | []=>by simp [mr]
 | d::r=>by simp only [mr,List.map_cons,List.sum_cons,Iy r]
theorem Ep {w:World} {base:Nat} {a:Addr} {n:Nat} {l:List Value} (h:w.cells? base a n=some l):l.length=n/\∀i,i<n->w.cell? (a.add i)=l[i]? :=by
 unfold World.cells? at h
 split at h
 . exact ⟨by simpa using mapM_some_length h,fun i an=>mapM_some_get h i i (by simp [an])⟩
 . cases h
theorem Wh {E ax:Env} (he:E.le ax) {ah:List V} {l:List Value} (H:bk E ah l):bk ax ah l:=bk.mono he ah l H
section
variable {H:Type} {enc:TypeId × Value->H} {P:Program} {W:World} {base:Nat} {sp:Nat->Bool} {held:Bool}
def Lays (P:Program) (W:World) (n m:Nat) (t:TypeId) (cs:List Value):Prop:=
 ∀(E:Env) (h:ai),bf ⟨W,fun _=>none⟩ E h W->∃ax ab ah,E.le ax/\Ext h ab/\bf ⟨W,fun _=>none⟩ ax ab W/\bk ax ah cs/\ah.length=cs.length/\dS P ab n m t ah
theorem Ub (n size:Nat) (e:TypeId):∀(pieces:List (List Value)) (ms:List Nat),ms.length=pieces.length->(∀(i:Nat) (l:List Value) (k:Nat),pieces[i]? =some l->ms[i]? =some k->l.length=size/\Lays P W n k e l)->
 ∀(E:Env) (h:ai),bf ⟨W,fun _=>none⟩ E h W->∃ax ab us,E.le ax/\Ext h ab/\bf ⟨W,fun _=>none⟩ ax ab W/\bk ax us pieces.flatten/\us.length=pieces.length * size/\
  ∀(i k:Nat),ms[i]? =some k->dS P ab n k e ((us.drop (i * size)).take size)
 | [],[],_,_,E,h,s=>⟨E,h,[],fun _ _ q=>q,Ext.refl h,s,rfl,by simp,fun i k an=>by simp at an⟩
 | [],_::_,ay,_,_,_,_=>by simp at ay
 | _::_,[],ay,_,_,_,_=>by simp at ay
 | l::ls,m::ms,lX,ag,E,h,s=>by
   obtain ⟨ay,H⟩:=ag 0 l m rfl rfl;obtain ⟨ez,aa,ah,bW,a2,a3,a4,a5,gx⟩:=H E h s;obtain ⟨cp,ad,us,cb,b9,e3,iv,jb,lk⟩:=Ub n size e ls ms (by simpa using lX) (fun i l k ar av=>ag (i+1) l k (by simpa using ar) (by simpa using av)) ez aa a3;refine ⟨cp,ad,ah++us,bW.trans cb,a2.trans b9,e3,?_,?_,?_⟩
   . rw [List.flatten_cons];exact bk.append (Wh cb a4) iv
   . rw [List.length_append,jb,a5,ay,List.length_cons,Nat.add_mul];omega
   . intro i k an;cases i with
     | zero=>
       rw [Nat.zero_mul,List.drop_zero,List.take_left' (by rw [a5,ay])];simp only [List.getElem?_cons_zero,Option.some.injEq] at an;subst an;exact dS.ext b9 _ _ _ _ gx
     | succ i=>
       rw [Nat.add_mul,Nat.one_mul,Nat.add_comm,<-List.drop_drop,List.drop_left' (by rw [a5,ay])];exact lk i k (by simpa using an)
theorem Ua (n:Nat):∀(cv:List Field) (ms:List Nat) (o ck:Nat) (cs:List Value),z6 P cv o=some ck->cs.length=ck->ms.length=cv.length->(∀(i:Nat) (f:Field) (k:Nat),cv[i]? =some f->ms[i]? =some k->Lays P W n k f.type ((cs.drop f.offset).take (P.cellsOf f.type)))->
 o<=ck/\∀(E:Env) (h:ai),bf ⟨W,fun _=>none⟩ E h W->∃ax ab ah,E.le ax/\Ext h ab/\bf ⟨W,fun _=>none⟩ ax ab W/\bk ax ah (cs.drop o)/\ah.length=ck-o/\
  ∀(i:Nat) (f:Field) (k:Nat),cv[i]? =some f->ms[i]? =some k->o<=f.offset/\dS P ab n k f.type ((ah.drop (f.offset-o)).take (P.cellsOf f.type))
 | [],_::_,_,_,_,_,_,lX,_=>by simp at lX
 | _::_,[],_,_,_,_,_,lX,_=>by simp at lX
 | [],[],o,ck,cs,aw,ay,_,_=>by simp only [z6,Option.some.injEq] at aw;subst aw;refine ⟨Nat.le_refl _,fun E h s=>⟨E,h,[],fun _ _ q=>q,Ext.refl h,s,?_,by simp,fun i f k aA=>by simp at aA⟩⟩;rw [List.drop_eq_nil_of_le (by omega)];rfl
 | f::cv,m::ms,o,ck,cs,aw,ay,lX,ag=>by
   simp only [z6] at aw;by_cases aA:f.offset=o
   . rw [if_pos aA] at aw;obtain ⟨g1,g2⟩:=Ua n cv ms (o+P.cellsOf f.type) ck cs aw ay (by simpa using lX) (fun i f k ar av=>ag (i+1) f k (by simpa using ar) (by simpa using av));refine ⟨by omega,fun E h s=>?_⟩;have wE:=ag 0 f m rfl rfl;obtain ⟨ez,aa,ah,bW,a2,a3,a4,a5,gx⟩:=wE E h s;obtain ⟨cp,ad,us,cb,b9,e3,iv,jb,lk⟩:=g2 ez aa a3;have l2:ah.length=P.cellsOf f.type:=by rw [a5,List.length_take,List.length_drop,aA];omega
     refine ⟨cp,ad,ah++us,bW.trans cb,a2.trans b9,e3,?_,?_,?_⟩
     . have e:cs.drop o=(cs.drop f.offset).take (P.cellsOf f.type)++cs.drop (o+P.cellsOf f.type):=by
        rw [aA,<-List.drop_drop,List.take_append_drop]
       rw [e];exact bk.append (Wh cb a4) iv
     . rw [List.length_append,l2,jb];omega
     . intro i g k aB aH;cases i with
       | zero=>
         simp only [List.getElem?_cons_zero,Option.some.injEq] at aB aH;subst aB aH;refine ⟨by omega,?_⟩;rw [aA,Nat.sub_self,List.drop_zero,List.take_left' l2];exact dS.ext b9 _ _ _ _ gx
       | succ i=>
         obtain ⟨bP,bY⟩:=lk i g k (by simpa using aB) (by simpa using aH);refine ⟨by omega,?_⟩;rw [show g.offset-o=P.cellsOf f.type + (g.offset - (o+P.cellsOf f.type)) from by omega,<-List.drop_drop,List.drop_left' l2];exact bY
   . rw [if_neg aA] at aw;cases aw
theorem Q4 {w:World} {a:Addr} {y:Value} (h:w.cell? a=some y):a.spot=none/\∃c el b4,w.heap[a.block]? =some (.cells c el b4)/\c[a.off]? =some y:=by
 refine ⟨World.cell?_spot h,?_⟩;unfold World.cell? at h
 split at h
 . rename_i c el b4 bl
   split at h
   . cases h
   . exact ⟨c,el,b4,bl,h⟩
 . cases h
theorem Zz (a:Addr) (n:Nat):(a.add n).block=a.block:=by unfold Addr.add;split<;>rfl
theorem ZA (a:Addr) (n:Nat):(a.add n).off=a.off+n:=by unfold Addr.add;split<;>simp_all
theorem amI {w:World} {a:Addr} {l:List Value} (aX:0<l.length) (h:∀i,i<l.length->w.cell? (a.add i)=l[i]?):
 a.spot=none/\∃c el b4,w.heap[a.block]? =some (.cells c el b4)/\a.off+l.length<=c.size/\∀i,i<l.length->c[a.off+i]? =l[i]? :=by
 have yG:w.cell? (a.add 0)=some l[0]:=by rw [h 0 aX];exact List.getElem?_eq_getElem aX
 obtain ⟨s1,c,el,b4,s2,kM⟩:=Q4 yG;have c0:a.add 0=a:=by unfold Addr.add;simp
 rw [c0] at s1 s2 kM;have key:∀i,i<l.length->c[a.off+i]? =l[i]? :=by intro i an;have q:=h i an;rw [List.getElem?_eq_getElem an] at q ⊢;obtain ⟨_,fX,apH,apJ,t2,t3⟩:=Q4 q;rw [Zz,s2] at t2;rw [ZA] at t3;simp only [Option.some.injEq,Obj.cells.injEq] at t2;obtain ⟨rfl,_,_⟩:=t2;exact t3
 refine ⟨s1,c,el,b4,s2,?_,key⟩;have:=key (l.length-1) (by omega);rw [List.getElem?_eq_getElem (by omega)] at this;have aO:=(Array.getElem?_eq_some_iff.1 this).1;omega
theorem XO {E:Env} {h:ai} (s:bf ⟨W,fun _=>none⟩ E h W) {a:Addr} {cap:Nat} {l:List Value} (aX:0<l.length) (aD:∀i,i<l.length->W.cell? (a.add i)=l[i]?) {us:List V} (aF:bk E us l):
 ∃ax ab b,E.le ax/\Ext h ab/\bf ⟨W,fun _=>none⟩ ax ab W/\Old ab b/\a.spot=none/\ax b=some ⟨a.block,a.off,cap⟩/\Rd ab b us:=by
 obtain ⟨s1,c,el,b4,s2,kM,zT⟩:=amI aX aD;have Ts:us.length=l.length:=(bk.length aF).symm;refine ⟨rT E h ⟨a.block,a.off,cap⟩,h.new (.ro us),aj h.next,Ny s _,(Ext.refl h).new _,am_ s s2 (by omega) fun i v y bh aZ=>?_,Vh,s1,XN _ _ _,.inl (ni _)⟩;have an:i<l.length:=by have:=(List.getElem?_eq_some_iff.1 bh).1;omega
 rw [zT i an] at aZ;obtain ⟨xN,aP,a'⟩:=bk.get aF i v bh;rw [aZ] at aP;simp only [Option.some.injEq] at aP;rw [aP];exact a'
theorem R8 {α:Type} (size:Nat):∀(pieces:List (List α)) (i j:Nat),(∀l ∈ pieces,l.length=size)->i<pieces.length->j<size->pieces.flatten[i * size+j]? =(pieces[i]?).bind (·[j]?)
 | [],i,j,_,an,_=>by simp at an
 | l::ls,i,j,ag,an,aU=>by
   have ay:l.length=size:=ag l (by simp);cases i with
   | zero=>
     rw [Nat.zero_mul,Nat.zero_add,List.flatten_cons,List.getElem?_append_left (by omega)];simp
   | succ i=>
     rw [List.flatten_cons,List.getElem?_append_right (by rw [ay,Nat.add_mul];omega)];rw [show (i+1) * size+j-l.length=i * size+j from by rw [ay,Nat.add_mul];omega];rw [R8 size ls i j (fun l ay=>ag l (by simp [ay])) (by simpa using an) aU];simp
theorem R9 {α:Type} (size:Nat):∀(pieces:List (List α)),(∀l ∈ pieces,l.length=size)->pieces.flatten.length=pieces.length * size
 | [],_=>by simp
 | l::ls,ag=>by rw [List.flatten_cons,List.length_append,R9 size ls (fun l ay=>ag l (by simp [ay])),ag l (by simp),List.length_cons,Nat.add_mul];omega
theorem VG {α:Type} (R:Nat->α->Prop):∀(len:Nat),(∀i,i<len->∃l,R i l)->∃bm:List α,bm.length=len/\∀i l,bm[i]? =some l->R i l
 | 0,_=>⟨[],rfl,fun i l q=>by simp at q⟩
 | m+1,h=>by
   obtain ⟨bm,ar,av⟩:=VG R m (fun i an=>h i (by omega));obtain ⟨l,aa⟩:=h m (by omega);refine ⟨bm++[l],by simp [ar],fun i dT eP=>?_⟩;by_cases an:i<bm.length
   . rw [List.getElem?_append_left an] at eP;exact av i dT eP
   . rw [List.getElem?_append_right (by omega)] at eP;have c0:i-bm.length=0:=by
      by_cases q:i-bm.length=0
      . exact q
      . rw [List.getElem?_eq_none (by simp;omega)] at eP;cases eP
     rw [c0] at eP;simp at eP;subst eP;obtain rfl:i=m:=by omega
     exact aa
theorem F1 (dz:xA P=true) (eO:laidOutB P=true):∀(n:Nat) (t:TypeId) (cs:List Value) (x:DataW H × List MemPlace),t<P.types.size->DataW.trod enc P W base sp held n t cs=some x->Lays P W n (gm x.1) t cs
 | 0,t,cs,x,_,h=>by simp [DataW.trod] at h
 | n+1,t,cs,x,aO,h=>by
   have Ea:∀(cs:List Value),(∀ab ah,ah.length=cs.length->dS P ab (n+1) (gm x.1) t ah)->Lays P W (n+1) (gm x.1) t cs:=by
    intro cs H E h s;refine ⟨E,h,cs.map fun _=>.bad,fun _ _ q=>q,Ext.refl h,s,?_,by simp,H _ _ (by simp)⟩;clear H
    induction cs with
    | nil=>rfl
    | cons c cs br=>exact ⟨c,cs,rfl,by simp [Rel],br⟩
   cases hu:P.underlying t with
   | none=>
     refine Ea cs fun ab ah _=>?_;simp only [dS,hu]
   | some u=>
     cases u with
     | bool=>
       obtain ⟨b,rfl,_⟩:=DataW.trod_bool hu h;intro E h s;exact ⟨E,h,[.bool b],fun _ _ q=>q,Ext.refl h,s,⟨_,_,rfl,rfl,rfl⟩,rfl,by simp only [dS,hu];exact ⟨b,rfl⟩⟩
     | int k=>
       obtain ⟨i,rfl,_,hw⟩:=DataW.trod_int hu h;intro E h s;exact ⟨E,h,[.int k i],fun _ _ q=>q,Ext.refl h,s,⟨_,_,rfl,rfl,rfl⟩,rfl,by simp only [dS,hu];exact ⟨i,rfl,hw⟩⟩
     | string=>
       obtain ⟨b,rfl,rfl,_⟩:=DataW.trod_string hu h;intro E h s;exact ⟨E,h,[.str b.data.toList],fun _ _ q=>q,Ext.refl h,s,⟨_,_,rfl,rfl,rfl⟩,rfl,by simp only [dS,hu,gm];exact ⟨_,rfl,Nat.le_refl _⟩⟩
     | struct cv=>
       obtain ⟨xs,hK,aV,rfl,ay,ze,aA⟩:=DataW.trod_struct hu h;obtain rfl:n=hK:=by omega
       have agc:z6 P cv.toList 0=some (P.cellsOf t):=by unfold xA at dz;rw [List.all_eq_true] at dz;have:=dz t (List.mem_range.2 aO);rw [hu] at this;exact of_decide_eq_true this
       have jd:∀(i:Nat) (f:Field) (k:Nat),cv.toList[i]? =some f->(xs.map fun x=>gm x.1)[i]? =some k->Lays P W n k f.type ((cs.drop f.offset).take (P.cellsOf f.type)):=by
        intro i f k an aH;have o':f ∈ cv.toList:=List.mem_of_getElem? an;have hE:cv[i]? =some f:=by simpa using an
        have:=aA i f hE;have SY:i<xs.length:=by rw [ze];exact (Array.getElem?_eq_some_iff.1 hE).1
        rw [List.getElem?_eq_getElem SY] at this;rw [List.getElem?_map,List.getElem?_eq_getElem SY,Option.map_some,Option.some.injEq] at aH;subst aH;exact F1 dz eO n _ _ _ ((kid_struct eO aO hu).1 f o') this
       intro E h s;obtain ⟨_,g⟩:=Ua n cv.toList (xs.map fun x=>gm x.1) 0 _ cs agc ay (by simp [ze]) jd;obtain ⟨ax,ab,ah,bW,a2,a3,a4,a5,gx⟩:=g E h s;refine ⟨ax,ab,ah,bW,a2,a3,by simpa using a4,by rw [a5,ay];omega,?_⟩;simp only [dS,hu];refine ⟨by omega,xs.map fun x=>gm x.1,by simp [ze],?_,fun i f k o' aH=>⟨?_,by simpa using (gx i f k o' aH).2⟩⟩
       . simp only [gm,Iy,List.map_map];exact Nat.le_refl _
       . rw [List.getElem?_map,Option.map_eq_some_iff] at aH;obtain ⟨y,_,rfl⟩:=aH;exact se _
     | slice e=>
       rcases DataW.trod_slice hu h with ⟨rfl,rfl⟩ | ⟨a,len,cap,elems,rest,hK,aV,rfl,rfl,ae,sB,_,SK,ae_,_,_⟩
       . intro E h s;exact ⟨E,h,[.bF],fun _ _ q=>q,Ext.refl h,s,⟨_,_,rfl,rfl,rfl⟩,rfl,by simp only [dS,hu];exact ⟨se _,.inl trivial⟩⟩
       . obtain rfl:n=hK:=by omega
         by_cases aR:P.cellsOf e=0
         . refine Ea _ fun ab ah _=>?_;simp only [dS,hu];exact ⟨se _,.inr (.inr (.inl aR))⟩
         by_cases p9:len=0
         . subst p9;intro E h s;refine ⟨E,h,[.hY .z 0 0 0],fun _ _ q=>q,Ext.refl h,s,⟨_,_,rfl,?_,rfl⟩,rfl,by simp only [dS,hu];exact ⟨se _,.inr (.inl ⟨_,_,_,_,rfl⟩)⟩⟩;simp only [Rel];exact ⟨_,_,rfl⟩
         . -- its elements
           have j1:∀i,i<len->∃l,W.cells? base (a.add (i * P.cellsOf e)) (P.cellsOf e)=some l/\∀k:Nat,(elems.map fun x=>gm x.1)[i]? =some k->Lays P W n k e l:=by intro i an;have:=ae_ i an;rw [List.getElem?_eq_getElem (by omega)] at this;rw [Option.bind_eq_some_iff] at this;obtain ⟨l,aa,ad⟩:=this;refine ⟨l,aa,fun k aH=>?_⟩;rw [List.getElem?_map,List.getElem?_eq_getElem (by omega),Option.map_some,Option.some.injEq] at aH;subst aH;exact F1 dz eO n _ _ _ (kid_slice eO aO hu) ad
           obtain ⟨pieces,je,h6⟩:∃pieces:List (List Value),pieces.length=len/\∀i (l:List Value),pieces[i]? =some l->W.cells? base (a.add (i * P.cellsOf e)) (P.cellsOf e)=some l/\∀k:Nat,(elems.map fun x=>gm x.1)[i]? =some k->Lays P W n k e l:=by exact VG (fun i l=>W.cells? base (a.add (i * P.cellsOf e)) (P.cellsOf e)=some l/\∀k:Nat,(elems.map fun x=>gm x.1)[i]? =some k->Lays P W n k e l) len j1
           have jw:∀(i:Nat) (l:List Value) (k:Nat),pieces[i]? =some l->(elems.map fun x=>gm x.1)[i]? =some k->l.length=P.cellsOf e/\Lays P W n k e l:=by intro i l k an aH;obtain ⟨ar,av⟩:=h6 i l an;exact ⟨(Ep ar).1,av k aH⟩
           have S_:∀l ∈ pieces,l.length=P.cellsOf e:=by intro l ay;obtain ⟨i,an⟩:=List.getElem?_of_mem ay;exact (Ep (h6 i l an).1).1
           intro E h s;obtain ⟨ez,aa,us,bW,a2,a3,a4,a5,gx⟩:=Ub n (P.cellsOf e) e pieces (elems.map fun x=>gm x.1) (by simp [SK,je]) jw E h s;have jd:=R9 (P.cellsOf e) pieces S_;have BK:0<len * P.cellsOf e:=Nat.mul_pos (by omega) (by omega);have wc:∀i,i<pieces.flatten.length->W.cell? (a.add i)=pieces.flatten[i]? :=by
            intro q aC;rw [jd] at aC;have S3:q % P.cellsOf e<P.cellsOf e:=Nat.mod_lt _ (by omega);have hdiv:q / P.cellsOf e<pieces.length:=Nat.div_lt_of_lt_mul (by rw [Nat.mul_comm];exact aC);have y0:q / P.cellsOf e * P.cellsOf e+q % P.cellsOf e=q:=by rw [Nat.mul_comm];exact Nat.div_add_mod q _
            rw [<-y0,R8 (P.cellsOf e) pieces _ _ S_ hdiv S3,List.getElem?_eq_getElem hdiv];obtain ⟨ar,_⟩:=h6 _ _ (List.getElem?_eq_getElem hdiv);have:=(Ep ar).2 _ S3;rw [Option.bind_some,<-this];congr 1;unfold Addr.add;by_cases b6:q / P.cellsOf e * P.cellsOf e=0
            . rw [b6];simp
            . by_cases z2:q % P.cellsOf e=0
              . rw [z2];simp
              . have z3:¬(q / P.cellsOf e * P.cellsOf e+q % P.cellsOf e=0):=by omega
                rw [if_neg b6,if_neg z2,if_neg z3];simp [Nat.add_assoc]
           obtain ⟨cp,ad,b,cb,b9,e3,iv,jb,lk,tD⟩:=XO a3 (cap:=cap) (by rw [jd,je];exact BK) wc a4;refine ⟨cp,ad,[.slice b 0 len cap],bW.trans cb,a2.trans b9,e3,⟨_,_,rfl,?_,rfl⟩,rfl,?_⟩
           . simp only [Rel];refine ⟨_,lk,sB,?_⟩;obtain ⟨vG,ak2,st⟩:=a;simp only at jb;subst jb;rfl
           . simp only [dS,hu];refine ⟨se _,.inr (.inr (.inr ⟨b,len,cap,rfl,by omega,sB,iv,us,tD,by rw [a5,je],elems.map fun x=>gm x.1,by simp [SK],?_,fun i k aH=>⟨?_,dS.ext b9 _ _ _ _ (gx i k aH)⟩⟩))⟩
             . simp only [gm,Iy,List.map_map];exact Nat.add_le_add_right (Nat.le_add_right _ _) 1
             . rw [List.getElem?_map,Option.map_eq_some_iff] at aH;obtain ⟨y,_,rfl⟩:=aH;exact se _
     | pointer e=>
       rcases DataW.trod_pointer hu h with ⟨rfl,rfl⟩ | ⟨a,yf,y,hK,aV,rfl,rfl,aD,aZ⟩
       . intro E h s;exact ⟨E,h,[.ej],fun _ _ q=>q,Ext.refl h,s,⟨_,_,rfl,rfl,rfl⟩,rfl,by simp only [dS,hu];exact ⟨se _,.inl trivial⟩⟩
       . obtain rfl:n=hK:=by omega
         by_cases aR:P.cellsOf e=0
         . refine Ea _ fun ab ah _=>?_;simp only [dS,hu];exact ⟨se _,.inr (.inl aR)⟩
         . intro E h s;obtain ⟨ar,av⟩:=Ep aD;obtain ⟨ez,aa,us,bW,a2,a3,a4,a5,gx⟩:=F1 dz eO n _ _ _ (kid_pointer eO aO hu) aZ E h s;obtain ⟨cp,ad,b,cb,b9,e3,iv,jb,lk,tD⟩:=XO a3 (cap:=0) (by omega) (fun i an=>av i (by omega)) a4;refine ⟨cp,ad,[.ptr b 0],bW.trans cb,a2.trans b9,e3,⟨_,_,rfl,?_,rfl⟩,rfl,?_⟩
           . simp only [Rel];refine ⟨_,lk,?_⟩;obtain ⟨vG,ak2,st⟩:=a;simp only at jb;subst jb;rfl
           . simp only [dS,hu];exact ⟨se _,.inr (.inr ⟨b,rfl,iv,us,tD,by omega,_,Nat.le_refl _,dS.ext b9 _ _ _ _ gx⟩)⟩
     | map k e=>
       have ho:cs.length=1:=by
        unfold DataW.trod at h;rw [hu] at h
        split at h<;>simp_all
       intro E h s;refine ⟨E,h,[.bad],fun _ _ q=>q,Ext.refl h,s,?_,by simp [ho],by simp only [dS,hu];exact .inr trivial⟩
       match cs,ho with
       | [c],_=>exact ⟨c,[],rfl,by simp [Rel],rfl⟩
     | interface ms=>
       have ho:cs.length=1:=by
        unfold DataW.trod at h;rw [hu] at h
        split at h<;>simp_all
       intro E h s;refine ⟨E,h,[.bad],fun _ _ q=>q,Ext.refl h,s,?_,by simp [ho],by simp only [dS,hu];exact .inr trivial⟩
       match cs,ho with
       | [c],_=>exact ⟨c,[],rfl,by simp [Rel],rfl⟩
     | _=>
       refine Ea cs fun ab ah _=>?_;simp only [dS,hu]
def qN (P:Program) (h:ai) (n m:Nat) (t:TypeId) (v:V):Prop:=
 match P.underlying t with
 | some (.struct _) | some (.array _ _)=>∃ah,v=.agg ah/\dS P h n m t ah
 | _=>dS P h n m t [v]
theorem qN.ext {h ab:ai} (e:Ext h ab) {n m:Nat} {t:TypeId} {v:V} (H:qN P h n m t v):qN P ab n m t v:=by
 unfold qN at H ⊢
 split at H
 . obtain ⟨ah,ar,av⟩:=H;exact ⟨ah,ar,dS.ext e _ _ _ _ av⟩
 . obtain ⟨ah,ar,av⟩:=H;exact ⟨ah,ar,dS.ext e _ _ _ _ av⟩
 . exact dS.ext e _ _ _ _ H
theorem ajH (dz:xA P=true) (eO:laidOutB P=true) {r:Reach} {vC:Nat} {t:TypeId} {v:Value} {d:DataW H} {p:List MemPlace} (aO:t<P.types.size) (bK:Value.okWide P W r vC t v) (bc:DataW.Trod enc P W base sp held t v d p) {E:Env} {h:ai} (s:bf ⟨W,fun _=>none⟩ E h W):
 ∃n ax ab x,E.le ax/\Ext h ab/\bf ⟨W,fun _=>none⟩ ax ab W/\Rel ax x v/\qN P ab n (gm d) t x:=by
 obtain ⟨fuel,aA⟩:=bc;obtain ⟨ax,ab,ah,bW,a2,a3,a4,a5,gx⟩:=F1 dz eO _ _ _ _ aO aA E h s;have agg:(∃cs,v=.agg cs)->∃x,Rel ax x v/\x=.agg ah:=by rintro ⟨cs,rfl⟩;exact ⟨.agg ah,by simp only [Rel];exact ⟨cs,rfl,a4⟩,rfl⟩
 have one:v.cells=#[v]->∃x,Rel ax x v/\ah=[x]:=by
  intro aD;rw [aD] at a4 a5
  match ah,a4,a5 with
  | [x],⟨y,cY,aP,a',cM⟩,_=>
    simp only [List.cons.injEq] at aP;exact ⟨x,aP.1 ▸ a',rfl⟩
 refine ⟨fuel,ax,ab,?_⟩;unfold Value.okWide at bK;cases hu:P.underlying t with
 | none=>
   rw [hu] at bK;simp only [Cell.okWide,Cell.ok,hu] at bK
 | some u=>
   rw [hu] at bK;unfold qN;rw [hu];cases u<;>simp only at bK ⊢<;>first
    | (obtain ⟨cs,bh,_⟩:=bK
       obtain ⟨x,ar,av⟩:=agg ⟨cs,bh⟩;exact ⟨x,bW,a2,a3,ar,ah,av,gx⟩)
    | (have aD:v.cells=#[v]:=by
        cases v<;>first
         | rfl
         | (simp only [Cell.okWide,Cell.ok,hu] at bK)
       obtain ⟨x,ar,av⟩:=one aD;exact ⟨x,bW,a2,a3,ar,av ▸ gx⟩)
def n' (P:Program) (h:ai):Nat->List TypeId->List V->Prop
 | _,[],[]=>True
 | m,t::cQ,v::ah=>∃k bj,k+bj<=m/\(∃n,qN P h n k t v)/\n' P h bj cQ ah
 | _,_,_=>False
theorem n'.mono {h:ai}:∀{m du:Nat} {cQ:List TypeId} {ah:List V},m<=du->n' P h m cQ ah->n' P h du cQ ah
 | _,_,[],[],_,H=>by unfold n';trivial
 | _,_,[],_::_,_,H=>H.elim
 | _,_,_::_,[],_,H=>H.elim
 | _,_,_::_,_::_,hm,⟨k,bj,aH,H,fh⟩=>⟨k,bj,Nat.le_trans aH hm,H,fh⟩
theorem T_ (dz:xA P=true) (eO:laidOutB P=true) {r:Reach} {vC:Nat}:∀{cQ:List TypeId} {ah:List Value} {ds:List (DataW H)} {p:List MemPlace},(∀t ∈ cQ,t<P.types.size)->(∀(j:Nat) t v,cQ[j]? =some t->ah[j]? =some v->Value.okWide P W r vC t v)->
 DataW.TrodAll enc P W base sp held cQ ah ds p->∀{E:Env} {h:ai},bf ⟨W,fun _=>none⟩ E h W->∃ax ab xs,E.le ax/\Ext h ab/\bf ⟨W,fun _=>none⟩ ax ab W/\bk ax xs ah/\n' P ab (mr ds) cQ xs
 | [],[],ds,p,_,_,_,E,h,s=>⟨E,h,[],fun _ _ q=>q,Ext.refl h,s,rfl,by unfold n';trivial⟩
 | [],_::_,ds,p,_,_,bc,E,h,s=>by cases ds<;>exact bc.elim
 | _::_,[],ds,p,_,_,bc,E,h,s=>by cases ds<;>exact bc.elim
 | _::_,_::_,[],p,_,_,bc,E,h,s=>bc.elim
 | t::cQ,v::ah,d::ds,p,aw,bh,⟨bZ,bX,aa,ad,_⟩,E,h,s=>by obtain ⟨n,ez,g1,x,bW,a2,a3,a4,a5⟩:=ajH dz eO (aw t (by simp)) (bh 0 t v rfl rfl) aa s;obtain ⟨cp,g2,xs,cb,b9,e3,iv,jb⟩:=T_ dz eO (fun t q=>aw t (by simp [q])) (fun j t v ar av=>bh (j+1) t v (by simpa using ar) (by simpa using av)) ad a3;exact ⟨cp,g2,x::xs,bW.trans cb,a2.trans b9,e3,⟨_,_,rfl,Rel.mono cb _ _ a4,iv⟩,gm d,mr ds,by simp only [mr];exact Nat.le_refl _,⟨n,a5.ext b9⟩,jb⟩
theorem abI (dz:xA P=true) (eO:laidOutB P=true) {r:Reach} {vC:Nat} {f:FuncId} {cQ:List TypeId} {ah:List Value} {ds:List (DataW H)} {p:List MemPlace} (fk:∀t ∈ cQ,t<P.types.size) (bh:∀(j:Nat) t v,cQ[j]? =some t->ah[j]? =some v->Value.okWide P W r vC t v)
 (bc:DataW.TrodAll enc P W base sp held cQ ah ds p) (wa:Lay.ok W) (bJ:eT P) (ae:∃fn,P.funcs[f]? =some fn/\fn.body.isSome=true) (aD:∀(h:ai) (xs:List V),n' P h (mr ds) cQ xs->db P f xs h fun y _=>y=.bool true):
 Calls P f ah.toArray W fun e ao=>e=.returned (.bool true)/\Below W.heap.size W ao:=by
 obtain ⟨E,h,xs,_,_,a3,a4,a5⟩:=T_ dz eO fk bh bc (WS W wa);obtain ⟨y,ab,kh,rfl⟩:=aD h xs a5;refine (kh.calls bJ ae _ E W ah a4 a3).mono fun e ao q=>?_;obtain ⟨ax,x,rfl,_,av,aK⟩:=q;simp only [Rel] at av;subst av;exact ⟨rfl,aK.frame⟩
end
end
section
open Go Go.RowKit
variable [Lay]
section
variable {P:Program} {h:ai} {n m:Nat} {t:TypeId}
theorem dS.pos {ah:List V} (H:dS P h n m t ah):∃k,n=k+1:=by
 cases n with
 | zero=>exact H.elim
 | succ m=>exact ⟨m,rfl⟩
theorem dS.int {ah:List V} {k:IntKind} (H:dS P h n m t ah) (hu:P.underlying t=some (.int k)):∃i,ah=[.int k i]/\(Lit.int k i).wf=true:=by obtain ⟨m,rfl⟩:=H.pos;simpa only [dS,hu] using H
theorem dS.str {ah:List V} (H:dS P h n m t ah) (hu:P.underlying t=some .string):∃s:List UInt8,ah=[.str s]/\s.length+1<=m:=by obtain ⟨_,rfl⟩:=H.pos;simpa only [dS,hu] using H
theorem dS.struct {ah:List V} {cv:Array Field} (H:dS P h n m t ah) (hu:P.underlying t=some (.struct cv)):∃hK,n=hK+1/\ah.length=P.cellsOf t/\∃ms:List Nat,ms.length=cv.toList.length/\ms.sum+1<=m/\
 ∀(i:Nat) (f:Field) (k:Nat),cv.toList[i]? =some f->ms[i]? =some k->1<=k/\dS P h hK k f.type ((ah.drop f.offset).take (P.cellsOf f.type)):=by
 obtain ⟨hK,rfl⟩:=H.pos;refine ⟨hK,rfl,?_⟩;simpa only [dS,hu] using H
def rN (v:V):Prop:=∀b off l c,v=.slice b off l c->l<=c
def DQ (h:ai) (size:Nat) (v:V) (len m:Nat) (Q:Nat->List V->Prop):Prop:=
 v.one=true/\v.cells=[v]/\v.fY=true/\lA v=some (.int .i64 len)/\rN v/\∃(us:List V) (ms:List Nat),fC h size v len us/\ms.length=len/\ms.sum+1<=m/\∀(i k:Nat),ms[i]? =some k->1<=k/\Q k ((us.drop (i * size)).take size)
theorem dS.slice {ah:List V} {e:TypeId} (H:dS P h n m t ah) (hu:P.underlying t=some (.slice e)) (aR:P.cellsOf e≠0):∃hK v len,n=hK+1/\ah=[v]/\DQ h (P.cellsOf e) v len m (fun k=>dS P h hK k e):=by
 obtain ⟨hK,rfl⟩:=H.pos;simp only [dS,hu] at H;obtain ⟨aX,H⟩:=H;rcases H with rfl | ⟨b,i,j,k,rfl⟩ | q | ⟨b,len,cap,rfl,aa,ad,bE,us,bA,bx,ms,c4,dp,lx⟩
 . exact ⟨hK,_,0,rfl,rfl,rfl,rfl,rfl,rfl,(fun _ _ _ _ e=>by cases e),[],[],⟨by simp,rfl⟩,rfl,by simpa using aX,fun i k an=>by simp at an⟩
 . exact ⟨hK,_,0,rfl,rfl,rfl,rfl,rfl,rfl,(fun _ _ _ _ e=>by cases e),[],[],⟨by simp,rfl⟩,rfl,by simpa using aX,fun i k an=>by simp at an⟩
 . exact absurd q aR
 . exact ⟨hK,_,len,rfl,rfl,rfl,rfl,rfl,rfl,(fun _ _ _ _ e=>by cases e;exact ad),us,ms,⟨bx,rfl,bE,us,bA,by omega,by simp⟩,c4,dp,lx⟩
end
end
section
open Go Go.RowKit Go.ChangeShapes Go.WideShapes
variable [Lay]
section
variable {H:Type} {enc:TypeId × Value->H} {P:Program}
theorem Pm (eO:laidOutB P=true) {W kv:World} (ae:Below W.heap.size W kv):∀{cQ:List TypeId} {ah:List Value} {ds:List (DataW H)} {bm:List MemPlace},(cQ.all fun t=>P.readableRec t&&decide (t<P.types.size))=true->
 DataW.TrodAll enc P W 0 (fun _=>true) true cQ ah ds bm->DataW.TrodAll enc P kv 0 (fun b=>decide (b<W.heap.size)) true cQ ah ds bm
 | [],[],[],_,_,h=>h
 | [],_::_,_,_,_,h=>by rename_i ds _;cases ds<;>exact h.elim
 | [],[],_::_,_,_,h=>h.elim
 | _::_,[],_,_,_,h=>by rename_i ds _;cases ds<;>exact h.elim
 | _::_,_::_,[],_,_,h=>h.elim
 | t::cQ,v::ah,d::ds,bm,aF,h=>by have aO:=h.lt;obtain ⟨p,q,aa,ad,rfl⟩:=h;simp only [List.all_cons,Bool.and_eq_true,decide_eq_true_eq] at aF;exact ⟨p,q,Below.trod eO aF.1.1 aF.1.2 aa ae (fun x ak=>aO x (by simp [ak])),Pm eO ae aF.2 ad,rfl⟩
theorem Xx {W:World} {base:Nat} {sp:Nat->Bool} {held:Bool}:∀{cQ:List TypeId} {ah:List Value} {ds:List (DataW H)} {bm:List MemPlace},DataW.TrodAll enc P W base sp held cQ ah ds bm->ds.length=cQ.length
 | [],[],[],_,_=>rfl
 | [],_::_,ds,_,h=>by cases ds<;>exact h.elim
 | [],[],_::_,_,h=>h.elim
 | _::_,[],ds,_,h=>by cases ds<;>exact h.elim
 | _::_,_::_,[],_,h=>h.elim
 | t::cQ,v::ah,d::ds,bm,h=>by obtain ⟨p,q,aa,ad,rfl⟩:=h;simp [Xx ad]
theorem ajx (dz:xA P=true) (eO:laidOutB P=true) {f:FuncId} {fn:Func} {s:ChangeSpec} {Ni:TypeId} (fk:(fn.params.toList.all fun t=>P.readableRec t&&decide (t<P.types.size))=true) (Tu:s.vars=[]) (af2:fn.resultTypes=#[Ni]) (pe:P.underlying Ni=some .bool)
 (KZ:∀ds:List (DataW H),ds.length=fn.params.size->s.fn H (ds++[])={results:=[.lit (.bool true)],args:=ds})
 {B:Nat} (aD:∀(h:ai) (xs:List V),n' P h B fn.params.toList xs->db P f xs h fun y _=>y=.bool true)
 {W:World} {base:Nat} {args:Array Value} {ds gs:List (DataW H)} {before:List MemPlace} (aH:mr (ds++gs)<=B) (lu:Lay.ok W) (bJ:eT P) (ae:∃fn,P.funcs[f]? =some fn/\fn.body.isSome=true)
 (K2:∀(j:Nat) t v,fn.params[j]? =some t->args[j]? =some v->Value.okWide P W .any base t v) (wa:DataW.Whole enc P fn.params.toList s.vars false W args.toList ds gs before):
 Calls P f args W fun e kv=>∃v,e=.returned v/\s.post enc P fn false true false false W args v kv:=by
 have aev:=wa;obtain ⟨p,q,nk,E5,rfl,q8,nv⟩:=wa;rw [Tu] at E5;obtain ⟨rfl,rfl⟩:=trodVars_none E5;have hlen:ds.length=fn.params.size:=by rw [Xx nk];simp
 have hw:=abI dz eO (vC:=base) (r:=.any) (fun t aw=>by have:=List.all_eq_true.1 fk t aw;simp only [Bool.and_eq_true,decide_eq_true_eq] at this;exact this.2) (fun j t v aa ad=>K2 j t v (by simpa using aa) (by simpa using ad)) nk lu bJ ae (fun h xs q=>aD h xs (q.mono (by simpa using aH)));simp only [Array.toArray_toList] at hw;refine hw.mono fun e kv ⟨he,Pl⟩=>?_;subst he;refine ⟨_,rfl,ds,[],p++[],[],p,[],aev,?_,?_,?_,Pl.frame _,fun h=>by cases h⟩
 . rw [KZ ds hlen,af2];exact trodAll_mk1 (shut_bool pe _)
 . rw [KZ ds hlen];exact Pm eO Pl fk nk
 . rw [KZ ds hlen,Tu];rfl
end
end
section
open Go Go.RowKit
variable [Lay]
theorem am6 {P:Program} {h:ai} {B:Nat} {xs:List V} (aR:n' P h B [] xs):xs=[]:=by
 match xs,aR with
 | [],_=>rfl
theorem WQ {P:Program} {h:ai} {B:Nat} {t:TypeId} {cQ:List TypeId} {xs:List V} (aR:n' P h B (t::cQ) xs):∃a DZ k bj n,xs=a::DZ/\k+bj<=B/\qN P h n k t a/\n' P h bj cQ DZ:=by
 match xs,aR with
 | a::DZ,⟨k,bj,aH,⟨n,aX⟩,aa⟩=>exact ⟨a,DZ,k,bj,n,rfl,aH,aX,aa⟩
section
variable {P:Program} {h:ai} {n m:Nat} {t:TypeId} {v:V}
theorem WR {e:TypeId} (aR:qN P h n m t v) (hu:P.underlying t=some (.slice e)) {c:Nat} (aD:P.cellsOf e=c) (yG:c≠0):∃hK len,DQ h c v len m (fun k=>dS P h hK k e):=by unfold qN at aR;rw [hu] at aR;subst aD;obtain ⟨hK,w,len,_,aP,g⟩:=dS.slice aR hu yG;simp only [List.cons.injEq,and_true] at aP;subst aP;exact ⟨hK,len,g⟩
end
end
section
open Go Go.RowKit
set_option linter.defProp false
variable [Lay]
end
section
open Go Go.RowKit
variable [Lay]
theorem acd {P:Program} {aI:List ia} {r:bd} {h:ai} {Q:dm->bd->ai->Prop} {a b:aW}:yd P (.bool true) a b aI r h Q=bo P (.c a::aI) .normal r h Q:=by rw [Q'];simp
theorem acb {P:Program} {aI:List ia} {r:bd} {h:ai} {Q:dm->bd->ai->Prop} {a b:aW}:yd P (.bool false) a b aI r h Q=bo P (.c b::aI) .normal r h Q:=by rw [Q'];simp
theorem Pn (a b:List UInt8):pU a b=decide (a=b):=by rw [vD,Bool.eq_iff_iff];simp
theorem Iu (k:IntKind) (b:Int) (d y:Nat):bound (some (.int k b)) d y=if 0<=b/\b<=(y:Int) then some b.toNat else none:=by simp only [bound,V.eu,oB];by_cases aa:0<=b<;>by_cases ad:b<=(y:Int)<;>simp [aa,ad]
theorem anc (s:List UInt8) (k:IntKind) (b:Int):mS (.str s) none (some (.int k b)) none=if 0<=b/\b<=(s.length:Int) then some (.str (s.take b.toNat)) else none:=by
 simp only [mS,Iu];by_cases h:0<=b/\b<=(s.length:Int)
 . simp only [h,and_self,if_true,bound,List.drop_zero,Nat.sub_zero]
 . simp only [h,if_false]
theorem ane (s:List UInt8) (k:IntKind) (a:Int):mS (.str s) (some (.int k a)) none none=if 0<=a/\a<=(s.length:Int) then some (.str (s.drop a.toNat)) else none:=by
 simp only [mS,sd,Iu];by_cases h:0<=a/\a<=(s.length:Int)
 . simp only [h,and_self,if_true];rw [List.take_of_length_le (by rw [List.length_drop];omega)]
 . simp only [h,if_false]
theorem ang (s:List UInt8) (k bj:IntKind) (a b:Int):mS (.str s) (some (.int k a)) (some (.int bj b)) none=if 0<=a/\a<=b/\b<=(s.length:Int) then some (.str ((s.drop a.toNat).take (b.toNat-a.toNat))) else none:=by
 simp only [mS,Iu];by_cases h:0<=b/\b<=(s.length:Int)
 . simp only [h,and_self,if_true];by_cases ad:0<=a/\a<=b
   . have:0<=a/\a<=((b.toNat:Nat):Int):=by omega
     simp only [this,and_self,if_true,ad,h]
   . have aJ:¬(0<=a/\a<=((b.toNat:Nat):Int)):=by omega
     have bE:¬(0<=a/\a<=b/\b<=(s.length:Int)):=by omega
     have dn:¬(0<=a/\a<=b/\True):=fun q=>ad ⟨q.1,q.2.1⟩;rw [if_neg dn,if_neg aJ]
 . have bE:¬(0<=a/\a<=b/\b<=(s.length:Int)):=by omega
   simp only [h,bE,if_false]
theorem ana (s:List UInt8):mS (.str s) none none none=some (.str s):=by simp only [mS,sd,List.drop_zero,Nat.sub_zero,List.take_length]
section
variable {P:Program}
theorem amX (a b:List UInt8):(eG.str .eql).run P (.str a) (.str b)=some (.bool (decide (a=b))):=by simp only [eG.run,te,rQ,Pn]
theorem amW (a b:List UInt8):(eG.str .add).run P (.str a) (.str b)=if a.length+b.length<=top then some (.str (a++b)) else none:=by
 simp only [eG.run,te,G7];by_cases h:a.length+b.length<=top
 . rw [if_pos h,show Nat.ble (a.length+b.length) top=true from by rw [Nat.ble_eq];exact h];rfl
 . rw [if_neg h,show Nat.ble (a.length+b.length) top=false from by rw [<-Bool.not_eq_true,Nat.ble_eq];exact h];rfl
theorem amY (s:List UInt8) (k:IntKind) (i:Int):sW.run (.str s) (.int k i)=if 0<=i/\i < (s.length:Int) then some (.int .u8 (((s[i.toNat]?).getD 0).toNat:Int)) else none:=by
 simp only [sW,V.eu,oB];by_cases aa:0<=i
 . simp only [aa,decide_true,cond_true,true_and];by_cases ad:i < (s.length:Int)
   . rw [if_pos ad,List.getElem?_eq_getElem (by omega)];rfl
   . rw [if_neg ad,List.getElem?_eq_none (by omega)]
 . simp only [aa,decide_false,cond_false,false_and,if_false]
theorem G0 (a b:List UInt8):(eG.str .neq).run P (.str a) (.str b)=some (.bool (!decide (a=b))):=by simp only [eG.run,te,rQ,Pn]
end
end
section
open Go Go.RowKit
set_option linter.defProp false
def aoH:=
 And.intro @ah9<|And.intro @ahf<|And.intro @aij<|And.intro @ahg<|And.intro @aie<|And.intro @aik<|And.intro @aif<|And.intro @ahA<|And.intro @ahq<|And.intro @ahn<|And.intro @aho<|And.intro @ahX<|And.intro @ahw<|And.intro @aib<|And.intro @ah5<|And.intro @ai'<|And.intro @aid<|And.intro @ajf<|And.intro @ahk<|And.intro @aiB<|And.intro @ahN<|And.intro @aiW<|And.intro @ahO<|And.intro @aiX<|And.intro @ah'<|And.intro @ajb<|And.intro @ahe<|And.intro @aiy<|And.intro @aip<|And.intro @ajl<|And.intro @ahF<|And.intro @aiQ<|And.intro @ahK<|And.intro @aiT<|And.intro @aim<|And.intro @ajj<|And.intro @ail<|And.intro @aji<|And.intro @ahC<|@aiN
def aoI:=
 And.intro @ahD<|And.intro @aiO<|And.intro @ahE<|And.intro @aiP<|And.intro @ahI<|And.intro @aiR<|And.intro @ahJ<|And.intro @aiS<|And.intro @ahM<|And.intro @aiV<|And.intro @ahL<|And.intro @aiU<|And.intro @ahU<|And.intro @ai2<|And.intro @ahB<|And.intro @aiM<|And.intro @ah3<|And.intro @ai9<|And.intro @ah6<|And.intro @ai_<|And.intro @ahs<|And.intro @aiH<|And.intro @ahR<|And.intro @ai0<|And.intro @ahS<|And.intro @ai1<|And.intro @ahP<|And.intro @aiY<|And.intro @ah8<|And.intro @aja<|And.intro @ahi<|And.intro @aiz<|And.intro @ahj<|And.intro @aiA<|And.intro @ain<|And.intro @ajk<|And.intro @ah2<|And.intro @ai8<|And.intro @aiq<|@ajm
def aoJ:=
 And.intro @ah1<|And.intro @ai7<|And.intro @aii<|And.intro @ajh<|And.intro @ah_<|And.intro @ajc<|And.intro @ahb<|And.intro @aiw<|And.intro @ahp<|And.intro @aiF<|And.intro @ahQ<|And.intro @aiZ<|And.intro @ahr<|And.intro @aiG<|And.intro @ahu<|And.intro @aiJ<|And.intro @aht<|And.intro @aiI<|And.intro @aiC<|And.intro @aiD<|And.intro @TZ<|And.intro @ahl<|@ahv
def aoK:=
 And.intro @anI<|And.intro @ank<|And.intro @acd<|And.intro @acb<|And.intro @abJ<|And.intro @amG<|And.intro @aam<|And.intro @aal<|And.intro @aly<|And.intro @adp<|And.intro @ado<|And.intro @aao<|And.intro @ada<|And.intro @ac_<|And.intro @alN<|And.intro @adj<|And.intro @ak_<|And.intro @ak'<|And.intro @ajW<|And.intro @ajU<|And.intro @ajX<|And.intro @ajV<|And.intro @ajY<|And.intro @wO<|And.intro @B6<|And.intro @acu<|And.intro @ade<|And.intro @adb<|And.intro @an'<|And.intro @am1<|And.intro @am2<|And.intro @ak3<|And.intro @ak4<|And.intro @alx<|And.intro @alu<|And.intro @aot<|And.intro @aos<|And.intro @Z'<|And.intro @Z_<|@aaa
def aoL:=
 And.intro @aab<|And.intro @Z9<|And.intro @Yr<|And.intro @Yt<|And.intro @Ys<|And.intro @an7<|And.intro @an9<|And.intro @an8<|And.intro @ag2<|And.intro @ag4<|And.intro @ag3<|And.intro @aha<|And.intro @aio<|And.intro @ah4<|And.intro @ahy<|And.intro @ah7<|And.intro @ahY<|And.intro @ahT<|And.intro @ahH<|And.intro @ahG<|And.intro @ahd<|And.intro @ahh<|And.intro @aoj<|And.intro @aoi<|And.intro @aka<|And.intro @akc<|And.intro @Ud<|And.intro @Ue<|And.intro @Lv<|And.intro @Ui<|And.intro @anD<|And.intro @ajy<|And.intro @ni<|And.intro @iM<|And.intro @dy<|And.intro @rJ<|And.intro @gN<|And.intro @lC<|And.intro @akD<|@abO
def aoM:=
 And.intro @alb<|And.intro @adW<|And.intro @abS<|And.intro @Gv<|And.intro @ad0<|And.intro @ab1<|And.intro @Gw<|And.intro @ad9<|And.intro @abX<|And.intro @alj<|And.intro @ad5<|And.intro @abZ<|And.intro @alm<|And.intro @ad7<|And.intro @ab0<|And.intro @aln<|And.intro @ad8<|And.intro @abQ<|And.intro @ald<|And.intro @adY<|And.intro @ab2<|And.intro @alo<|And.intro @ad'<|And.intro @abY<|And.intro @alk<|And.intro @ad6<|And.intro @abW<|And.intro @ali<|And.intro @ad4<|And.intro @abT<|And.intro @alf<|And.intro @ad1<|And.intro @abP<|And.intro @alc<|And.intro @adX<|And.intro @abV<|And.intro @alh<|And.intro @ad3<|And.intro @abR<|@ale
def aoN:=
 And.intro @adZ<|And.intro @abU<|And.intro @alg<|And.intro @ad2<|And.intro @abN<|And.intro @adV<|And.intro @ad_<|And.intro @ajP<|And.intro @ajQ<|And.intro @ajO<|And.intro @beq_true<|And.intro @beq_false<|And.intro @Bool.not_true<|And.intro @Bool.not_false<|And.intro @Bool.true_and<|And.intro @Bool.and_true<|And.intro @Bool.false_and<|And.intro @Bool.and_false<|And.intro @Bool.not_not<|And.intro @V.bool.injEq<|And.intro @Nat.zero_add<|And.intro @Nat.add_zero<|And.intro @anY<|And.intro @anZ<|And.intro @anX<|And.intro @Bool.true_eq_false<|And.intro @Bool.false_eq_true<|And.intro @an4<|And.intro @al7<|And.intro @al8<|And.intro @ZU<|And.intro @ZT<|And.intro @ZQ<|And.intro @ZN<|And.intro @aeY<|And.intro @ae0<|And.intro @aeZ<|And.intro @ZO<|And.intro @ZP<|@ZR
def aoO:=
 And.intro @ZS<|And.intro @CD<|And.intro @aoU<|And.intro @rE<|And.intro @aoV<|And.intro @Gs<|And.intro @aoW<|And.intro @akX<|And.intro @aoX<|And.intro @U4<|And.intro @aoY<|And.intro @akY<|And.intro @aoZ<|And.intro @akZ<|And.intro @ao0<|And.intro @ak0<|And.intro @ao1<|And.intro @adR<|And.intro @adO<|And.intro @adQ<|And.intro @adP<|And.intro @adS<|And.intro @Bool.or_false<|And.intro @Bool.false_or<|And.intro @Bool.or_true<|And.intro @Bool.true_or<|And.intro @akL<|And.intro @akt<|And.intro @akv<|And.intro @alv<|And.intro @alw<|And.intro @Zk<|And.intro @Zq<|And.intro @Zr<|And.intro @Zs<|And.intro @Zt<|And.intro @Zu<|And.intro @Zv<|And.intro @Zw<|@Zx
def aoP:=
 And.intro @Zj<|And.intro @Zl<|And.intro @Zm<|And.intro @Zn<|And.intro @Zo<|And.intro @Zp<|And.intro @anc<|And.intro @ane<|And.intro @ang<|And.intro @ana<|And.intro @amX<|And.intro @G0<|And.intro @amW<|@amY
end
section
open Go Go.RowKit
variable [Lay]
theorem pS {B:Nat} {h:ai} {size:Nat} {s:V} {n:Nat} {us cs:List V} (cr:1<=size) (H1:cD B h size s n us) (c_:B<=h.next) (hlen:(n+1) * size<=top) (ho:cs.length=size) (a6:ev cs=true):
 ∃v ab,iK size s (.slice (aj h.next) 0 1 1) (h.new (.bC cs 0 false))=.val v ab/\cD B ab size v (n+1) (us++cs)/\Mod s.aM h ab/\h.next+1<=ab.next/\∀b,v.aM b->s.aM b\/h.next<cI b:=by
 have ak:Ext h (h.new (.bC cs 0 false)):=(Ext.refl h).new _;have bh:fC (h.new (.bC cs 0 false)) size (.slice (aj h.next) 0 1 1) 1 cs:=by refine ⟨by rw [ho];omega,rfl,gi (by rw [gN];omega),cs,.inr ⟨0,false,by rw [ni]⟩,by omega,by simp⟩
 obtain ⟨v,ab,ar,av,aK,bU⟩:=D6 cr (H1.ext ak) bh (by rw [gN];omega) hlen a6;refine ⟨v,ab,ar,av,(ak.mod _).trans aK,by have:=aK.next;rw [gN] at this;exact this,fun b ae=>?_⟩;rcases bU b ae with q | q
 . exact .inl q
 . exact .inr (by rw [gN] at q;omega)
theorem XA:∀l:List UInt8,oN (iL l)=some l
 | []=>rfl
 | c::l=>by have br:=XA l;simp only [iL,oN,br];simp
theorem Ek:∀l:List UInt8,(iL l).length=l.length
 | []=>rfl
 | c::l=>by simp only [iL,List.length_cons,Ek l]
theorem PA:∀l m:List UInt8,iL (l++m)=iL l++iL m
 | [],m=>rfl
 | c::l,m=>by simp only [iL,List.cons_append,PA l m]
theorem Xb {h:ai} {b:aQ} {us:List V} {cE:Nat} {st:Bool} {off:Nat} {l:List UInt8} (aB:h.get b=.bC us cE st) (ay:off+l.length<=us.length) (hu:(us.drop off).take l.length=iL l):u0 b off l.length h=.val (.str l) h:=by unfold u0;rw [aB];simp only [cf.pG,cf.bC];rw [show Nat.ble (off+l.length) us.length=true from by rw [Nat.ble_eq];exact ay];simp only [cond_true];rw [EV us l.length off ay,hu,XA]
theorem Ra {B:Nat} {h:ai} {v:V} {n:Nat} {l:List UInt8} (H:cD B h 1 v n (iL l)):tM.run v h=.val (.str l) h:=by
 have aa:=H.1;rw [Ek,Nat.mul_one] at aa;have ad:=H.2;cases v<;>simp only at ad<;>try (exact ad.elim)
 case bF=>
  subst ad;rw [List.length_eq_zero_iff] at aa;subst aa;rfl
 case slice=>
  obtain ⟨ar,av,aK,bU,dV,us,cE,st,eQ,hg,il⟩:=ad;rw [Ek] at il;simp only [tM];rw [ar,<-aa];exact Xb eQ (by omega) il
 case dY=>
  obtain ⟨ar,av,aK,bU,dV,us,st,eQ,hg,il⟩:=ad;rw [Ek] at il hg;simp only [tM];rw [ar,bU,<-aa];exact Xb eQ (by omega) (by simpa using il)
theorem Mod.self {b:aQ} {h ab:ai} (e:Mod (fun q=>q=b) h ab) (k:cf):Mod (fun q=>q=b) h (ab.set b k):=e.set (fun _=>rfl) k
theorem Mod.fresh {M:aQ->Prop} {h ab:ai} (e:Mod M h ab) {i:Nat} (an:h.next<=i) (k:cf):Mod M h (ab.set (aj i) k):=
 e.set (fun q=>absurd (show cI (aj i)<h.next from q) (by rw [cc];omega)) k
theorem Mod.z1 {M N:aQ->Prop} {h ad aJ:ai} (e:Mod M h ad) (q:Mod N ad aJ) (aV:∀b,N b->h.next<=cI b):Mod M h aJ:=
 ⟨Nat.le_trans e.next q.next,fun b a6 ae=>by rw [q.get b (e.bG a6) (fun k=>absurd (show cI b<h.next from a6) (by have:=aV b k;omega)),e.get b a6 ae]⟩
end
end Go.Proofs.YthemdhlheglhoaaGreatDoor.a7
