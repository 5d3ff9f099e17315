/- The abstract machine and its walks (a verified interpreter of the model's code: plain definitions and lemmas, no condition). Printed by a program from longer texts: names made short. -/
import Derived.Test.YthemdhlheglhoaaGreatDoorM3
import Derived.IntWalk
import Derived.Carry
import Derived.OpenShut
import Derived.ChangeSame
import Derived.Lib.Bytealg
import Derived.Lib.IndexMore
import Derived.Handed
import Derived.HandedShaped
import Derived.ChangeArms
import Derived.DataReads
import Derived.ChangeBears
set_option linter.unusedSectionVars false
set_option linter.unusedSimpArgs false
set_option linter.unusedVariables false
set_option maxHeartbeats 64000000
noncomputable section
namespace Go.Proofs.YthemdhlheglhoaaGreatDoor.a8
section
open Go Go.RowKit
variable [Lay]
def gu (P:Program) (f:FuncId) (args:List V) (h:ah) (v:V) (ab:ah):Prop:=
 f≠dy/\(((∃fn,P.funcs[f]? =some fn/\fn.body.isSome=true)/\∀(ay:Fr) E w xs,bk E args xs->bd ay E h w->
  Calls P f xs.toArray w fun e an=>∃ax x,e=.returned x/\E.le ax/\Rel ax v x/\bd ay ax ab an)\/
 ∀(ay:Fr) E w xs,bk E args xs->bd ay E h w->∃ax x an,(callFunc f xs.toArray).run P w=.ok (.value x) an/\E.le ax/\Rel ax v x/\bd ay ax ab an)
def OK (P:Program) (args:List V) (b:aQ) (h:ah) (v:V) (ab:ah):Prop:=
 ∀(ay:Fr) E w xs p,bk E args xs->bd ay E h w->E b=some p->
  ∃f tmps assign body,(Instr.yield p.aN xs.toArray).run P w=.ok (.round p.aN f tmps assign body) w/\
   RoundIn (cw none) 0 P p.aN f tmps assign body w fun e an=>∃ax x,e=.returned x/\E.le ax/\Rel ax v x/\bd ay ax ab an
theorem gu.calls {P:Program} (bJ:eO P) {f:FuncId} {args:List V} {h ab:ah} {v:V} (H:gu P f args h v ab) (ae:∃fn,P.funcs[f]? =some fn/\fn.body.isSome=true) (ay:Fr) (E:Env) (w:World) (xs:List Value) (ak:bk E args xs) (s:bd ay E h w):
 Calls P f xs.toArray w fun e an=>∃ax x,e=.returned x/\E.le ax/\Rel ax v x/\bd ay ax ab an:=by
 rcases H.2 with ⟨_,H⟩ | H
 . exact H ay E w xs ak s
 . obtain ⟨ax,x,an,aE,_⟩:=H ay E w xs ak s;obtain ⟨fn,aa,ad⟩:=ae;rw [uT bJ aa ad] at aE;cases aE
def de (P:Program) (f:FuncId) (args:List V) (h:ah) (K:V->ah->Prop):Prop:=∃v ab,gu P f args h v ab/\K v ab
def D1 (P:Program) (args:List V) (b:aQ) (h:ah) (K:V->ah->Prop):Prop:=∃v ab,OK P args b h v ab/\K v ab
def OM (P:Program) (xs:List V) (h:ah) (K:V->ah->Prop):Prop:=∃cV b,xs=cV++[.ptr b 0]/\D1 P cV b h K
def NQ (P:Program) (g:FuncId) (xs:List V) (h:ah) (K:V->ah->Prop):Prop:=if g=dy then OM P xs h K else de P g xs h K
def V.target (v:V) (args:List V):Option (FuncId × List V):=
 match v with
 | .func g cs=>some (g,args++cs)
 | .oD g cs=>some (g,cs++args)
 | _=>none
theorem U8 {v:V} {args xs:List V} {g:FuncId} (h:v.target args=some (g,xs)) (F:FuncId->List V->a7):v.zH args F=F g xs:=by
 cases v<;>simp only [V.target] at h<;>try (cases h;done)
 all_goals (simp only [Option.some.injEq,Prod.mk.injEq] at h;obtain ⟨rfl,rfl⟩:=h;rfl)
theorem de.mono {P:Program} {f:FuncId} {args:List V} {h:ah} {K nT:V->ah->Prop} (c:de P f args h K) (aH:∀v ab,K v ab->nT v ab):de P f args h nT:=by obtain ⟨v,ab,ar,aw⟩:=c;exact ⟨v,ab,ar,aH v ab aw⟩
def lo:dQ:=fun _ _ _=>.fail
theorem Gq (P:Program):hi P lo/\ht P lo:=
 ⟨⟨fun _ f args h v ab _ he=>by simp [lo] at he,fun _ f args h v ab _ he=>by simp [lo] at he,fun _ args b h v ab he=>by simp [lo] at he,fun args h v ab he=>by simp [lo] at he⟩,fun f args h v ab he=>by simp [lo] at he⟩
open Classical in
def nE (f:FuncId) (args:List V) (h:ah) (v:V) (ab:ah):dQ:=
 fun f1 bZ aa=>if f1=f/\bZ=args/\aa=h then .val v ab else .fail
theorem Vb {P:Program} {f:FuncId} {args:List V} {h ab:ah} {v:V} (H:gu P f args h v ab):hi P (nE f args h v ab)/\ht P (nE f args h v ab):=by
 refine ⟨⟨fun ay f1 bZ aa v1 gN _ he=>?_,fun ay f1 bZ aa v1 gN _ he=>?_,fun ay bZ b aa v1 gN he=>?_,fun bZ aa v1 gN he=>?_⟩,fun f1 bZ aa v1 gN he=>?_⟩
 . unfold nE at he
   split at he
   . rename_i aD;obtain ⟨rfl,rfl,rfl⟩:=aD;simp only [a7.val.injEq] at he;obtain ⟨rfl,rfl⟩:=he;intro E w xs ak s;rcases H.2 with H | H
     . exact .inl ⟨H.1,H.2 ay E w xs ak s⟩
     . exact .inr (H ay E w xs ak s)
   . cases he
 . unfold nE at he
   split at he<;>cases he
 . unfold nE at he
   split at he
   . rename_i aD;exact absurd aD.1.symm H.1
   . cases he
 . unfold nE at he
   split at he<;>cases he
 . trivial
theorem am9 {xs cV:List V} {x y:V} (h:xs++[x]=cV++[y]):xs=cV/\x=y:=by have:=List.append_inj' h rfl;exact ⟨this.1,by simpa using this.2⟩
theorem alo {P:Program} {args:List V} {b:aQ} {h ab:ah} {v:V} (H:OK P args b h v ab):hi P (nE dy (args++[.ptr b 0]) h v ab)/\ht P (nE dy (args++[.ptr b 0]) h v ab):=by
 refine ⟨⟨fun ay f1 bZ aa v1 gN ck he=>?_,fun ay f1 bZ aa v1 gN _ he=>?_,fun ay bZ cb aa v1 gN he=>?_,fun bZ aa v1 gN he=>?_⟩,fun f1 bZ aa v1 gN he=>?_⟩
 . unfold nE at he
   split at he
   . rename_i aD;exact absurd aD.1 ck
   . cases he
 . unfold nE at he
   split at he<;>cases he
 . unfold nE at he
   split at he
   . rename_i aD;obtain ⟨_,aD,rfl⟩:=aD;obtain ⟨rfl,ae⟩:=am9 aD;simp only [V.ptr.injEq,and_true] at ae;subst ae;simp only [a7.val.injEq] at he;obtain ⟨rfl,rfl⟩:=he;exact fun E w xs p ak s af=>H ay E w xs p ak s af
   . cases he
 . unfold nE at he
   split at he<;>cases he
 . trivial
theorem L5 {f:FuncId} {args:List V} {h ab:ah} {v:V}:nE f args h v ab f args h=.val v ab:=by unfold nE;rw [if_pos ⟨rfl,rfl,rfl⟩]
def bc.set (r:bc) (d:Option Nat) (v:V):bc:=
 match d with
 | none=>r
 | some d=>fun t=>if t=d then v else r t
def bc.trim (r:bc):List Nat->bc
 | [],_=>.bad
 | u::us,t=>if t=u then r t else bc.trim r us t
def bc.bE:List V->bc
 | [],_=>.bad
 | v::ai,t=>if t=0 then v else bc.bE ai (t-1)
def C9 (r:bc):List Nat->bI
 | []=>.e
 | t::cN=>T.put .bad (r t) (aj t) (C9 r cN)
theorem Xb (r:bc):∀cN:List Nat,ef (C9 r cN)=bc.trim r cN
 | []=>by funext t;simp [ef,C9,bc.trim]
 | u::cN=>by
   funext t;have bq:=congrFun (Xb r cN) t;simp only [ef] at bq;simp only [ef,C9,bc.trim,T.iq];by_cases h:t=u
   . subst h;simp
   . rw [if_neg (fun e=>h (fj e).symm),if_neg h];exact bq
theorem C' (cg:bI):∀cN:List Nat,ef (dx cg cN)=bc.trim (ef cg) cN
 | []=>by funext t;simp [ef,dx,bc.trim]
 | u::cN=>by
   funext t;have bq:=congrFun (C' cg cN) t;simp only [ef] at bq;simp only [ef,dx,bc.trim,T.iq];by_cases h:t=u
   . subst h;simp
   . rw [if_neg (fun e=>h (fj e).symm),if_neg h];exact bq
theorem Nl {r:bc}:∀{cN:List Nat} {t:Nat},t ∈ cN->bc.trim r cN t=r t
 | [],t,h=>by simp at h
 | u::cN,t,h=>by
   simp only [bc.trim];by_cases hu:t=u
   . rw [if_pos hu]
   . rw [if_neg hu];simp only [List.mem_cons] at h;exact Nl (h.resolve_left hu)
theorem Xc {r:bc}:∀{cN:List Nat} {t:Nat},t ∉ cN->bc.trim r cN t=.bad
 | [],t,_=>rfl
 | u::cN,t,h=>by simp only [List.mem_cons,not_or] at h;simp only [bc.trim];rw [if_neg h.1];exact Xc h.2
theorem GN (d:Option Nat) (cg:bI) (v:V):ef ((fX d).run cg v)=(ef cg).set d v:=by
 cases d with
 | none=>rfl
 | some d=>
   funext t;simp only [ef,fX,bc.set,T.iq];by_cases h:t=d
   . subst h;simp
   . rw [if_neg (fun e=>h (fj e).symm),if_neg h]
abbrev eN:Nat:=17179869185
def Out (au:Nat) (r:bc):Prop:=∀t,au<=t->t≠eN->r t=.bad
theorem EI {au:Nat} {r:bc} (a6:Out au r):∃cg,ef cg=r:=by
 refine ⟨C9 r (eN::List.range au),?_⟩;rw [Xb];funext t;by_cases h:t<au
 . exact Nl (List.mem_cons_of_mem _ (List.mem_range.2 h))
 . by_cases ad:t=eN
   . exact Nl (by rw [ad];exact List.mem_cons_self)
   . rw [Xc (by simp only [List.mem_cons,List.mem_range,not_or];exact ⟨ad,h⟩),a6 t (by omega) ad]
theorem Out.set {au:Nat} {r:bc} (a6:Out au r) {d:Option Nat} (bb:e7 au d=true) (v:V):Out au (r.set d v):=by
 intro t av aS;cases d with
 | none=>exact a6 t av aS
 | some d=>
   simp only [e7,Bool.and_eq_true,Nat.blt_eq] at bb;simp only [bc.set];rw [if_neg (by omega)];exact a6 t av aS
theorem MR {au:Nat} {r:bc} {d:Option Nat} (bb:e7 au d=true) (v:V):r.set d v eN=r eN:=by
 cases d with
 | none=>rfl
 | some d=>
   simp only [e7,Bool.and_eq_true,Nat.blt_eq,Nat.ble_eq] at bb;simp only [bc.set];rw [if_neg (by have:=bb.2;unfold top at this;unfold eN;omega)]
structure kk (E:Env) (au:Nat) (r:bc) (a:Act):Prop where
 size:a.tmps.size=au
 defers:lz E (r eN) a.defers
 aq:∀t,t≠eN->Rel E (r t) (a.tmps.getD t undef)
theorem w6 {t:Nat} (h:t<=top):t≠eN:=by unfold top at h;unfold eN;omega
theorem kk.mono {E ax:Env} (h:E.le ax) {au:Nat} {r:bc} {a:Act} (k:kk E au r a):kk ax au r a:=
 ⟨k.size,k.defers.mono h,fun t av=>Rel.mono h _ _ (k.aq t av)⟩
theorem kk.put {E ax:Env} (h:E.le ax) {au:Nat} {r:bc} {a:Act} (k:kk E au r a) {d:Option Nat} (bb:e7 au d=true) {v:V} {x:Value} (ak:Rel ax v x):kk ax au (r.set d v) (a.put d x):=by
 cases d with
 | none=>exact k.mono h
 | some d=>
   have aS:=MR (r:=r) bb v;simp only [e7,Bool.and_eq_true,Nat.blt_eq] at bb;refine ⟨by simp [Act.put,k.size],by rw [aS];exact k.defers.mono h,fun t fg=>?_⟩;simp only [bc.set,Act.put];rw [Array.getD_eq_getD_getElem?,Array.getElem?_setIfInBounds];by_cases av:t=d
   . subst av;rw [if_pos rfl,if_pos rfl,if_pos (by rw [k.size];exact bb.1)];exact ak
   . rw [if_neg av,if_neg (fun e=>av e.symm),<-Array.getD_eq_getD_getElem?];exact Rel.mono h _ _ (k.aq t fg)
def G.wp (P:Program) (g:G) (r:bc) (h:ah) (K:V->ah->Prop):Prop:=
 match g with
 | .call f args=>de P f (aX.ga r args) h K
 | .o1 f args=>∃g xs,(f.aT r).target (aX.ga r args)=some (g,xs)/\NQ P g xs h K
 | g=>∃v ab,g.run P lo r h=.val v ab/\K v ab
theorem G.Af {P:Program} {g:G} {r:bc} {h:ah} {K:V->ah->Prop} (H:g.wp P r h K):∃call v ab,(hi P call/\ht P call)/\g.run P call r h=.val v ab/\K v ab:=by
 cases g
 case call f args=>
  obtain ⟨v,ab,ar,aw⟩:=H;exact ⟨_,v,ab,Vb ar,L5,aw⟩
 case o1 f args=>
  obtain ⟨g,xs,az,H⟩:=H;unfold NQ at H
  split at H
  rotate_left
  . obtain ⟨v,ab,ar,aw⟩:=H;refine ⟨_,v,ab,Vb ar,?_,aw⟩;simp only [G.run];rw [U8 az];exact L5
  . rename_i aB;subst aB;obtain ⟨cV,b,rfl,v,ab,ar,aw⟩:=H;refine ⟨_,v,ab,alo ar,?_,aw⟩;simp only [G.run];rw [U8 az];exact L5
 all_goals
  obtain ⟨v,ab,ar,aw⟩:=H;exact ⟨lo,v,ab,Gq P,ar,aw⟩
structure bH where
 dst:Option Nat
 g:G
 JF:Option (Nat × Bool)
 rs:List Nat
def bH.bad:bH:=⟨none,.bad,none,[]⟩
def gate (v:V) (want:Bool) (A B:Prop):Prop:=
 match v with
 | .bool b=>(b=want->A)/\(b=!want->B)
 | .tuple _=>B
 | _=>False
def bH.wp (P:Program) (o:bH) (r:bc) (h:ah) (K:bc->V->ah->Prop):Prop:=
 match o.JF with
 | none=>o.g.wp P (r.trim o.rs) h fun v ab=>K (r.set o.dst v) v ab
 | some (d,want)=>gate (r.trim o.rs d) want (o.g.wp P (r.trim o.rs) h fun v ab=>K (r.set o.dst v) v ab) (K (r.set o.dst (.tuple [])) (.tuple []) h)
def uR (P:Program) (au:Nat) (all:Array Oper) (o:Oper):bH:=
 bif e7 au o.dst&&j2 (b7 all o) then
  match o.guard with
  | none=>⟨o.dst,GU P o.op,none,b7 all o⟩
  | some (j,want)=>match all[j]? with
    | some g=>match g.dst with
      | some d=>bif Nat.blt d au&&Nat.ble d top then ⟨o.dst,GU P o.op,some (d,want),b7 all o⟩ else bH.bad
      | none=>bH.bad
    | none=>bH.bad
 else bH.bad
def zU (P:Program) (au:Nat) (all:Array Oper):List Oper->List bH
 | []=>[]
 | o::os=>uR P au all o::zU P au all os
theorem V5 (P:Program) (au:Nat) (all:Array Oper):∀l:List Oper,zU P au all l=l.map (uR P au all)
 | []=>rfl
 | o::os=>by simp [zU,V5 P au all os]
def aX.isNil:aX->Bool
 | .c .ee=>true
 | _=>false
def C0 (P:Program) (au:Nat) (all:Array Oper) (o:Oper):bH:=
 match o.op,o.guard with
 | .binOp op t x y _,none=>match xg P op t with
   | some neg=>bif !((rx x).isNil||(rx y).isNil)&&(e7 au o.dst&&j2 (b7 all o)) then ⟨o.dst,.peq neg (rx x) (rx y),none,b7 all o⟩ else uR P au all o
   | none=>uR P au all o
 | _,_=>uR P au all o
def GV (P:Program) (au:Nat) (all:Array Oper):List Oper->List bH
 | []=>[]
 | o::os=>C0 P au all o::GV P au all os
theorem bH.Ec {P:Program} {r:bc} {h:ah} {K:bc->V->ah->Prop}:¬bH.bad.wp P r h K:=by rintro ⟨v,ab,q,_⟩;cases q
theorem bH.Af {P:Program} {au:Nat} {all:Array Oper} {o:Oper} {r:bc} {h:ah} {K:bc->V->ah->Prop} (H:(uR P au all o).wp P r h K):
 ∃call v ab,(hi P call/\ht P call)/\e7 au o.dst=true/\K (r.set o.dst v) v ab/\∀cg,ef cg=r->(cG P au all o).run call cg h=.val v ab:=by
 unfold uR at H;cases aD:(e7 au o.dst&&j2 (b7 all o)) with
 | false=>rw [aD] at H;exact absurd H bH.Ec
 | true=>
   have bb:e7 au o.dst=true:=by simp only [Bool.and_eq_true] at aD;exact aD.1
   rw [aD] at H;simp only [cond_true] at H;cases aB:o.guard with
   | none=>
     rw [aB] at H;obtain ⟨call,v,ab,ar,aw,aK⟩:=G.Af H;refine ⟨call,v,ab,ar,bb,aK,fun cg dK=>?_⟩;unfold cG;rw [aD];simp only [cond_true,aB,jj];refine V4 ?_;rw [C',dK];exact aw
   | some qd=>
     obtain ⟨j,want⟩:=qd;rw [aB] at H;simp only at H;cases aU:all[j]? with
     | none=>rw [aU] at H;exact absurd H bH.Ec
     | some g=>
       rw [aU] at H;simp only at H;cases kN:g.dst with
       | none=>rw [kN] at H;exact absurd H bH.Ec
       | some d=>
         rw [kN] at H;simp only at H;cases ae:(Nat.blt d au&&Nat.ble d top) with
         | false=>rw [ae] at H;exact absurd H bH.Ec
         | true=>
           rw [ae] at H;simp only [cond_true,bH.wp] at H;have key:cG P au all o=⟨jj (some (o6 (aj d),want)) (fw P o) (b7 all o)⟩:=by unfold cG;rw [aD];simp only [cond_true,aB,aU,kN,ae]
           have J':∀cg,ef cg=r->(o6 (aj d)).run (dx cg (b7 all o))=r.trim (b7 all o) d:=by intro cg dK;rw [<-dK,<-C'];rfl
           cases bj:r.trim (b7 all o) d<;>rw [bj] at H<;>simp only [gate] at H
           case bool b=>
            by_cases Sp:b=want
            . obtain ⟨call,v,ab,ar,aw,aK⟩:=G.Af (H.1 Sp);refine ⟨call,v,ab,ar,bb,aK,fun cg dK=>?_⟩;rw [key];simp only [jj,J' cg dK,bj];rw [show (bif want then b else !b)=true from by subst Sp;cases b<;>rfl];simp only [cond_true];refine V4 ?_;rw [C',dK];exact aw
            . have Sm:b=!want:=by cases b<;>cases want<;>simp_all
              refine ⟨lo,.tuple [],h,Gq P,bb,H.2 Sm,fun cg dK=>?_⟩;rw [key];simp only [jj,J' cg dK,bj];rw [show (bif want then b else !b)=false from by subst Sm;cases want<;>rfl];rfl
           case tuple ai=>
            refine ⟨lo,.tuple [],h,Gq P,bb,H,fun cg dK=>?_⟩;rw [key];simp only [jj,J' cg dK,bj]
def tj (P:Program):List bH->bc->ah->(bc->ah->Prop)->Prop
 | [],r,h,K=>K r h
 | o::os,r,h,K=>o.wp P r h fun bD _ ab=>tj P os bD ab K
structure gK where
 r:bc
 h:ah
 v:V
def lv (P:Program):List bH->bc->ah->(List gK->bc->ah->Prop)->Prop
 | [],r,h,K=>K [] r h
 | o::os,r,h,K=>o.wp P r h fun bD v ab=>lv P os bD ab fun es c8 az=>K (⟨r,h,v⟩::es) c8 az
def yM (es:List gK) (az:ah) (i:Nat):ah:=
 match es[i]? with
 | some e=>e.h
 | none=>az
def r8 (P:Program) (o:Option bH) (e:Option gK) (es:List gK) (az:ah):List Nat->Prop
 | []=>True
 | s::fN=>(match o,e with
   | some o,some e=>o.wp P e.r (yM es az s) fun _ dd _=>dd=e.v
   | _,_=>False)/\r8 P o e es az fN
def pO (P:Program) (ops:List bH) (es:List gK) (az:ah):List (Nat × List Nat)->Prop
 | []=>True
 | (p,fN)::rest=>r8 P ops[p]? es[p]? es az fN/\pO P ops es az rest
inductive aY where
 | bad
 | skip
 | aq (ops:List bH)
 | draw (ops:List bH) (asks:List (Nat × List Nat))
 | seq (a b:aY)
 | cond (c:aX) (a b:aY)
 | block (id:Nat) (b:aY)
 | loop (b:aY)
 | exit (id:Nat)
 | ret
 | range (f:aX) (bm:List Nat) (au:Nat) (a b:aY)
def ya (P:Program) (ops:List Oper) (dU aF ez:List Nat):Nat->List Oper->List (Nat × List Nat)
 | _,[]=>[]
 | i,o::os=>bif looks o.op&&!e' P o.op then
    (posOf aF i,ez.filter (sY P dU ops aF i ((dU[i]?).getD 0)))::ya P ops dU aF ez (i+1) os
   else ya P ops dU aF ez (i+1) os
def MG (P:Program) (au:Nat) (ops:Array Oper) (order aF:List Nat):aY:=
 bif l9 ops.size order aF&&yj P ops aF then
  .draw (zU P au ops (hN ops order)) (bif r6 P ops.toList then ya P ops.toList (eT [] ops.toList) aF (h0 P aF 0 ops.toList) 0 ops.toList else [])
 else .bad
def gI (P:Program) (au:Nat):Code->aY
 | .skip=>.skip
 | .label _=>.skip
 | .region _ ops draw=>bif draw then MG P au ops (CM P ops) (GM (CM P ops) 0 ops.toList) else .aq (GV P au ops ops.toList)
 | .seq a b=>.seq (gI P au a) (gI P au b)
 | .cond c a b=>.cond (rx c) (gI P au a) (gI P au b)
 | .block id b=>.block id (gI P au b)
 | .loop b=>.loop (gI P au b)
 | .exit id=>.exit id
 | .ret=>.ret
 | .scope b=>gI P au b
 | .rangeFunc f bm a b=>bif pw au bm.toList&&(noMark a&&noMark b) then .range (rx f) bm.toList au (gI P au a) (gI P au b) else .bad
 | _=>.bad
structure DQ (P:Program) (l:lB) (au:Nat) (r:bc) (bm:List Nat) (CZ kz:aY):Prop where
 aV:l.au=au
 aE:ef l.r=r
 af:l.bm=bm
 a1:gI P au l.assign=CZ
 ae:gI P au l.body=kz
 j5:pw au bm=true
 aqg:noMark l.assign=true
 cS:noMark l.body=true
 out:Out au r
def lB.go (l:lB) (st:Nat) (er:Option dm):lB:=⟨st,er,l.d,l.au,l.r,l.bm,l.assign,l.body⟩
def bc.uI:List Nat->List V->bc->bc
 | p::bm,v::ai,r=>bc.uI bm ai (r.set (some p) v)
 | _,_,r=>r
def oK (bm:List Nat) (ai:List V) (r:bc):bc:=(bc.uI bm ai r).set (some eN) .bad
def dm.andThen:dm->Prop->Prop->Prop
 | .normal,A,_=>A
 | _,_,B=>B
def dm.leave (id:Nat):dm->dm
 | .exit i=>if i=id then .normal else .exit i
 | e=>e
def gy (P:Program):aY->bc->ah->(dm->bc->ah->Prop)->Prop
 | .bad,_,_,_=>False
 | .skip,r,h,Q=>Q .normal r h
 | .aq ops,r,h,Q=>tj P ops r h (Q .normal)
 | .draw ops asks,r,h,Q=>lv P ops r h fun es c8 az=>pO P ops es az asks/\Q .normal c8 az
 | .seq a b,r,h,Q=>gy P a r h fun e bD ab=>e.andThen (gy P b bD ab Q) (Q e bD ab)
 | .cond c a b,r,h,Q=>match c.aT r with
   | .bool t=>(t=true->gy P a r h Q)/\(t=false->gy P b r h Q)
   | _=>False
 | .block id b,r,h,Q=>gy P b r h fun e bD ab=>Q (e.leave id) bD ab
 | .loop b,r,h,Q=>∃(I:bc->ah->Prop) (μ:bc->ah->Nat),I r h/\∀r h,I r h->gy P b r h fun e bD ab=>e.andThen (I bD ab/\μ bD ab<μ r h) (Q e bD ab)
 | .exit id,r,h,Q=>Q (.exit id) r h
 | .ret,r,h,Q=>Q .ret r h
 | .range f bm au a b,r,h,Q=>∃g cs,f.aT r=.func g cs/\g≠dy/\(∃fn,P.funcs[g]? =some fn/\fn.body.isSome=true)/\∀l,DQ P l au r bm a b->l.st=0->l.er=none->
    de P g (.func dy [.ptr (aj (h.next+1)) 0]::cs) ((h.new .f_).new (.dA l)) fun _ ab=>
     ∃fh,ab.get (aj (h.next+1))=.dA fh/\fh.st≠1/\Q (fh.er.getD .normal) (r.set (some eN) (.tuple (.ptr (aj h.next) 0::(r eN).list))) (ab.set (aj (h.next+1)) .dead)
def aY.plain:aY->Bool
 | .seq a b=>a.plain&&b.plain
 | .cond _ a b=>a.plain&&b.plain
 | .block _ b=>b.plain
 | .loop b=>b.plain
 | .range _ _ _ _ _=>false
 | _=>true
def Du (P:Program) (au:Nat) (c:Code) (r:bc) (h:ah) (e:dm) (bD:bc) (ab:ah):Prop:=
 ∀(rd:Option Nat) (ay:Fr) E a w,(rd=none\/noMark c=true)->kk E au r a->bd ay E h w->∀Q:Exit->Act->World->Prop,
  (∀ax bw an,E.le ax->kk ax au bD bw->bd ay ax ab an->Q (toExit e) bw an)->Hh rd P c Q a w
section
variable {P:Program} {au:Nat}
theorem aml (P:Program) (au:Nat) (all:Array Oper) (o:Oper):C0 P au all o=uR P au all o\/∃op t x y u neg,o.op=.binOp op t x y u/\o.guard=none/\xg P op t=some neg/\e7 au o.dst=true/\j2 (b7 all o)=true/\C0 P au all o=⟨o.dst,.peq neg (rx x) (rx y),none,b7 all o⟩:=by
 obtain ⟨dst,op,type,pos,after,guard⟩:=o;cases op<;>try (exact .inl rfl)
 rename_i op t x y u;cases guard with
 | some g=>exact .inl rfl
 | none=>
   simp only [C0];cases af:xg P op t with
   | none=>exact .inl rfl
   | some neg=>
     simp only;cases aD:(!((rx x).isNil||(rx y).isNil)&&(e7 au dst&&j2 (b7 all ⟨dst,.binOp op t x y u,type,pos,after,none⟩))) with
     | false=>exact .inl rfl
     | true=>
       simp only [Bool.and_eq_true] at aD;exact .inr ⟨op,t,x,y,u,neg,by first | rfl | trivial,by first | rfl | trivial,af,by first | exact aD.2.1 | trivial,by first | exact aD.2.2 | trivial,by first | rfl | trivial⟩
theorem bH.aot (bJ:eO P) {all:Array Oper} {o:Oper} {i:Nat} (ao:all[i]? =some o) {r:bc} {h:ah} {K:bc->V->ah->Prop} (a6:Out au r) (H:(C0 P au all o).wp P r h K):
 ∃v ab,e7 au o.dst=true/\K (r.set o.dst v) v ab/\∀(rd:Option Nat) (ay:Fr) E a w,kk E au r a->bd ay E h w->∀(Q:Exit->Act->World->Prop) (C:Act->World->Prop),
  (∀ax x an,E.le ax->Rel ax v x->bd ay ax ab an->C (a.put o.dst x) an)->wpOpIn (cw rd) 0 P all Q i C a w:=by
 obtain ⟨cg,dK⟩:=EI a6;rcases aml P au all o with e | ⟨op,t,x,y,u,neg,aP,bf,c4,gj,gM,o3⟩
 . rw [e] at H;obtain ⟨call,v,aa,aD,bb,H1,cZ⟩:=bH.Af H;refine ⟨v,aa,bb,H1,fun rd ay E a w k s Q C JK=>?_⟩;refine qS bJ aD.1 aD.2 ao (cZ cg dK) k.size (fun t av=>?_) s JK;have:=congrFun dK t;simp only [ef] at this;rw [this];exact k.aq t (w6 (Nat.le_of_ble_eq_true (List.all_eq_true.1 (kH (cZ cg dK)).2 t av)))
 . rw [o3] at H;simp only [bH.wp,G.wp,G.run] at H;obtain ⟨v,ab,bj,dO⟩:=H;unfold uN at bj;cases aC:hs h ((rx x).aT (r.trim (b7 all o))) ((rx y).aT (r.trim (b7 all o))) with
   | none=>rw [aC] at bj;cases bj
   | some b=>
     rw [aC] at bj;simp only [a7.of,a7.val.injEq] at bj;obtain ⟨rfl,rfl⟩:=bj;refine ⟨_,h,gj,dO,fun rd ay E a w k s Q C JK=>?_⟩;have iu:RegRel0 E au (dx cg (b7 all o)) a:=⟨k.size,fun t av=>by
      rw [Nk gM av];by_cases hm:t ∈ b7 all o
      . rw [if_pos hm];have:=congrFun dK t;simp only [ef] at this;rw [this];exact k.aq t (w6 av)
      . rw [if_neg hm];simp [Rel]⟩
     have ex:∀z:Operand,(bT z).run (dx cg (b7 all o))=(rx z).aT (r.trim (b7 all o)):=fun z=>by rw [e8,C',dK]
     rw [<-ex,<-ex] at aC;obtain ⟨dst,aqx,type,pos,after,guard⟩:=o;subst aP bf;obtain ⟨Z,fI,cL⟩:=VD (P:=P) (fs:=x) (iy:=y) s c4 aC (dH iu x) (dH iu y);simp only [wpOpIn,ao,Region.wanted,if_true];exact gJ rfl (df.plain s fI cL) fun ax v an ar aw aK=>JK ax _ an ar aw aK
theorem XH (bJ:eO P) {all:Array Oper}:∀(l:List Oper) (i:Nat),(∀j,l[j]? =all[i+j]?)->∀(r:bc) (h:ah) (K:bc->ah->Prop),Out au r->tj P (GV P au all l) r h K->
 ∃bD ab,K bD ab/\(Out au bD/\bD eN=r eN)/\∀(rd:Option Nat) (ay:Fr) E a w,kk E au r a->bd ay E h w->∀Q:Exit->Act->World->Prop,
  (∀ax bw an,E.le ax->kk ax au bD bw->bd ay ax ab an->Q .normal bw an)->wpOpsIn (cw rd) 0 P all Q (List.range' i l.length) a w
 | [],i,_,r,h,K,a6,H=>by refine ⟨r,h,H,⟨a6,rfl⟩,fun rd ay E a w k s Q cM=>?_⟩;simp only [List.length_nil,List.range'_zero,wpOpsIn];exact cM E a w (Env.le.refl E) k s
 | o::os,i,aA,r,h,K,a6,H=>by
   have ao:all[i]? =some o:=by have:=aA 0;simpa using this.symm
   simp only [GV,tj] at H;obtain ⟨v,aa,bb,H1,cZ⟩:=bH.aot bJ ao a6 H;obtain ⟨cF,ad,ar,aw,aK⟩:=XH bJ os (i+1) (fun j=>by have:=aA (j+1);simp only [List.getElem?_cons_succ] at this;rw [this];congr 1;omega) _ aa K (a6.set bb v) H1;refine ⟨cF,ad,ar,⟨aw.1,aw.2.trans (MR bb v)⟩,fun rd ay E a w k s Q cM=>?_⟩;rw [List.length_cons,List.range'_succ,wpOpsIn_cons];refine cZ rd ay E a w k s _ _ fun ax x an bW bV b8=>?_;exact aK rd ay ax _ an (k.put bW bb bV) b8 Q fun cm a2 b2 b6 z2 z3=>cM cm a2 b2 (bW.trans b6) z2 z3
def toF (e:e2):gK:=⟨ef e.r,e.h,e.v⟩
theorem aeC (es:List e2) (az:ah) (i:Nat):yM (es.map toF) az i=cn es az i:=by unfold yM cn;rw [List.getElem?_map];cases es[i]? <;>rfl
theorem XG {all:Array Oper}:∀(l:List Oper) (mX:bI) (h:ah) (K:List gK->bc->ah->Prop),lv P (zU P au all l) (ef mX) h K->Out au (ef mX)->
 ∃es oV az,K (es.map toF) (ef oV) az/\(Out au (ef oV)/\ef oV eN=ef mX eN)/\es.length=l.length/\cn es az 0=h/\et es oV 0=mX/\
  ∀j o,l[j]? =some o->∃e call,es[j]? =some e/\(hi P call/\ht P call)/\(cG P au all o).run call e.r e.h=.val e.v (cn es az (j+1))/\et es oV (j+1)=(fX o.dst).run e.r e.v
 | [],mX,h,K,H,a6=>⟨[],mX,h,H,⟨a6,rfl⟩,rfl,rfl,rfl,fun j o aU=>by simp at aU⟩
 | o::os,mX,h,K,H,a6=>by
   simp only [zU,lv] at H;obtain ⟨call,v,aa,aD,bb,H1,cZ⟩:=bH.Af H;rw [<-GN] at H1;obtain ⟨es,oV,az,ar,aw,aK,bY,ek,fk⟩:=XG os _ aa _ H1 (by rw [GN];exact a6.set bb v);refine ⟨⟨mX,h,v⟩::es,oV,az,ar,⟨aw.1,aw.2.trans (by rw [GN];exact MR bb v)⟩,by simp [aK],by simp [cn],by simp [et],fun j cj aU=>?_⟩;cases j with
   | zero=>
     simp only [List.getElem?_cons_zero,Option.some.injEq] at aU;subst aU;exact ⟨⟨mX,h,v⟩,call,rfl,aD,by rw [yL,bY];exact cZ mX rfl,by rw [zS,ek]⟩
   | succ j=>
     obtain ⟨e,c,bW,bV,b8,gH⟩:=fk j cj (by simpa using aU);exact ⟨e,c,by simpa using bW,bV,by rw [yL];exact b8,by rw [zS];exact gH⟩
theorem O3 {o:Option bH} {e:Option gK} {es:List gK} {az:ah}:∀{fN:List Nat},r8 P o e es az fN->∀s ∈ fN,∃cj cX,o=some cj/\e=some cX/\cj.wp P cX.r (yM es az s) fun _ dd _=>dd=cX.v
 | [],_,s,h=>by simp at h
 | hO::fN,H,s,hm=>by
   simp only [r8] at H;simp only [List.mem_cons] at hm;rcases hm with rfl | hm
   . cases o with
     | none=>exact H.1.elim
     | some o=>
       cases e with
       | none=>exact H.1.elim
       | some e=>exact ⟨o,e,rfl,rfl,H.1⟩
   . exact O3 H.2 s hm
theorem O6 {ops:List Oper} {dU aF ez:List Nat} {gs:List bH} {es:List gK} {az:ah}:∀{l:List Oper} {i:Nat},pO P gs es az (ya P ops dU aF ez i l)->∀j o,l[j]? =some o->looks o.op=true->e' P o.op=false->
 r8 P gs[posOf aF (i+j)]? es[posOf aF (i+j)]? es az (ez.filter (sY P dU ops aF (i+j) ((dU[i+j]?).getD 0)))
 | [],i,_,j,o,h,_,_=>by simp at h
 | cj::os,i,H,j,o,h,aa,ad=>by
   simp only [ya] at H;cases j with
   | zero=>
     simp only [List.getElem?_cons_zero,Option.some.injEq] at h;subst h;rw [aa,ad] at H;simp only [Bool.not_false,Bool.and_true,cond_true,pO] at H;exact H.1
   | succ j=>
     have fb:pO P gs es az (ya P ops dU aF ez (i+1) os):=by
      cases aD:(looks cj.op&&!e' P cj.op) with
      | true=>rw [aD] at H;simp only [cond_true,pO] at H;exact H.2
      | false=>rw [aD] at H;exact H
     have:=O6 fb j o (by simpa using h) aa ad;rw [show i+1+j=i + (j+1) from by omega] at this;exact this
theorem acr (hC:au<=top) (dz:P.follows .mixedOrders=true) (bJ:eO P) {id:Nat} {ops:Array Oper} {order aF:List Nat} {r:bc} {h:ah} {Q:dm->bc->ah->Prop} (a6:Out au r)
 (H:gy P (MG P au ops order aF) r h Q):∃bD ab,Q .normal bD ab/\(Out au bD/\bD eN=r eN)/\Du P au (.region id ops true) r h .normal bD ab:=by
 unfold MG at H;cases az:(l9 ops.size order aF&&yj P ops aF) with
 | false=>rw [az] at H;exact H.elim
 | true=>
   rw [az] at H;simp only [cond_true,gy] at H;simp only [Bool.and_eq_true] at az;obtain ⟨hq,gC⟩:=az;unfold l9 at hq;simp only [Bool.and_eq_true,Nat.beq_eq] at hq;obtain ⟨ks,ns,sA,sB⟩:=hq;have iz:∀k,k<ops.size->posOf aF k<ops.size/\order[posOf aF k]? =some k:=by
    intro k aH;have aB:aF[k]? =some (posOf aF k):=by unfold posOf;rw [List.getElem?_eq_getElem (by omega)];rfl
    have:=uK sA aB;rw [Nat.zero_add] at this;exact ⟨by have:=(List.getElem?_eq_some_iff.1 this).1;omega,this⟩
   have lq:∀p,p<ops.size->∃i,i<ops.size/\posOf aF i=p:=by intro p af;have aB:order[p]? =some (order[p]'(by omega)):=List.getElem?_eq_getElem (by omega);have:=uK sB aB;rw [Nat.zero_add] at this;refine ⟨order[p]'(by omega),by have:=(List.getElem?_eq_some_iff.1 this).1;omega,?_⟩;unfold posOf;rw [this];rfl
   obtain ⟨mX,t'⟩:=EI a6;rw [<-t'] at H a6;obtain ⟨es,oV,bl,⟨Bp,cM⟩,⟨sD,S8⟩,ar,aw,aK,bY⟩:=XG _ mX h _ H a6;refine ⟨_,bl,cM,⟨sD,by rw [<-t'];exact S8⟩,fun rd ay E a w aE k s gg JR=>?_⟩;have step:∀i:Nat,∃call,(hi P call/\ht P call)/\∀o,ops[i]? =some o->∃e,es[posOf aF i]? =some e/\(cG P au ops o).run call e.r e.h=.val e.v (cn es bl (posOf aF i+1))/\et es oV (posOf aF i+1)=(fX o.dst).run e.r e.v:=by
    intro i;cases ao:ops[i]? with
    | none=>exact ⟨lo,Gq P,fun o h=>by cases h⟩
    | some o=>
      obtain ⟨e,call,bW,bV,b8,gH⟩:=bY _ o (nD (iz i (Array.getElem?_eq_some_iff.1 ao).1).2 ao);exact ⟨call,bV,fun cj hp=>by cases hp;exact ⟨e,bW,b8,gH⟩⟩
   obtain ⟨calls,yH⟩:=Classical.axiomOfChoice step;have ua:∀j o,ops[j]? =some o->looks o.op=true->e' P o.op=false->∃e,es[posOf aF j]? =some e/\∀s ∈ h0 P aF 0 ops.toList,
    sY P (eT [] ops.toList) ops.toList aF j (((eT [] ops.toList)[j]?).getD 0) s=true->∃c ab,(hi P c/\ht P c)/\(cG P au ops o).run c e.r (cn es bl s)=.val e.v ab:=by
    intro j o q' ey aeH;have aU:=(Array.getElem?_eq_some_iff.1 q').1;obtain ⟨e,bW,bV,b8⟩:=(yH j).2 o q';refine ⟨e,bW,fun s aS hm=>?_⟩;cases aA:r6 P ops.toList with
    | true=>
      rw [aA] at Bp;simp only [cond_true] at Bp;have:=O6 Bp j o (by simpa using q') ey aeH;rw [Nat.zero_add] at this;obtain ⟨cj,cX,b6,z2,z3⟩:=O3 this s (List.mem_filter.2 ⟨aS,hm⟩);rw [V5,List.getElem?_map,nD (iz j aU).2 q'] at b6;simp only [Option.map_some,Option.some.injEq] at b6;rw [List.getElem?_map,bW] at z2;simp only [Option.map_some,Option.some.injEq] at z2;subst b6;subst z2;rw [aeC] at z3;obtain ⟨c,v,ab,e1,_,y3,y4⟩:=bH.Af z3;have XM:=y4 e.r rfl;rw [show v=e.v from y3] at XM;exact ⟨c,ab,e1,XM⟩
    | false=>
      have none:∀(l:List Oper),r6 P l=false->∀(j:Nat) (o:Oper),l[j]? =some o->e' P o.op=false:=by
       intro l
       induction l with
       | nil=>intro _ j o h;simp at h
       | cons x l bq=>
         intro h j o a6;simp only [r6,Bool.or_eq_false_iff] at h;cases j with
         | zero=>simp only [List.getElem?_cons_zero,Option.some.injEq] at a6;subst a6;exact h.1
         | succ j=>exact bq h.2 j o (by simpa using a6)
      have iJ:s=ops.size:=by
       rcases uA aS with h | ⟨Ce,cj,aa,ad,aJ⟩
       . simpa using h
       . have:=none _ aA Ce cj aa;unfold ei at ad;rw [this] at ad;cases ad
      have flat:∀d,d<=ops.size->cn es bl d=cn es bl 0:=by
       intro d
       induction d with
       | zero=>intro _;rfl
       | succ d bq=>
         intro bb;obtain ⟨i,By,oh⟩:=lq d (by omega);have cz:ops[i]? =some ops[i]:=Array.getElem?_eq_getElem By;obtain ⟨acy,b3,b2,_⟩:=(yH i).2 ops[i] cz;rw [oh] at b3 b2;have ck:e' P ops[i].op=false:=none _ aA i _ (by simp);rw [(vJ ck b2).1,<-bq (by omega)];simp [cn,b3]
      have apV:=(iz j aU).1;have:e.h=cn es bl s:=by rw [iJ,flat ops.size (Nat.le_refl _),<-flat (posOf aF j) (by omega)];simp [cn,bW]
      rw [<-this];exact ⟨_,_,(yH j).1,bV⟩
   have hlen:es.length=ops.size:=by rw [ar,qo,ks]
   have C:Cert P au ops calls es mX h oV bl (h0 P aF 0 ops.toList) order aF ops.size ops.size false:=
    ⟨hlen,Nat.le_refl _,Nat.le_refl _,iz,lq,aw,aK,fun i o cz _=>(yH i).2 o cz,
      fun i o cz=>by obtain ⟨cR,b6,z2,z3⟩:=Ri gC i o cz;exact ⟨cR,b6,z2,fun _ k ok aH _=>by obtain ⟨mk,e1,fZ,y3⟩:=z3 k ok aH;exact ⟨mk,e1,fZ,fun aP bf c4=>.inl (y3 aP bf c4)⟩⟩,
      by simpa using F8 (P:=P) (aF:=aF) (l:=ops.toList) (i:=0),
      fun j o aa ad=>by simpa using zs (aF:=aF) (i:=0) (j:=j) (l:=ops.toList) (by simpa using aa) ad,
      fun s aS=>by
       rcases uA aS with h | ⟨j,o,aa,ad,aJ⟩
       . exact .inl (.inl (by simpa using h))
       . exact .inr ⟨j,o,by simpa using aa,ad,by simpa using aJ⟩,
      fun j o aa ad aJ _=>ua j o aa ad aJ,fun h=>absurd h (Nat.lt_irrefl _),fun h=>absurd h (Nat.lt_irrefl _)⟩
   have aH:RegRel0 E au mX a:=⟨k.size,fun t av=>by have:=congrFun t' t;simp only [ef] at this;rw [this];exact k.aq t (w6 av)⟩;have dE:∀k,¬(Array.replicate ops.size false).getD k false=true:=by
    intro k;rw [tW,Array.getElem?_replicate]
    split<;>simp
   have kq:Holds ay ay es bl aF (ki ops es bl aF (Array.replicate ops.size false) 0):=
    ⟨rfl,fun _ _=>rfl,fun k aH=>(by obtain ⟨_,_,_,_,aW⟩:=aH;omega),fun k bg aH=>(by obtain ⟨_,_,_,_,aW⟩:=aH;omega)⟩
   obtain ⟨hO,fD,g1,g2,g3,g4,g5,g6⟩:=C.advance ops.size 0 (by omega) (fun k o _ _ _=>dE k) ay kq (E:=E) (w:={w with drawn:=w.drawn}) (by rw [aw];exact s.same rfl rfl rfl rfl);have ot:ef oV eN=r eN:=by rw [<-t'];exact S8
   have fin:∀ax bw an,E.le ax->RegRel0 ax au oV bw->bw.defers=a.defers->bd ay ax bl an->gg .normal bw an:=by
    intro ax bw an b6 z2 tl z3;refine JR ax bw an b6 ⟨z2.size,by rw [ot,tl];exact k.defers.mono b6,fun t fg=>?_⟩ z3;by_cases av:t<=top
    . exact z2.aq t av
    . have cq:=z2.size;rw [sD t (by omega) fg];simp [Rel]
   refine XE dz (Rk bJ (fun i=>(yH i).1.1) (fun i=>(yH i).1.2) C (fl:=E) (D:=a.defers) (fun _=>fin)
    (fun _ _ _ _ _ _ _ h=>absurd h (Nat.lt_irrefl _)) (fun h=>absurd h (Nat.lt_irrefl _)) ops.size _ a _ ?_ ?_)
   . exact Nat.le_trans List.countP_le_length (by simp)
   . refine ⟨by simp,aH.size,rfl,fun bg aH=>absurd aH (dE bg),fun bg o e aH=>absurd aH (dE bg),E,hO,fD,Env.le.refl E,g1,g3,fun bg o aa ad=>⟨fun h=>absurd h (dE bg),fun h=>by have:=g4 bg o aa ad (Nat.zero_le _);omega⟩,
      fun bg o _ _ h=>absurd h (dE bg),g5,?_,fun t av=>.inr ⟨fun bg o aH=>absurd aH (dE bg),aH.aq t av⟩⟩
     exact g6.same rfl rfl rfl rfl
theorem acV {rd:Option Nat} {e:dm} {Q:Exit->Act->World->Prop} {a:Act} {w:World} (h:Q (toExit e) a w):(Jt e).wpIn (cw rd) 0 P Q a w:=by
 cases e with
 | normal=>exact wpIn_skip h
 | exit id=>exact wpIn_exit h
 | ret=>exact wpIn_ret h
theorem amd (hC:au<=top) (dz:P.follows .mixedOrders=true) (bJ:eO P) {f:Operand} {bm:Array Tmp} {x y:Code} {r:bc} {h:ah} {Q:dm->bc->ah->Prop} (a6:Out au r)
 (H:gy P (gI P au (.rangeFunc f bm x y)) r h Q):∃e bD ab,Q e bD ab/\(Out au bD/\((gI P au (.rangeFunc f bm x y)).plain=true->bD eN=r eN))/\Du P au (.rangeFunc f bm x y) r h e bD ab:=by
 simp only [gI] at H ⊢;cases gC:(pw au bm.toList&&(noMark x&&noMark y)) with
 | false=>rw [gC] at H;exact H.elim
 | true=>
   rw [gC] at H;simp only [cond_true,gy] at H ⊢;simp only [Bool.and_eq_true] at gC;obtain ⟨g,cs,bj,aB,lN,H⟩:=H;obtain ⟨cg,dK⟩:=EI a6;obtain ⟨v,ab,cY,fh,aP,bf,cM⟩:=H ⟨0,none,aj h.next,au,cg,bm.toList,x,y⟩ ⟨rfl,dK,rfl,rfl,rfl,gC.1,gC.2.1,gC.2.2,a6⟩ rfl rfl;refine ⟨_,_,_,cM,⟨fun t aa ad=>by simp only [bc.set];rw [if_neg ad];exact a6 t aa ad,fun z=>by cases z⟩,fun rd ay E a w aE k s gg JR=>?_⟩;have FE:rd=none:=aE.resolve_right (by simp [noMark]);subst FE;have az:Rel E (.func g cs) (a.eval f):=by
    rw [<-bj];cases f with
    | tmp t=>
      simp only [rx];cases ae:Nat.ble t top with
      | false=>simp [aX.aT,Rel]
      | true=>
        simp only [cond_true,aX.aT];exact k.aq t (w6 (Nat.le_of_ble_eq_true ae))
    | const v=>exact uG E v
    | func f=>
      simp only [rx];cases ae:Nat.beq f dy with
      | true=>simp [aX.aT,Rel]
      | false=>
        simp only [cond_false,aX.aT,Rel];exact .inl ⟨fun e=>by subst e;simp at ae,_,rfl,by simp [bk]⟩
    | global g=>simp [rx,aX.aT,Rel]
   simp only [Rel] at az;rcases az with ⟨_,eX,b4,aA⟩ | ⟨Kf,_⟩
   case inr=>exact absurd Kf aB
   refine (wpIn_rangeFunc fun fn _=>?_:(Code.rangeFunc f bm x y).wpIn (cw none) 0 P gg a w);have f0:=s.fresh h.next (Nat.le_refl _)
   obtain ⟨eu,v8⟩:∃eu,eu=E.put (aj h.next) ⟨w.heap.size,0,0⟩:=⟨_,rfl⟩;obtain ⟨b3,sK⟩:∃b3:World,b3={w with heap:=w.heap.push (.deferred (some []))}:=⟨_,rfl⟩;have BP:eu (aj h.next)=some ⟨w.heap.size,0,0⟩:=by rw [v8];unfold Env.put;rw [if_pos rfl]
   have s1:bd ay eu (h.new .f_) b3:=by rw [v8,sK];refine s.alloc 0 ⟨⟨w.heap.size,0,0⟩,by unfold Env.put;rw [if_pos rfl],s.frame.size,by simp⟩
   have pn:E.le eu:=by rw [v8];exact Env.l1 f0
   have wH:b3.heap.size=w.heap.size+1:=by rw [sK];simp
   obtain ⟨o,hp⟩:∃o:Loop,o={state:=.ready,pending:=none,fn,tmps:=a.tmps,params:=bm,assign:=x,body:=y,defers:=w.heap.size}:=⟨_,rfl⟩;obtain ⟨cm,ss⟩:∃cm,cm=eu.put (aj (h.next+1)) ⟨b3.heap.size,0,0⟩:=⟨_,rfl⟩;obtain ⟨b2,sL⟩:∃b2:World,b2={b3 with heap:=b3.heap.push (.loop o)}:=⟨_,rfl⟩;have f1:eu (aj (h.next+1))=none:=s1.fresh (h.next+1) (Nat.le_refl _);have l0:eu.le cm:=by rw [ss];exact Env.l1 f1
   have BQ:cm (aj (h.next+1))=some ⟨b3.heap.size,0,0⟩:=by rw [ss];unfold Env.put;rw [if_pos rfl]
   have dA:vj cm ⟨0,none,aj h.next,au,cg,bm.toList,x,y⟩ o:=by subst hp;refine ⟨rfl,rfl,rfl,rfl,rfl,k.size,fun t av=>?_,_,l0 _ _ BP,rfl⟩;have:=congrFun dK t;simp only [ef] at this;simp only [this];exact Rel.mono (pn.trans l0) _ _ (k.aq t (w6 av))
   have s2:bd ay cm ((h.new .f_).new (.dA ⟨0,none,aj h.next,au,cg,bm.toList,x,y⟩)) b2:=by rw [ss,sL];refine s1.alloc 0 ⟨⟨b3.heap.size,0,0⟩,o,by show eu.put (aj (h.next+1)) _ (aj (h.next+1))=_;unfold Env.put;rw [if_pos rfl],by show ay.w.heap.size<=b3.heap.size;rw [wH];have:=s.frame.size;omega,by simp,?_⟩;have:=dA;rw [ss] at this;exact this
   obtain ⟨ib,p5⟩:∃ib,ib=b3.heap.size:=⟨_,rfl⟩;have aZ:Rel cm (.func dy [.ptr (aj (h.next+1)) 0]) (.func (.yield ib) #[] #[]):=by simp only [Rel];exact .inr ⟨trivial,_,_,rfl,BQ,by rw [p5]⟩
   have pZ:bk cm (.func dy [.ptr (aj (h.next+1)) 0]::cs) (.func (.yield ib) #[] #[]::eX.toList):=by simp only [bk];exact ⟨_,_,rfl,aZ,bk.mono (pn.trans l0) _ _ aA⟩
   have aD:Calls P g (Value.func (Fn.yield ib) #[] #[]::eX.toList).toArray b2 (rangePost (cw none) 0 P ib gg {a with defers:=[{target:=.collected w.heap.size,args:=#[]}]++a.defers}):=(cY.calls bJ lN ay cm b2 _ pZ s2).mono fun e an aC=>by
    obtain ⟨ax,aqZ,rfl,ar,_,aK⟩:=aC;simp only [rangePost];have jo:=ar _ _ BQ;have ae:=aK.at jo;rw [aP] at ae;obtain ⟨p',cj,gF,da,bl,Kr⟩:=ae;rw [jo] at gF;cases gF;obtain ⟨t1,t2,t3,t4,t5,t6,t7,t8⟩:=Kr;simp only at bl;rw [<-p5] at bl;have Kz:(cj.state == LoopState.busy)=false:=by
     rw [t1]
     match p3:fh.st with
     | 0=>rfl
     | 1=>exact absurd p3 bf
     | n+2=>rfl
    have lP:=(Array.getElem?_eq_some_iff.1 bl).1
    let jy:World:={an with heap:=an.heap.setIfInBounds ib (.loop {cj with state:=.exhausted})}
    have gB:(Instr.endLoop ib).run P an=.ok cj.pending jy:=by
     have sH:(setObj ib (.loop {cj with state:=.exhausted})).run P an=.ok () jy:=by simp only [setObj,Sem.run,bl];rfl
     simp only [Instr.endLoop,Sem.run_bind,run_getLoop bl,Result.andThen_ok,Kz,Bool.false_eq_true,if_false,sH,Sem.run_pure]
    have xo:bd ay ax (ab.set (aj (h.next+1)) .dead) jy:=by refine aK.gone (p:=⟨b3.heap.size,0,0⟩) (by rw [aP];rfl) jo da (by simp [jy]) (fun j aU=>?_) rfl rfl rfl;simp only at aU;simp only [jy,Array.getElem?_setIfInBounds];rw [if_neg (fun e=>aU (by rw [<-e,p5]))]
    have dr:kk ax au (r.set (some eN) (.tuple (.ptr (aj h.next) 0::(r eN).list))) {a with defers:=[{target:=.collected w.heap.size,args:=#[]}]++a.defers}:=by
     refine ⟨k.size,?_,fun t av=>?_⟩
     . simp only [bc.set,if_true,lz,nP,List.cons_append,List.nil_append];exact ⟨_,_,rfl,⟨_,ar _ _ (l0 _ _ BP),rfl⟩,(k.defers.mono (pn.trans (l0.trans ar))).list⟩
     . simp only [bc.set];rw [if_neg av];exact Rel.mono (pn.trans (l0.trans ar)) _ _ (k.aq t av)
    refine ⟨cj.pending,jy,gB,?_⟩;rw [t2];have fin:=JR ax _ jy (pn.trans (l0.trans ar)) dr xo;cases jT:fh.er with
    | none=>rw [jT] at fin;exact fin
    | some e=>rw [jT] at fin;exact acV fin
   obtain ⟨Bm,aeS,lN⟩:=lN;refine ⟨ib,[{target:=.collected w.heap.size,args:=#[]}],b2,{target:=.fn (.func g) eX,args:=#[]++#[.func (.yield ib) #[] #[]]},b2,g,_,b2,?_,?_,fun _ _=>trivial,?_,fun h=>by simp at h,tK.2 aD⟩
   . subst hp sL sK;have he:=run_enterLoop_outer (P:=P) (w:=w) fn a.tmps bm x y;rw [World.alloc,World.alloc] at he;simp only [Array.size_push] at p5 ⊢;rw [p5];exact he
   . simp only [resolve,b4,Deferred.ofValue,Sem.run_pure];simp [Act.eval]
   . simp only [invoke];have e:(#[]++#[Value.func (.yield ib) #[] #[]]:Array Value)++eX=(Value.func (.yield ib) #[] #[]::eX.toList).toArray:=by apply Array.ext';simp
     rw [e];exact uT bJ aeS lN _ b2
theorem NC (hC:au<=top) (dz:P.follows .mixedOrders=true) (bJ:eO P):∀(c:Code) (r:bc) (h:ah) (Q:dm->bc->ah->Prop),Out au r->gy P (gI P au c) r h Q->
 ∃e bD ab,Q e bD ab/\(Out au bD/\((gI P au c).plain=true->bD eN=r eN))/\Du P au c r h e bD ab:=by
 intro c
 induction c with
 | skip=>
   intro r h Q a6 H;exact ⟨.normal,r,h,H,⟨a6,fun _=>rfl⟩,fun rd ay E a w aE k s gg cM=>wpIn_skip (cM E a w (Env.le.refl E) k s)⟩
 | label l=>
   intro r h Q a6 H;exact ⟨.normal,r,h,H,⟨a6,fun _=>rfl⟩,fun rd ay E a w aE k s gg cM=>wpIn_label (cM E a w (Env.le.refl E) k s)⟩
 | exit id=>
   intro r h Q a6 H;exact ⟨.exit id,r,h,H,⟨a6,fun _=>rfl⟩,fun rd ay E a w aE k s gg cM=>wpIn_exit (cM E a w (Env.le.refl E) k s)⟩
 | ret=>
   intro r h Q a6 H;exact ⟨.ret,r,h,H,⟨a6,fun _=>rfl⟩,fun rd ay E a w aE k s gg cM=>wpIn_ret (cM E a w (Env.le.refl E) k s)⟩
 | region id ops draw=>
   intro r h Q a6 H;cases draw with
   | true=>
     simp only [gI,cond_true] at H;obtain ⟨bD,ab,ar,aw,aK⟩:=acr hC dz bJ (id:=id) a6 H;exact ⟨.normal,bD,ab,ar,⟨aw.1,fun _=>aw.2⟩,aK⟩
   | false=>
     simp only [gI,cond_false,gy] at H;obtain ⟨bD,ab,ar,aw,aK⟩:=XH bJ ops.toList 0 (fun j=>by simp) r h _ a6 H;refine ⟨.normal,bD,ab,ar,⟨aw.1,fun _=>aw.2⟩,fun rd ay E a w aE k s gg cM=>?_⟩;refine wpIn_region ?_;have:=aK rd ay E a w k s gg cM;rw [List.range_eq_range'];simpa using this
 | seq x y wN wO=>
   intro r h Q a6 H;simp only [gI,gy] at H;obtain ⟨e,br,aa,ar,aw,aK⟩:=wN r h _ a6 H;cases e with
   | normal=>
     obtain ⟨e,cF,ad,bW,bV,b8⟩:=wO br aa Q aw.1 ar;refine ⟨e,cF,ad,bW,⟨bV.1,fun z=>by simp only [gI,aY.plain,Bool.and_eq_true] at z;exact (bV.2 z.2).trans (aw.2 z.1)⟩,fun rd ay E a w aE k s gg cM=>?_⟩;refine wpIn_seq (aK rd ay E a w (aE.imp (fun h=>h) fun h=>by simp only [noMark,Bool.and_eq_true] at h;exact h.1) k s _ fun ax bw an b6 z2 z3=>?_).wp;exact (b8 rd ay ax bw an (aE.imp (fun h=>h) fun h=>by simp only [noMark,Bool.and_eq_true] at h;exact h.2) z2 z3 gg fun cm a2 b2 e1 fZ y3=>cM cm a2 b2 (b6.trans e1) fZ y3).wp
   | exit i=>
     refine ⟨.exit i,br,aa,ar,⟨aw.1,fun z=>by simp only [gI,aY.plain,Bool.and_eq_true] at z;exact aw.2 z.1⟩,fun rd ay E a w aE k s gg cM=>?_⟩;refine wpIn_seq (aK rd ay E a w (aE.imp (fun h=>h) fun h=>by simp only [noMark,Bool.and_eq_true] at h;exact h.1) k s _ fun ax bw an b6 z2 z3=>?_).wp;exact cM ax bw an b6 z2 z3
   | ret=>
     refine ⟨.ret,br,aa,ar,⟨aw.1,fun z=>by simp only [gI,aY.plain,Bool.and_eq_true] at z;exact aw.2 z.1⟩,fun rd ay E a w aE k s gg cM=>?_⟩;refine wpIn_seq (aK rd ay E a w (aE.imp (fun h=>h) fun h=>by simp only [noMark,Bool.and_eq_true] at h;exact h.1) k s _ fun ax bw an b6 z2 z3=>?_).wp;exact cM ax bw an b6 z2 z3
 | cond c x y wN wO=>
   intro r h Q a6 H;simp only [gI,gy] at H;cases bj:(rx c).aT r<;>rw [bj] at H<;>simp only at H<;>try (exact H.elim)
   rename_i t;have aD:∀E a,kk E au r a->a.eval c=.bool t:=by
    intro E a k;cases c with
    | tmp d=>
      simp only [rx] at bj;cases ae:Nat.ble d top with
      | false=>rw [ae] at bj;simp [aX.aT] at bj
      | true=>
        rw [ae] at bj;simp only [cond_true,aX.aT] at bj;have:=k.aq d (w6 (Nat.le_of_ble_eq_true ae));rw [bj] at this;simp only [Rel] at this;exact this
    | const v=>
      simp only [rx,aX.aT] at bj;have:=uG E v;rw [bj] at this;simp only [Rel] at this;exact this
    | func f=>
      simp only [rx] at bj;cases ae:Nat.beq f dy<;>rw [ae] at bj<;>simp [aX.aT] at bj
    | global g=>simp [rx,aX.aT] at bj
   cases t with
   | true=>
     obtain ⟨e,br,aa,ar,aw,aK⟩:=wN r h Q a6 (H.1 rfl);exact ⟨e,br,aa,ar,⟨aw.1,fun z=>by simp only [gI,aY.plain,Bool.and_eq_true] at z;exact aw.2 z.1⟩,fun rd ay E a w aE k s gg cM=>wpIn_cond_true (aD E a k) (aK rd ay E a w (aE.imp (fun h=>h) fun h=>by simp only [noMark,Bool.and_eq_true] at h;exact h.1) k s gg cM).wp⟩
   | false=>
     obtain ⟨e,br,aa,ar,aw,aK⟩:=wO r h Q a6 (H.2 rfl);exact ⟨e,br,aa,ar,⟨aw.1,fun z=>by simp only [gI,aY.plain,Bool.and_eq_true] at z;exact aw.2 z.2⟩,fun rd ay E a w aE k s gg cM=>wpIn_cond_false (aD E a k) (aK rd ay E a w (aE.imp (fun h=>h) fun h=>by simp only [noMark,Bool.and_eq_true] at h;exact h.2) k s gg cM).wp⟩
 | block id x bq=>
   intro r h Q a6 H;simp only [gI,gy] at H;obtain ⟨e,br,aa,ar,aw,aK⟩:=bq r h _ a6 H;refine ⟨e.leave id,br,aa,ar,aw,fun rd ay E a w aE k s gg cM=>?_⟩;refine wpIn_block (aK rd ay E a w (aE.imp (fun h=>h) fun h=>h) k s _ fun ax bw an b6 z2 z3=>?_).wp;cases e with
   | normal=>exact cM ax bw an b6 z2 z3
   | ret=>exact cM ax bw an b6 z2 z3
   | exit i=>
     have:=cM ax bw an b6 z2 z3;simp only [toExit,Exit.inBlock];simp only [dm.leave] at this;by_cases ao:i=id
     . rw [if_pos ao] at this ⊢;exact this
     . rw [if_neg ao] at this ⊢;exact this
 | loop x bq=>
   intro r h Q a6 H;simp only [gI,gy] at H;obtain ⟨I,μ,su,afJ⟩:=H;have key:∀n r h,μ r h=n->I r h->Out au r->∃e bD ab,Q e bD ab/\(Out au bD/\((gI P au (.loop x)).plain=true->bD eN=r eN))/\Du P au (.loop x) r h e bD ab:=by
    intro n
    induction n using Nat.strongRecOn with
    | _ n agw=>
      intro r h aV su a6;obtain ⟨e,br,aa,ar,aw,aK⟩:=bq r h _ a6 (afJ r h su);have body:∀(rd:Option Nat) (ay:Fr) E a w,(rd=none\/noMark x=true)->kk E au r a->bd ay E h w->∀(b:Frame) (dj:List Item) (cs:List Frame),b.roundOf=rd->∃bw an ax,E.le ax/\kk ax au br bw/\bd ay ax aa an/\ArrivesIn (Machine.fenced P (cw rd)) P (lone (b.atR a (.code x::.inLoop x::dj)) cs w) b (.inLoop x::dj) cs (toExit e) bw an:=by intro rd ay E a w aE k s b dj cs lS;have:=(aK rd ay E a w aE k s (fun cX bw an=>cX=toExit e/\∃ax,E.le ax/\kk ax au br bw/\bd ay ax aa an) (fun ax bw an ar aw aK=>⟨rfl,ax,ar,aw,aK⟩)).wp b (.inLoop x::dj) cs lS trivial (ML _);obtain ⟨bf,a2,b2,⟨rfl,cm,b6,z2,z3⟩,j7⟩:=this;exact ⟨a2,b2,cm,b6,z2,z3,j7⟩
      cases e with
      | normal=>
        obtain ⟨ad5,aO⟩:=ar;obtain ⟨bf,cF,ad,bW,bV,b8⟩:=agw (μ br aa) (aV ▸ aO) br aa rfl ad5 aw.1;refine ⟨bf,cF,ad,bW,⟨bV.1,fun z=>(bV.2 z).trans (aw.2 z)⟩,fun rd ay E a w aE k s gg cM b dj cs lS=>?_⟩;obtain ⟨a2,b2,cm,b6,z2,z3,j7⟩:=body rd ay E a w (aE.imp (fun h=>h) fun h=>h) k s b dj cs lS;obtain ⟨c4,a3,iS,e1,fZ⟩:=b8 rd ay cm a2 b2 aE z2 z3 gg (fun tp a4 jy t1 t2 t3=>cM tp a4 jy (b6.trans t1) t2 t3) b dj cs lS;exact ⟨c4,a3,iS,e1,.of_steps (StepsIn.trans j7 (.one (qY _) stepR_inLoop)) fZ⟩
      | exit i=>
        refine ⟨.exit i,br,aa,ar,aw,fun rd ay E a w aE k s gg cM b dj cs lS=>?_⟩;obtain ⟨a2,b2,cm,b6,z2,z3,j7⟩:=body rd ay E a w (aE.imp (fun h=>h) fun h=>h) k s b dj cs lS;exact ⟨.exit i,a2,b2,cM cm a2 b2 b6 z2 z3,.pass (x:=.inLoop x) rfl (fun _ _=>.inl (by simp)) j7⟩
      | ret=>
        refine ⟨.ret,br,aa,ar,aw,fun rd ay E a w aE k s gg cM b dj cs lS=>?_⟩;obtain ⟨a2,b2,cm,b6,z2,z3,j7⟩:=body rd ay E a w (aE.imp (fun h=>h) fun h=>h) k s b dj cs lS;exact ⟨.ret,a2,b2,cM cm a2 b2 b6 z2 z3,.pass (x:=.inLoop x) rfl (fun _ _=>.inl (by simp)) j7⟩
   exact key _ r h rfl su a6
 | scope x bq=>
   intro r h Q a6 H;obtain ⟨e,br,aa,ar,aw,aK⟩:=bq r h Q a6 H;refine ⟨e,br,aa,ar,aw,fun rd ay E a w aE k s gg cM=>?_⟩;refine Wl (aK rd ay E a w (aE.imp (fun h=>h) fun h=>h) k s _ fun ax bw an b6 z2 z3=>?_).wp;have:=cM ax bw an b6 z2 z3;cases e<;>exact this
 | rangeFunc f bm x y _ _=>intro r h Q a6 H;exact amd hC dz bJ a6 H
 | goto l=>intro r h Q a6 H;exact H.elim
 | refuse aoq=>intro r h Q a6 H;exact H.elim
inductive vo where
 | t (n:Nat)
 | bP (n:Nat)
 | sg (n size:Nat)
 | bad
def nH (P:Program) (au:Nat):List ResultVar->List vo
 | []=>[]
 | .tmp t::rs=>(bif Nat.ble t top&&Nat.blt t au then .t t else .bad)::nH P au rs
 | .cell a t::rs=>(bif Nat.ble a top&&Nat.blt a au then (match a' P t with
   | none=>.bad
   | some aR=>bif aR.agg then .sg a aR.size else bif Nat.beq aR.size 1 then .bP a else .bad) else .bad)::nH P au rs
def la (r:bc) (h:ah):List vo->Option (List V)
 | []=>some []
 | x::xs=>match (match x with
   | .t n=>some (r n)
   | .bP n=>nA h (r n)
   | .sg n size=>nz size h (r n)
   | .bad=>none) with
   | none=>none
   | some v=>match la r h xs with
     | none=>none
     | some ai=>some (v::ai)
theorem EH {r:bc} {h:ah} {cg:bI} (dK:ef cg=r):∀{l:List ResultVar} {ai:List V},la r h (nH P au l)=some ai->(kY P au l).run cg h=some ai
 | [],ai,he=>by simpa [la,nH,kY] using he
 | .tmp t::rs,ai,he=>by
   simp only [nH,la] at he;unfold kY;cases aD:(Nat.ble t top&&Nat.blt t au) with
   | false=>rw [aD] at he;simp at he
   | true=>
     rw [aD] at he;simp only [cond_true] at he ⊢;cases aE:la r h (nH P au rs) with
     | none=>rw [aE] at he;cases he
     | some xE=>
       rw [aE] at he;rw [EH dK aE];have:=congrFun dK t;simp only [ef] at this;rw [this];exact he
 | .cell a t::rs,ai,he=>by
   simp only [nH,la] at he;unfold kY;cases aD:(Nat.ble a top&&Nat.blt a au) with
   | false=>rw [aD] at he;simp at he
   | true=>
     rw [aD] at he;simp only [cond_true] at he ⊢;have rf:=congrFun dK a;simp only [ef] at rf;rw [rf];unfold ql;cases av:a' P t with
     | none=>rw [av] at he;simp at he
     | some aR=>
       rw [av] at he;simp only at he ⊢;cases Sh:aR.agg with
       | true=>
         rw [Sh] at he;simp only [cond_true] at he ⊢;cases aA:nz aR.size h (r a) with
         | none=>rw [aA] at he;cases he
         | some v=>
           rw [aA] at he;simp only at he ⊢;cases aE:la r h (nH P au rs) with
           | none=>rw [aE] at he;cases he
           | some xE=>rw [aE] at he;rw [EH dK aE];exact he
       | false=>
         rw [Sh] at he;simp only [cond_false] at he ⊢;cases aS:Nat.beq aR.size 1 with
         | false=>rw [aS] at he;simp at he
         | true=>
           rw [aS] at he;simp only [cond_true] at he ⊢;cases aA:nA h (r a) with
           | none=>rw [aA] at he;cases he
           | some v=>
             rw [aA] at he;simp only at he ⊢;cases aE:la r h (nH P au rs) with
             | none=>rw [aE] at he;cases he
             | some xE=>rw [aE] at he;rw [EH dK aE];exact he
theorem Gw:∀(l:List V) (t:Nat),bc.bE l t=(l[t]?).getD .bad
 | [],t=>by simp [bc.bE]
 | v::ai,t=>by
   simp only [bc.bE];cases t with
   | zero=>simp
   | succ t=>simp [Gw ai t]
def dm.ends:dm->Prop
 | .exit _=>False
 | _=>True
def qk:List V->ah->Option ah
 | [],h=>some h
 | .ptr b _::ds,h=>(match h.get b with
   | .f_=>qk ds (h.set b .dead)
   | _=>none)
 | _::_,_=>none
theorem T6 {kG:vb}:∀{ds:List V} {h ad:ah},qk ds h=some ad->nx kG ds none h=.go none ad
 | [],h,ad,e=>by simp only [qk,Option.some.injEq] at e;subst e;rfl
 | d::ds,h,ad,e=>by
   cases d<;>simp only [qk] at e<;>try (cases e;done)
   rename_i b o;simp only [nx];cases aB:h.get b<;>rw [aB] at e<;>simp only at e<;>try (cases e;done)
   exact T6 e
theorem Q3 (dz:P.follows .mixedOrders=true) (bJ:eO P) {f:FuncId} {fn:Func} {c:Code} {args:List V} {h:ah} {K:V->ah->Prop} (az:P.funcs[f]? =some fn) (ae:fn.body=some c)
 (hC:Nat.ble fn.ntmps top=true) (aZ:Nat.beq f dy=false) (lJ:Nat.ble args.length fn.ntmps=true) {rc:aY} {eZ:List vo} (BR:gI P fn.ntmps c=rc) (wG:nH P fn.ntmps fn.results.toList=eZ) {Q:dm->bc->ah->Prop} (H:gy P rc (bc.bE args) h Q)
 (cM:∀e r ab,(rc.plain=true->r eN=.bad)->Q e r ab->e.ends/\∃ad,qk (r eN).list ab=some ad/\∃ai,la r ad eZ=some ai/\K (oneOf ai) ad):de P f args h K:=by
 subst BR wG;rw [Nat.ble_eq] at hC lJ;have a6:Out fn.ntmps (bc.bE args):=by intro t av _;rw [Gw,List.getElem?_eq_none (by omega)];rfl
 have mw:(bc.bE args) eN=.bad:=by rw [Gw,List.getElem?_eq_none (by unfold eN;unfold top at hC;omega)];rfl
 obtain ⟨e,bD,ab,aC,sD,aet⟩:=NC hC dz bJ c _ h _ a6 H;obtain ⟨gB,ad,afc,ai,agb,dO⟩:=cM e bD ab (fun z=>(sD.2 z).trans mw) aC;have iK:f≠dy:=fun e=>by subst e;simp at aZ
 refine ⟨oneOf ai,ad,⟨iK,.inl ⟨⟨fn,az,by rw [ae];rfl⟩,fun ay E w xs ak s=>?_⟩⟩,dO⟩;have hlen:=ak.length;have cq:xs.toArray.size<=fn.ntmps:=by simp;omega
 refine tK.1 (callsIn_of_wp_marks (F:=cw none) (n:=0) az ae trivial ?_);have k:kk E fn.ntmps (bc.bE args) {tmps:=xs.toArray++Array.replicate (fn.ntmps-xs.toArray.size) undef,defers:=[]}:=by
  refine ⟨by simp;omega,by rw [mw];simp [lz],fun t _=>?_⟩;rw [Gw];cases aB:args[t]? with
  | none=>simp [Rel]
  | some v=>
    obtain ⟨y,aZ,aE⟩:=ak.get t v aB;simp only [Option.getD_some];have FJ:t<xs.length:=(List.getElem?_eq_some_iff.1 aZ).1;rw [Array.getD_eq_getD_getElem?,Array.getElem?_append_left (by simpa using FJ)];simp only [List.getElem?_toArray,aZ,Option.getD_some];exact aE
 have lL:Dw P (fun _ _ _ _=>.fail):=fun f args u h gR ab he=>by cases he
 have fin:∀ax bw an,E.le ax->kk ax fn.ntmps bD bw->bd ay ax ab an->LeavesInM (cw none) 0 P fn bw.tmps (fun e an=>∃ax x,e=.returned x/\E.le ax/\Rel ax (oneOf ai) x/\bd ay ax ad an) bw.defers .returning an:=by
  intro ax bw an ar aw aK;obtain ⟨cg,dK⟩:=EI sD.1;have bb:T.get .bad e6 cg=bD eN:=by have:=congrFun dK eN;simp only [ef] at this;exact this
  have aH:fF ax fn.ntmps cg bw:=⟨⟨aw.size,fun t av=>by have:=congrFun dK t;simp only [ef] at this;rw [this];exact aw.aq t (w6 av)⟩,by rw [bb];exact aw.defers⟩;refine Ju (C:=⟨P,fun _=>none,fun _=>none⟩) (u:=none) bJ lL aH rfl aK ?_;rw [bb,T6 afc];simp only [finish];rw [EH dK agb];exact fun cm x b2 bW bV b8=>⟨cm,x,rfl,ar.trans bW,bV,b8⟩
 refine (aet none ay E _ w (.inl rfl) k s _ fun ax bw an ar aw aK=>?_).wp;have:=fin ax bw an ar aw aK;cases e with
 | normal=>exact this
 | ret=>exact this
 | exit i=>exact gB.elim
theorem Vg:∀(bm:List Nat) (ai:List V) (cg:bI),ef (s5 bm ai cg)=bc.uI bm ai (ef cg)
 | p::bm,v::ai,cg=>by rw [s5,bc.uI,Vg bm ai];congr 1;exact GN (some p) cg v
 | [],[],_=>rfl
 | [],_::_,_=>rfl
 | _::_,[],_=>rfl
theorem Vh:∀{bm:List Nat} {ai:List V} {r:bc},pw au bm=true->Out au r->Out au (bc.uI bm ai r)
 | p::bm,v::ai,r,af,a6=>by simp only [pw,List.all_cons,Bool.and_eq_true] at af;exact Vh (r:=r.set (some p) v) af.2 (a6.set (d:=some p) (by simp only [e7,Bool.and_eq_true];exact af.1) v)
 | [],[],_,_,a6=>a6
 | [],_::_,_,_,a6=>a6
 | _::_,[],_,_,a6=>a6
theorem Wa {bm:List Nat} {ai:List V} {r:bc} (af:pw au bm=true) (a6:Out au r):Out au (oK bm ai r):=fun t aa ad=>by unfold oK;simp only [bc.set];rw [if_neg ad];exact Vh af a6 t aa ad
theorem aoR (hC:au<=top) (dz:P.follows .mixedOrders=true) (bJ:eO P) {l:lB} {r:bc} {bm:List Nat} {CZ kz:aY} {xs:List V} {b:aQ} {h:ah} {K:V->ah->Prop} (F:DQ P l au r bm CZ kz) (aB:h.get b=.dA l) (aW:l.st=0) (hlen:xs.length=bm.length)
 (H:gy P CZ (oK bm xs r) h fun e br aa=>e=.normal/\aa.get b=.dA l/\gy P kz br (aa.set b (.dA (l.go 1 l.er))) fun e cF ad=>ad.get b=.dA (l.go 1 l.er)/\(match e with
   | .normal=>K (.bool true) (ad.set b (.dA (l.go 0 none)))
   | e=>K (.bool false) (ad.set b (.dA (l.go 2 (some e)))))):D1 P xs b h K:=by
 obtain ⟨tr,rT,Hx,X6,X7,Hy,X8,X9,N4⟩:=F;subst X6 X7;obtain ⟨aP,br,aa,⟨rfl,g1,cp⟩,db,bP⟩:=NC hC dz bJ l.assign _ h _ (Wa Hy N4) H;obtain ⟨bf,cF,ad,⟨g2,Yb⟩,dp,bX⟩:=NC hC dz bJ l.body _ _ _ db.1 cp;obtain ⟨v,ab,gB,dO⟩:∃v ab,xm b bf ad=.val v ab/\K v ab:=by unfold xm;rw [g2];cases bf<;>exact ⟨_,_,rfl,Yb⟩
 refine ⟨v,ab,fun ay E w Io p aA s af=>?_,dO⟩;have ae:=s.at af;rw [aB] at ae;obtain ⟨p',o,gF,da,bl,aE⟩:=ae;rw [af] at gF;cases gF;obtain ⟨t1,t2,t3,t4,t5,t6,t7,t8⟩:=aE;have fz:=aA.length;have FD:o.params.size=Io.length:=by rw [<-Array.length_toList,t3,Hx,<-hlen,fz]
 refine ⟨o.fn,(o.params.zip Io.toArray).foldl (fun tmps (t,a)=>tmps.setIfInBounds t a) o.tmps,o.assign,o.body,?_,?_⟩
 . simp only [Instr.yield,Sem.run_bind,run_getLoop bl,Result.andThen_ok];rw [if_neg (by simp [FD])];rfl
 . rw [t4,t5];refine roundIn_of_wpIn (F:=cw none) trivial ?_;have iu:RegRel0 E l.au l.r ⟨o.tmps,[]⟩:=⟨t6,t7⟩;have aaN:pw l.au o.params.toList=true:=by rw [t3,Hx,tr];exact Hy
   have bz:=VJ aaN aA iu;have k:kk E au (oK bm xs r) ⟨(o.params.zip Io.toArray).foldl (fun t (p:Nat × Value)=>t.setIfInBounds p.1 p.2) o.tmps,[]⟩:=by
    refine ⟨by rw [<-tr];exact bz.size,by unfold oK;simp [bc.set,lz],fun t av=>?_⟩;by_cases afY:t<=top
    . have:=bz.aq t afY;rw [t3,Hx] at this;have e:=congrFun (Vg bm xs l.r) t;rw [rT] at e;unfold oK;simp only [bc.set];rw [if_neg av,<-e];exact this
    . rw [Wa Hy N4 t (by omega) av];simp [Rel]
   refine (bP (some p.aN) ay E _ w (.inr X8) k s (Exit.then (fun r' tk=>∃Di,(Instr.beginRound p.aN).run P tk=.ok () Di/\
    l.body.wpIn (cw (some p.aN)) 0 P (roundPost P p.aN fun e an=>∃ax x,e=.returned x/\E.le ax/\Rel ax v x/\bd ay ax ab an) r' Di) (fun _ _ _=>False)) fun eu bZ b3 ar aw aK=>?_).wp
   have iY:=ar _ _ af;have ko:=aK.at iY;rw [g1] at ko;obtain ⟨bW,ej,BL,q2,q7,sF⟩:=ko;rw [iY] at BL;cases BL;obtain ⟨e1,fZ,y3,y4,ND,y6,aoO,aoP⟩:=sF;obtain ⟨b6,z2⟩:=aK.loop (P:=P) (fh:=l.go 1 l.er) (cj:={ej with state:=.busy}) g1 iY q2 q7 ⟨rfl,fZ,y3,y4,ND,y6,aoO,aoP⟩;refine ⟨{b3 with heap:=b3.heap.setIfInBounds p.aN (.loop {ej with state:=.busy})},?_,?_⟩
   . have BS:ej.state=.ready:=by rw [e1,aW];rfl
     simp only [Instr.beginRound,Sem.run_bind,run_getLoop q7,Result.andThen_ok,b6,BS,Sem.run_pure]
   . refine (bX (some p.aN) ay eu _ _ (.inr X9) aw z2 _ fun cm a2 b2 bA eB nN=>?_).wp;exact V_ nN (bA _ _ iY) gB fun x an u1 Ab=>⟨cm,x,rfl,ar.trans bA,u1,Ab⟩
theorem ab5 (dz:P.follows .mixedOrders=true) (bJ:eO P) {f:FuncId} {fn:Func} {c:Code} {args:List V} {h:ah} {K:V->ah->Prop} (az:P.funcs[f]? =some fn) (ae:fn.body=some c)
 (hC:Nat.ble fn.ntmps top=true) (aZ:Nat.beq f dy=false) (lJ:Nat.ble args.length fn.ntmps=true) {rc:aY} {eZ:List vo} (BR:gI P fn.ntmps c=rc) (wG:nH P fn.ntmps fn.results.toList=eZ) (jo:rc.plain=true)
 (H:gy P rc (bc.bE args) h fun e r ab=>e.ends/\∃ai,la r ab eZ=some ai/\K (oneOf ai) ab):de P f args h K:=by
 refine Q3 dz bJ az ae hC aZ lJ BR wG H fun e r ab aS ⟨aa,ai,ad,aJ⟩=>⟨aa,ab,?_,ai,ad,aJ⟩;rw [aS jo];rfl
theorem ab6 (dz:P.follows .mixedOrders=true) (bJ:eO P) {f:FuncId} {fn:Func} {c:Code} {args:List V} {h:ah} {K:V->ah->Prop} (az:P.funcs[f]? =some fn) (ae:fn.body=some c)
 (hC:Nat.ble fn.ntmps top=true) (aZ:Nat.beq f dy=false) (lJ:Nat.ble args.length fn.ntmps=true) {rc:aY} {eZ:List vo} (BR:gI P fn.ntmps c=rc) (wG:nH P fn.ntmps fn.results.toList=eZ)
 (H:gy P rc (bc.bE args) h fun e r ab=>e.ends/\∃ad,qk (r eN).list ab=some ad/\∃ai,la r ad eZ=some ai/\K (oneOf ai) ad):de P f args h K:=
 Q3 dz bJ az ae hC aZ lJ BR wG H fun e r ab _ q=>q
end
end
section
open Go Go.RowKit
variable [Lay]
theorem rH (i j:Nat):(aj i=aj j)=(i=j):=by apply propext;exact ⟨fj,fun h=>by rw [h]⟩
theorem al0 (ai:List V):∀(i off:Nat) (x:V) (t:T V),i<off->T.put .bad x (aj i) (fC t off ai)=fC (T.put .bad x (aj i) t) off ai:=by
 induction ai with
 | nil=>intro i off x t _;rfl
 | cons v ai bq=>
   intro i off x t h;simp only [fC];rw [bq i (off+1) x _ (by omega),T.put_comm _ _ _ _ _ _ (fun e=>by rw [rH] at e;omega)]
def j3 (ai:List V) (off:Nat) (ws:List V):List V:=ai.take off++ws++ai.drop (off+ws.length)
theorem VO:∀(ai:List V) (base i:Nat) (x:V) (t:T V),i<ai.length->T.put .bad x (aj (base+i)) (fC t base ai)=fC t base (ai.set i x)
 | [],_,i,_,_,h=>by simp at h
 | v::ai,base,i,x,t,h=>by
   cases i with
   | zero=>
     simp only [fC,Nat.add_zero,List.set];rw [al0 ai base (base+1) x _ (by omega),T.VM]
   | succ i=>
     simp only [fC,List.set];have:=VO ai (base+1) i x (T.put .bad v (aj base) t) (by simpa using h);rw [show base + (i+1)=base+1+i from by omega];exact this
theorem Wp (ai:List V) (off:Nat) (w:V) (ws:List V) (h:off<ai.length):j3 (ai.set off w) (off+1) ws=j3 ai off (w::ws):=by
 unfold j3;have aa:(ai.set off w).take (off+1)=ai.take off++[w]:=by rw [List.take_succ_eq_append_getElem (by simpa using h)];simp [List.take_set_of_le]
 have ad:(ai.set off w).drop (off+1+ws.length)=ai.drop (off + (w::ws).length):=by rw [List.drop_set_of_lt (by omega)];congr 1;simp;omega
 rw [aa,ad];simp
theorem MW (ai:List V) (off:Nat) (ws:List V) (h:off+ws.length<=ai.length):(j3 ai off ws).length=ai.length:=by unfold j3;simp;omega
theorem Mn:∀(ws ai:List V) (off:Nat),off+ws.length<=ai.length->fC (fC .e 0 ai) off ws=fC .e 0 (j3 ai off ws)
 | [],ai,off,h=>by simp [fC,j3]
 | w::ws,ai,off,h=>by simp only [List.length_cons] at h;simp only [fC];have aa:=VO ai 0 off w .e (by omega);rw [Nat.zero_add] at aa;rw [aa,Mn ws (ai.set off w) (off+1) (by simp;omega),Wp ai off w ws (by omega)]
theorem EW (ai:List V):∀(off i:Nat) (t:T V),T.get .bad (aj (off+i)) (fC t off ai)=if i<ai.length then (ai[i]?).getD .bad else T.get .bad (aj (off+i)) t:=by
 induction ai with
 | nil=>intro off i t;simp [fC]
 | cons v ai bq=>
   intro off i t;simp only [fC];cases i with
   | zero=>
     have:∀(ws:List V) (o:Nat) (s:T V),off<o->T.get .bad (aj off) (fC s o ws)=T.get .bad (aj off) s:=by
      intro ws
      induction ws with
      | nil=>intro o s _;rfl
      | cons w ws agx=>
        intro o s a6;simp only [fC];rw [agx (o+1) _ (by omega),T.iq,if_neg (fun e=>by rw [rH] at e;omega)]
     rw [Nat.add_zero,this ai (off+1) _ (by omega),T.iq];simp
   | succ i=>
     have:=bq (off+1) i (T.put .bad v (aj off) t);rw [show off+1+i=off + (i+1) from by omega] at this;rw [this,T.iq];have ck:¬aj off=aj (off + (i+1)):=fun e=>by rw [rH] at e;omega
     rw [if_neg ck];simp
theorem EX (ai:List V):∀(n i:Nat),i+n<=ai.length->lb (fC .e 0 ai) i n=(ai.drop i).take n
 | 0,i,h=>by simp [lb]
 | n+1,i,h=>by simp only [lb];have aa:=EW ai 0 i .e;rw [Nat.zero_add] at aa;rw [aa,if_pos (by omega),EX ai n (i+1) (by omega)];have bb:ai.drop i=ai[i]::ai.drop (i+1):=List.drop_eq_getElem_cons (by omega);rw [bb,List.take_succ_cons];simp [List.getElem?_eq_getElem (by omega:i<ai.length)]
def cd.bE (ai:List V) (cQ:Nat) (st:Bool):cd:=.cells ai.length (fC .e 0 ai) cQ st
def cd.ro (ai:List V):cd:=.view ai.length (fC .e 0 ai)
def Rd (h:ah) (b:aQ) (ai:List V):Prop:=h.get b=.ro ai\/∃cQ st,h.get b=.bE ai cQ st
def Own (h:ah) (b:aQ) (ai:List V) (cQ:Nat) (st:Bool):Prop:=h.get b=.bE ai cQ st
theorem Rd.pE {α:Type} {h:ah} {b:aQ} {ai:List V} (H:Rd h b ai) (d:α) (f:Nat->T V->α):(h.get b).pE d f=f ai.length (fC .e 0 ai):=by rcases H with H | ⟨_,_,H⟩<;>rw [H]<;>rfl
theorem Own.lay {h:ah} {b:aQ} {ai:List V} {cQ:Nat} {st:Bool} (H:Own h b ai cQ st) {off:Nat} {ws:List V} (a6:off+ws.length<=ai.length) (aa:eI ws=true):
 lay h b off ws=some (h.set b (.bE (j3 ai off ws) cQ st)):=by
 unfold a8.lay;rw [show h.get b=.cells ai.length (fC .e 0 ai) cQ st from H];simp only [cd.on];rw [show Nat.ble (off+ws.length) ai.length=true from by rw [Nat.ble_eq];exact a6,aa];simp only [Bool.and_true,cond_true,Option.some.injEq,cd.bE];rw [MW ai off ws a6,Mn ws ai off a6]
theorem UE {h:ah} {ai:List V} (aA:ai.length<=top):gG h ai=some (h.new (.bE ai 0 false)):=by unfold gG;rw [show Nat.ble ai.length top=true from by rw [Nat.ble_eq];exact aA];rfl
theorem CA {h:ah} {ai:List V} {cQ:Nat} {st:Bool} (aA:ai.length<=top) (he:1<=cQ):kc h ai cQ st=some (h.new (.bE ai cQ st)):=by unfold kc;rw [show Nat.ble ai.length top=true from by rw [Nat.ble_eq];exact aA,show Nat.ble 1 cQ=true from by rw [Nat.ble_eq];exact he];rfl
theorem gk (h:ah) (k:cd):(h.new k).next=h.next+1:=rfl
theorem l5 (h:ah) (b:aQ) (k:cd):(h.set b k).next=h.next:=rfl
section
variable {P:Program} {r:bc} {h:ah}
theorem amQ (r:bc) (d:Nat) (v:V) (t:Nat):bc.set r (some d) v t=if t=d then v else r t:=(rfl)
theorem amR (r:bc) (v:V):bc.set r none v=r:=(rfl)
theorem anZ (r:bc) (u:Nat) (us:List Nat) (t:Nat):bc.trim r (u::us) t=if t=u then r t else bc.trim r us t:=(rfl)
theorem akU (v:V) (ai:List V):bc.bE (v::ai) 0=v:=(rfl)
theorem akV (v:V) (ai:List V) (t:Nat):bc.bE (v::ai) (t+1)=bc.bE ai t:=by simp [bc.bE]
theorem acT (r:bc) (n:Nat):aX.aT r (.t n)=r n:=(rfl)
theorem acS (r:bc) (v:V):aX.aT r (.c v)=v:=(rfl)
theorem UU {d:Option Nat} {g:G} {rs:List Nat} {K:bc->V->ah->Prop}:bH.wp P ⟨d,g,none,rs⟩ r h K=g.wp P (r.trim rs) h fun v ab=>K (r.set d v) v ab:=(rfl)
theorem US {d:Option Nat} {g:G} {j:Nat} {want:Bool} {rs:List Nat} {K:bc->V->ah->Prop}:bH.wp P ⟨d,g,some (j,want),rs⟩ r h K=
 gate (r.trim rs j) want (g.wp P (r.trim rs) h fun v ab=>K (r.set d v) v ab) (K (r.set d (.tuple [])) (.tuple []) h):=(rfl)
variable {K:V->ah->Prop}
theorem o4 (k:IntKind):pS k k=true:=by cases k<;>rfl
theorem oz (a b:Int):Int.leB a b=decide (a<=b):=oA a b
theorem Bg (a b:Int):Int.gY a b=decide (a=b):=by rw [k_];rfl
variable (k:IntKind) (a b:Int)
theorem agV:(eC.int .add).run P (.int k a) (.int k b)=some (.int k (k.wrap (a+b))):=by simp [eC.run,lX,pg,V.ep,o4]
theorem ah9:(eC.int .sub).run P (.int k a) (.int k b)=some (.int k (k.wrap (a-b))):=by simp [eC.run,lX,pg,V.ep,o4]
theorem ahN:(eC.int .mul).run P (.int k a) (.int k b)=some (.int k (k.wrap (a * b))):=by simp [eC.run,lX,pg,V.ep,o4]
theorem ah0 (ae:b≠0):(eC.int .rem).run P (.int k a) (.int k b)=some (.int k (a.tmod b)):=by simp [eC.run,lX,Ca,V.ep,o4,Bg,ae]
theorem ahh:(eC.int .eql).run P (.int k a) (.int k b)=some (.bool (decide (a=b))):=by simp [eC.run,lX,nv,V.ep,o4,Bg]
theorem ahQ:(eC.int .neq).run P (.int k a) (.int k b)=some (.bool (!decide (a=b))):=by simp [eC.run,lX,nv,V.ep,o4,Bg]
theorem ahH:(eC.int .lss).run P (.int k a) (.int k b)=some (.bool (decide (a<b))):=by simp [eC.run,lX,nv,V.ep,o4,oz];rw [Bool.eq_iff_iff];simp
theorem ahC:(eC.int .leq).run P (.int k a) (.int k b)=some (.bool (decide (a<=b))):=by simp [eC.run,lX,nv,V.ep,o4,oz]
theorem ahq:(eC.int .gtr).run P (.int k a) (.int k b)=some (.bool (decide (b<a))):=by simp [eC.run,lX,nv,V.ep,o4,oz];rw [Bool.eq_iff_iff];simp
theorem ahp:(eC.int .geq).run P (.int k a) (.int k b)=some (.bool (decide (b<=a))):=by simp [eC.run,lX,nv,V.ep,o4,oz]
theorem agY (x y:Bool):(eC.yq false).run P (.bool x) (.bool y)=some (.bool (x == y)):=by simp [eC.run,jK,Bh,qT]
theorem ag2 (x y:Bool):(eC.yq true).run P (.bool x) (.bool y)=some (.bool (!(x == y))):=by simp [eC.run,jK,Bh,qT]
theorem an' (x:Bool):rO .not (.bool x)=some (.bool (!x)):=(rfl)
theorem an9:rO .neg (.int k a)=some (.int k (k.wrap (0-a))):=(rfl)
theorem wrap_i64 {n:Int} (aa:-9223372036854775808<=n) (ad:n<=9223372036854775807):IntKind.i64.wrap n=n:=by exact Go.IntWalk.i64_in n ⟨aa,ad⟩
end
section
variable {P:Program} {r:bc} {h:ah} {Q:dm->bc->ah->Prop}
theorem abi {ops:List bH}:gy P (.aq ops) r h Q=tj P ops r h (Q .normal):=(rfl)
theorem abj {a b:aY}:gy P (.seq a b) r h Q=gy P a r h fun e bD ab=>e.andThen (gy P b bD ab Q) (Q e bD ab):=(rfl)
theorem anN {A B:Prop}:dm.andThen .normal A B=A:=(rfl)
theorem anO {A B:Prop}:dm.andThen .ret A B=B:=(rfl)
theorem anM {A B:Prop} {i:Nat}:dm.andThen (.exit i) A B=B:=(rfl)
theorem ajz {id:Nat}:dm.leave id .normal=.normal:=(rfl)
theorem ajA {id:Nat}:dm.leave id .ret=.ret:=(rfl)
theorem ajy {id i:Nat}:dm.leave id (.exit i)=if i=id then .normal else .exit i:=(rfl)
end
def xI {α:Type} (o:Option α) (k:α->Prop):Prop:=
 match o with
 | some v=>k v
 | none=>False
@[congr] theorem aqR {α:Type} {o cj:Option α} {k:α->Prop} (h:o=cj):xI o k=xI cj k:=by rw [h]
def V.opt (c:Bool) (v:V):V:=bif c then v else .tuple []
theorem alm (v:V):V.opt true v=v:=(rfl)
theorem ali (v:V):V.opt false v=.tuple []:=(rfl)
@[congr] theorem aqy {c fS:Bool} {v dd:V} (h:c=fS) (bj:fS=true->v=dd):V.opt c v=V.opt fS dd:=by
 subst h;cases c with
 | true=>rw [bj rfl]
 | false=>rfl
def V.bif (t:Bool) (a b:V):V:=bif t then a else b
theorem aoh (a b:V):V.bif true a b=a:=(rfl)
theorem aog (a b:V):V.bif false a b=b:=(rfl)
theorem ZW (t a b:Bool):V.bif t (.bool a) (.bool b)=.bool (bif t then a else b):=by cases t<;>rfl
theorem ZX (t:Bool) (k:IntKind) (a b:Int):V.bif t (.int k a) (.int k b)=.int k (if t=true then a else b):=by cases t<;>rfl
theorem ZZ (t x:Bool):(bif t then true else x)=(t||x):=by cases t<;>rfl
theorem ZV (t x:Bool):(bif t then x else false)=(t&&x):=by cases t<;>rfl
@[congr] theorem apf {t uZ:Bool} {a bw b bL:V} (h:t=uZ) (a1:uZ=true->a=bw) (ae:uZ=false->b=bL):V.bif t a b=V.bif uZ bw bL:=by
 subst h;cases t with
 | true=>rw [V.bif,V.bif,a1 rfl];rfl
 | false=>rw [V.bif,V.bif,ae rfl];rfl
def e3 (c:Bool) (A:Prop):Prop:=c=true->A
@[congr] theorem ao2 {c fS:Bool} {A jA:Prop} (h:c=fS) (a1:fS=true->A=jA):e3 c A=e3 fS jA:=by subst h;exact propext ⟨fun q e=>(a1 e) ▸ q e,fun q e=>(a1 e) ▸ q e⟩
theorem Yc (c:Bool):e3 c True=True:=propext ⟨fun _=>trivial,fun _ _=>trivial⟩
theorem Ye (A:Prop):e3 true A=A:=propext ⟨fun q=>q rfl,fun q _=>q⟩
theorem Yd (A:Prop):e3 false A=True:=propext ⟨fun _=>trivial,fun _ e=>by cases e⟩
def took (v:V) (want:Bool):Bool:=
 match v with
 | .bool b=>b == want
 | _=>false
theorem anW (b w:Bool):took (.bool b) w=(b == w):=(rfl)
theorem anY (ai:List V) (w:Bool):took (.tuple ai) w=false:=(rfl)
theorem anX (c:Bool) (v:V) (w:Bool):took (.opt c v) w=(c&&took v w):=by cases c<;>rfl
def fr (v:V):Prop:=
 match v with
 | .bool _=>True
 | .tuple _=>True
 | _=>False
theorem agL (b:Bool):fr (.bool b)=True:=(rfl)
theorem agN (ai:List V):fr (.tuple ai)=True:=(rfl)
theorem agM (c b:Bool):fr (.opt c (.bool b))=True:=by cases c<;>rfl
def G.ph:G->Bool
 | .b0 _ | .pick .. | .build .. | .d' _ | .iM .. | .h2 _ | .bin .. | .un .. | .fn .. | .Cx .. | .Ea .. | .sO .. | .rL .. | .fY .. | .eH .. | .vT .. | .vU .. | .cH .. | .lU .. | .mA .. | .kb .. | .look .. | .ext .. | .uC _ | .ed _ | .tL _ | .rr .. | .looks .. | .peq .. =>true
 | .km (.int _) _=>true
 | .len .map _=>false
 | .len _ _=>true
 | _=>false
def V.s0 {α:Type} (v:V) (d:α) (f:List V->α):α:=
 match v with
 | .agg cs=>f cs
 | _=>d
def V.CJ {α:Type} (v:V) (d:α) (f:List V->α):α:=
 match v with
 | .tuple cs=>f cs
 | _=>d
def CT (c a b:V):Option V:=
 match c with
 | .bool t=>some (V.bif t a b)
 | _=>none
theorem alB (t:Bool) (a b:V):CT (.bool t) a b=some (V.bif t a b):=(rfl)
def hg (n:Nat) (x:V) (bC ao m3:Option V):Option V:=
 match x with
 | .bB=>xq bC ao m3
 | .slice b off jU cap=>s_ n b off jU cap bC ao m3
 | .dY b off jU idx=>qB n b off jU idx bC ao m3
 | .hP b off lp idx=>C4 b off lp idx bC ao m3
 | _=>none
def G.l' (P:Program) (g:G) (r:bc) (h:ah):Option V:=
 match g with
 | .b0 x=>some (x.aT r)
 | .pick c a b=>CT (c.aT r) (a.aT r) (b.aT r)
 | .build z bm=>(match jk z (kI r bm) with
   | some cs=>some (.agg cs)
   | none=>none)
 | .d' x=>nA h (x.aT r)
 | .iM n x=>nz n h (x.aT r)
 | .h2 x=>uD (x.aT r)
 | .bin k x y=>k.run P (x.aT r) (y.aT r)
 | .un op x=>rO op (x.aT r)
 | .km (.int k) x=>(x.aT r).ep none fun _ n=>some (.int k (k.wrap n))
 | .fn f eX=>some (.func f (aX.ga r eX))
 | .Cx f first=>some (.oD f (aX.ga r first))
 | .Ea t z ok x=>AW t z ok (x.aT r)
 | .sO t x=>some (.iface t (x.aT r))
 | .rL x bC ao m3=>mL (x.aT r) (aX.opt r bC) (aX.opt r ao) (aX.opt r m3)
 | .fY n x bC ao m3=>hg n (x.aT r) (aX.opt r bC) (aX.opt r ao) (aX.opt r m3)
 | .eH off x=>(x.aT r).j0 none fun b o=>some (.ptr b (o+off))
 | .vT off x=>(x.aT r).s0 none fun cs=>cs[off]?
 | .vU off n x=>(x.aT r).s0 none fun cs=>some (.agg ((cs.drop off).take n))
 | .cH n x i=>(wP n).run (x.aT r) (i.aT r)
 | .lU n s x i=>(sQ n s).run (x.aT r) (i.aT r)
 | .mA x i=>sS.run (x.aT r) (i.aT r)
 | .kb t x i=>(sR P t).run (x.aT r) (i.aT r)
 | .look k z ok x i=>ru k.eq z ok h (x.aT r) (i.aT r)
 | .ext x i=>(x.aT r).CJ none fun ai=>ai[i]?
 | .len (.arr n) _=>some (.int .i64 n)
 | .len .str x=>(po .string).run (x.aT r)
 | .len .slice x=>(po (.slice 0)).run (x.aT r)
 | .uC args=>kU (fun b a=>!Int.leB a b) (aX.ga r args)
 | .ed args=>kU (fun b a=>!Int.leB b a) (aX.ga r args)
 | .tL x=>se (x.aT r)
 | .rr z ok x i=>jq ⟨hs h⟩ z ok h (x.aT r) (i.aT r)
 | .looks k z ok x i=>bif nw P k (i.aT r) then jq (structEq P k) z ok h (x.aT r) (i.aT r) else none
 | .peq neg x y=>uN neg h (x.aT r) (y.aT r)
 | _=>none
section
variable {P:Program} {r:bc} {h:ah}
theorem pure_run {g:G} (af:g.ph=true) (call:dQ):g.run P call r h=a7.of h (g.l' P r h):=by
 cases g<;>simp only [G.ph] at af<;>try (cases af;done)
 all_goals simp only [G.run,G.l']
 case b0 x=>rfl
 case pick c a b=>
  generalize c.aT r=q;cases q<;>rfl
 case build z bm=>
  generalize jk z (kI r bm)=q;cases q<;>rfl
 case km k x=>
  cases k<;>simp only at af<;>try (cases af;done)
  simp only [tn.run];generalize x.aT r=q;cases q<;>rfl
 case fn f eX=>rfl
 case Cx f first=>rfl
 case sO t x=>rfl
 case fY n x bC ao m3=>
  unfold hg;generalize x.aT r=q;cases q<;>rfl
 case vT off x=>
  generalize x.aT r=q;cases q<;>rfl
 case vU off n x=>
  generalize x.aT r=q;cases q<;>rfl
 case ext x i=>
  generalize x.aT r=q;cases q<;>rfl
 case len k x=>
  cases k<;>simp only at af<;>first | rfl | (cases af;done)
theorem RX {g:G} (af:g.ph=true) {K:V->ah->Prop}:g.wp P r h K=xI (g.l' P r h) fun v=>K v h:=by
 have e:g.wp P r h K=∃v ab,g.run P lo r h=.val v ab/\K v ab:=by cases g<;>first | rfl | (simp [G.ph] at af;done)
 rw [e,pure_run af];apply propext;cases bj:g.l' P r h with
 | none=>exact ⟨fun ⟨v,ab,q,_⟩=>(by cases q),fun q=>q.elim⟩
 | some v=>
   constructor
   . rintro ⟨v1,aa,q,k⟩;simp only [a7.of,a7.val.injEq] at q;obtain ⟨rfl,rfl⟩:=q;exact k
   . intro k;exact ⟨v,h,rfl,k⟩
theorem UW {d:Option Nat} {g:G} {rs:List Nat} {K:bc->V->ah->Prop} (af:g.ph=true):bH.wp P ⟨d,g,none,rs⟩ r h K=xI (g.l' P (r.trim rs) h) fun v=>K (r.set d v) v h:=by rw [UU,RX af]
theorem UT {d:Option Nat} {g:G} {j:Nat} {want:Bool} {rs:List Nat} {K:bc->V->ah->Prop} (af:g.ph=true):bH.wp P ⟨d,g,some (j,want),rs⟩ r h K=
 (fr (r.trim rs j)/\e3 (took (r.trim rs j) want) ((g.l' P (r.trim rs) h).isSome=true)/\
   K (r.set d (V.opt (took (r.trim rs j) want) ((g.l' P (r.trim rs) h).getD .bad))) (V.opt (took (r.trim rs j) want) ((g.l' P (r.trim rs) h).getD .bad)) h):=by
 rw [US,RX af];generalize r.trim rs j=q;generalize g.l' P (r.trim rs) h=o;apply propext;cases q<;>simp only [gate,fr,took,false_and,true_and]
 case bool b=>
  cases b<;>cases want<;>cases o<;>simp [xI,e3,V.opt]
 case tuple ai=>simp [e3,V.opt]
@[congr] theorem aqV {os:List bH} {r bD:bc} {h ab:ah} {K:bc->ah->Prop} (aP:r=bD) (bf:h=ab):tj P os r h K=tj P os bD ab K:=by rw [aP,bf]
@[congr] theorem aqT {os:List bH} {r bD:bc} {h ab:ah} {K:List gK->bc->ah->Prop} (aP:r=bD) (bf:h=ab):lv P os r h K=lv P os bD ab K:=by rw [aP,bf]
@[congr] theorem aoY {o:bH} {r bD:bc} {h ab:ah} {K:bc->V->ah->Prop} (aP:r=bD) (bf:h=ab):o.wp P r h K=o.wp P bD ab K:=by rw [aP,bf]
@[congr] theorem ao0 {g:G} {r bD:bc} {h ab:ah} {K:V->ah->Prop} (aP:r=bD) (bf:h=ab):g.wp P r h K=g.wp P bD ab K:=by rw [aP,bf]
@[congr] theorem aqS {c:aY} {r bD:bc} {h ab:ah} {Q:dm->bc->ah->Prop} (aP:r=bD) (bf:h=ab):gy P c r h Q=gy P c bD ab Q:=by rw [aP,bf]
@[congr] theorem aoW {f:FuncId} {a bw:List V} {h ab:ah} {K:V->ah->Prop} (aP:a=bw) (bf:h=ab):de P f a h K=de P f bw ab K:=by rw [aP,bf]
def ia (k:cd) (off:Nat):Option V:=k.pE none fun n cs=>bif Nat.blt off n then some (T.get .bad (aj off) cs) else none
def pk (n:Nat) (k:cd) (off:Nat):Option V:=k.pE none fun m cs=>bif Nat.ble (off+n) m then some (.agg (lb cs off n)) else none
theorem ajY (b:aQ) (off:Nat):nA h (.ptr b off)=ia (h.get b) off:=(rfl)
theorem aj0 (n:Nat) (b:aQ) (off:Nat):nz n h (.ptr b off)=pk n (h.get b) off:=(rfl)
theorem T1 {ai:List V} {off:Nat}:(bif Nat.blt off ai.length then some (T.get .bad (aj off) (fC .e 0 ai)) else none)=ai[off]? :=by
 have:=EW ai 0 off .e;rw [Nat.zero_add] at this;rw [this];by_cases a6:off<ai.length
 . rw [show Nat.blt off ai.length=true from by rw [Nat.blt_eq];exact a6,if_pos a6];simp [List.getElem?_eq_getElem a6]
 . rw [show Nat.blt off ai.length=false from by rw [<-Bool.not_eq_true,Nat.blt_eq];exact a6];rw [List.getElem?_eq_none (by omega)];rfl
theorem TZ (ai:List V) (cQ:Nat) (st:Bool) (off:Nat):ia (.bE ai cQ st) off=ai[off]? :=T1
theorem T0 (ai:List V) (off:Nat):ia (.ro ai) off=ai[off]? :=T1
theorem T5 {ai:List V} {off n:Nat}:(bif Nat.ble (off+n) ai.length then some (V.agg (lb (fC .e 0 ai) off n)) else none)=if off+n<=ai.length then some (.agg ((ai.drop off).take n)) else none:=by
 by_cases a6:off+n<=ai.length
 . rw [show Nat.ble (off+n) ai.length=true from by rw [Nat.ble_eq];exact a6,if_pos a6,EX ai n off a6];rfl
 . rw [show Nat.ble (off+n) ai.length=false from by rw [<-Bool.not_eq_true,Nat.ble_eq];exact a6,if_neg a6];rfl
theorem Lq (n:Nat) (ai:List V) (cQ:Nat) (st:Bool) (off:Nat):pk n (.bE ai cQ st) off=if off+n<=ai.length then some (.agg ((ai.drop off).take n)) else none:=T5
theorem T4 (n:Nat) (ai:List V) (off:Nat):pk n (.ro ai) off=if off+n<=ai.length then some (.agg ((ai.drop off).take n)) else none:=T5
theorem Rd.d' {b:aQ} {ai:List V} (H:Rd h b ai) (off:Nat):ia (h.get b) off=ai[off]? :=by
 rcases H with H | ⟨_,_,H⟩<;>rw [H]
 . exact T0 ai off
 . exact TZ ai _ _ off
theorem Rd.iM {b:aQ} {ai:List V} (H:Rd h b ai) (n off:Nat):pk n (h.get b) off=if off+n<=ai.length then some (.agg ((ai.drop off).take n)) else none:=by
 rcases H with H | ⟨_,_,H⟩<;>rw [H]
 . exact T4 n ai off
 . exact Lq n ai _ _ off
def over:List V->List V->List V
 | ai,[]=>ai
 | [],_::_=>[]
 | _::ai,w::ws=>w::over ai ws
def nK:List V->Nat->List V->List V
 | ai,0,ws=>over ai ws
 | [],_+1,_=>[]
 | v::ai,n+1,ws=>v::nK ai n ws
theorem Ve:∀(ai ws:List V),ws.length<=ai.length->over ai ws=ws++ai.drop ws.length
 | ai,[],_=>by cases ai<;>rfl
 | [],_::_,h=>by simp at h
 | v::ai,w::ws,h=>by simp only [over,List.cons_append,List.length_cons,List.drop_succ_cons];rw [Ve ai ws (by simpa using h)]
theorem z1:∀(ai:List V) (off:Nat) (ws:List V),off+ws.length<=ai.length->nK ai off ws=j3 ai off ws
 | ai,0,ws,h=>by cases ai<;>simp only [nK,j3,List.take_zero,List.nil_append,Nat.zero_add]<;>exact Ve _ ws (by omega)
 | [],n+1,ws,h=>by simp at h
 | v::ai,n+1,ws,h=>by simp only [List.length_cons] at h;simp only [nK,j3];rw [z1 ai n ws (by omega)];simp only [j3,List.take_succ_cons,List.cons_append];rw [show n+1+ws.length=n+ws.length+1 from by omega,List.drop_succ_cons]
theorem MV (ai:List V) (off:Nat) (ws:List V) (h:off+ws.length<=ai.length):(nK ai off ws).length=ai.length:=by rw [z1 ai off ws h,MW ai off ws h]
def qh (n:Nat) (h:ah) (b:aQ) (off:Nat) (y:V) (k:cd):Option ah:=
 bif Nat.beq y.cells.length n then k.on none fun m cs cQ st=>
  bif Nat.ble (off+y.cells.length) m&&eI y.cells then some (h.set b (.cells m (fC cs off y.cells) cQ st)) else none else none
theorem anr (n:Nat) (b:aQ) (off:Nat) (y:V):xv n h (.ptr b off) y=qh n h b off y (h.get b):=(rfl)
theorem Lo {n:Nat} {b:aQ} {off:Nat} {y:V} {ai:List V} {cQ:Nat} {st:Bool} (aa:y.cells.length=n) (ad:eI y.cells=true) (aJ:off+n<=ai.length):
 qh n h b off y (.bE ai cQ st)=some (h.set b (.bE (nK ai off y.cells) cQ st)):=by
 unfold qh;rw [show Nat.beq y.cells.length n=true from by rw [Nat.beq_eq];exact aa];simp only [cond_true,cd.bE,cd.on];rw [show Nat.ble (off+y.cells.length) ai.length=true from by rw [Nat.ble_eq,aa];exact aJ,ad];simp only [Bool.and_true,cond_true,Option.some.injEq];rw [MV ai off _ (by rw [aa];exact aJ),z1 ai off _ (by rw [aa];exact aJ),Mn _ ai off (by rw [aa];exact aJ)]
theorem nd (k:cd):(h.new k).get (aj h.next)=k:=by rw [ah.iE,if_pos rfl]
theorem iE (b:aQ) (k:cd):(h.new k).get b=if aj h.next=b then k else h.get b:=ah.iE h b k
theorem dC (b bL:aQ) (k:cd):(h.set b k).get bL=if b=bL then k else h.get bL:=ah.dC h b bL k
def Old (h:ah) (b:aQ):Prop:=cB b<h.next
theorem CI {b:aQ} {i:Nat} (ae:Old h b) (ao:h.next<=i):(aj i=b)=False:=by
 apply propext;constructor
 . intro e;unfold Old at ae;rw [<-e,b9] at ae;omega
 . exact False.elim
theorem U5 {k:cd}:Old (h.new k) (aj h.next):=by unfold Old;rw [b9];exact Nat.lt_succ_self _
def EJ (off:Nat) (x:V):Option V:=x.j0 none fun b o=>some (.ptr b (o+off))
theorem acY (off:Nat) (b:aQ) (o:Nat):EJ off (.ptr b o)=some (.ptr b (o+off)):=(rfl)
theorem ak1 {α:Type} (ai:List V) (d:α) (f:List V->α):V.CJ (.tuple ai) d f=f ai:=(rfl)
theorem ak0 {α:Type} (ai:List V) (d:α) (f:List V->α):V.s0 (.agg ai) d f=f ai:=(rfl)
def ny (x:V):Option V:=(po (.slice 0)).run x
theorem ajG (b:aQ) (off n c:Nat):ny (.slice b off n c)=some (.int .i64 n):=(rfl)
theorem ajE (b:aQ) (off n c:Nat):ny (.dY b off n c)=some (.int .i64 n):=(rfl)
theorem ajH (b:aQ) (off n c:Nat):ny (.hP b off n c)=some (.int .i64 0):=(rfl)
theorem ajF:ny .bB=some (.int .i64 0):=(rfl)
def F7 (x:V):Option V:=(po .string).run x
theorem ajI (s:List UInt8):F7 (.str s)=some (.int .i64 s.length):=(rfl)
def ka (n:Nat) (x i:V):Option V:=(wP n).run x i
theorem zh (n:Nat) (b:aQ) (off len cap:Nat) (k:IntKind) (i:Int):ka n (.slice b off len cap) (.int k i)=if 0<=i/\i<len then some (.ptr b (off+i.toNat * n)) else none:=by simp only [ka,wP,V.ep,uq,oz];by_cases aa:0<=i<;>by_cases ad:(len:Int)<=i<;>simp [aa,ad]<;>omega
theorem FR (n:Nat) (b:aQ) (off len cap:Nat) (k:IntKind) (i:Int):ka n (.dY b off len cap) (.int k i)=if 0<=i/\i<len then some (.ptr b (off+i.toNat * n)) else none:=by simp only [ka,wP,V.ep,uq,oz];by_cases aa:0<=i<;>by_cases ad:(len:Int)<=i<;>simp [aa,ad]<;>omega
def Ew (k:IntKind) (x:V):Option V:=x.ep none fun _ n=>some (.int k (k.wrap n))
theorem ab7 (k bg:IntKind) (n:Int):Ew k (.int bg n)=some (.int k (k.wrap n)):=(rfl)
end
structure iT where
 all:List bH
 asks:List (Nat × List Nat)
 es:List gK
def js (D:Option iT) (r:bc) (h:ah) (v:V):Option iT:=
 match D with
 | none=>none
 | some d=>some ⟨d.all,d.asks,d.es++[⟨r,h,v⟩]⟩
inductive h5 where
 | os (D:Option iT) (os:List bH)
 | c (b:aY)
 | aN (id:Nat)
section
variable (P:Program)
def vx (D:Option iT) (es:List gK) (az:ah):Prop:=
 match D with
 | none=>True
 | some d=>pO P d.all (d.es++es) az d.asks
def bo:List h5->dm->bc->ah->(dm->bc->ah->Prop)->Prop
 | [],e,r,h,Q=>Q e r h
 | .os D os::aI,e,r,h,Q=>match e with
   | .normal=>lv P os r h fun es bD ab=>vx P D es ab/\bo aI .normal bD ab Q
   | e=>bo aI e r h Q
 | .c b::aI,e,r,h,Q=>match e with
   | .normal=>gy P b r h fun e bD ab=>bo aI e bD ab Q
   | e=>bo aI e r h Q
 | .aN id::aI,e,r,h,Q=>bo aI (e.leave id) r h Q
def dk (o:Option V) (d:Option Nat) (D:Option iT) (os:List bH) (aI:List h5) (r:bc) (h:ah) (Q:dm->bc->ah->Prop):Prop:=
 xI o fun v=>bo P (.os (js D r h v) os::aI) .normal (r.set d v) h Q
def hI (o:a7) (d:Option Nat) (D:Option iT) (os:List bH) (aI:List h5) (r:bc) (aW:ah) (Q:dm->bc->ah->Prop):Prop:=
 match o with
 | .val v h=>bo P (.os (js D r aW v) os::aI) .normal (r.set d v) h Q
 | _=>False
def fo (v:V) (want:Bool) (d:Option Nat) (g:G) (rs:List Nat) (D:Option iT) (os:List bH) (aI:List h5) (r:bc) (h:ah) (Q:dm->bc->ah->Prop):Prop:=
 gate v want (bo P (.os D (⟨d,g,none,rs⟩::os)::aI) .normal r h Q) (bo P (.os (js D r h (.tuple [])) os::aI) .normal (r.set d (.tuple [])) h Q)
def ye (v:V) (a b:aY) (aI:List h5) (r:bc) (h:ah) (Q:dm->bc->ah->Prop):Prop:=
 match v with
 | .bool t=>(t=true->bo P (.c a::aI) .normal r h Q)/\(t=false->bo P (.c b::aI) .normal r h Q)
 | _=>False
def pQ (f:FuncId) (args:List V) (d:Option Nat) (D:Option iT) (os:List bH) (aI:List h5) (r:bc) (h:ah) (Q:dm->bc->ah->Prop):Prop:=
 de P f args h fun v ab=>bo P (.os (js D r h v) os::aI) .normal (r.set d v) ab Q
def Dl (xs:List V) (d:Option Nat) (D:Option iT) (os:List bH) (aI:List h5) (r:bc) (h:ah) (Q:dm->bc->ah->Prop):Prop:=
 OM P xs h fun v ab=>bo P (.os (js D r h v) os::aI) .normal (r.set d v) ab Q
def IX (g:FuncId) (xs:List V) (d:Option Nat) (D:Option iT) (os:List bH) (aI:List h5) (r:bc) (h:ah) (Q:dm->bc->ah->Prop):Prop:=
 if g=4294967296 then Dl P xs d D os aI r h Q else pQ P g xs d D os aI r h Q
def vF (f:V) (args:List V) (d:Option Nat) (D:Option iT) (os:List bH) (aI:List h5) (r:bc) (h:ah) (Q:dm->bc->ah->Prop):Prop:=
 ∃g xs,f.target args=some (g,xs)/\IX P g xs d D os aI r h Q
def zt (b:aY) (aI:List h5) (r:bc) (h:ah) (Q:dm->bc->ah->Prop):Prop:=gy P (.loop b) r h fun e bD ab=>bo P aI e bD ab Q
end
section
variable {P:Program} {r:bc} {h:ah} {Q:dm->bc->ah->Prop} {aI:List h5} {os:List bH} {D:Option iT}
theorem alV (r:bc) (h:ah) (v:V):js none r h v=none:=(rfl)
theorem alW (all:List bH) (asks:List (Nat × List Nat)) (es:List gK) (r:bc) (h:ah) (v:V):js (some ⟨all,asks,es⟩) r h v=some ⟨all,asks,es++[⟨r,h,v⟩]⟩:=(rfl)
theorem dM {c:aY} (H:bo P [.c c] .normal r h Q):gy P c r h Q:=H
theorem ahS {e:dm}:bo P [] e r h Q=Q e r h:=(rfl)
theorem ag0 {e:dm} {id:Nat}:bo P (.aN id::aI) e r h Q=bo P aI (e.leave id) r h Q:=(rfl)
theorem ah4 {a b:aY}:bo P (.c (.seq a b)::aI) .normal r h Q=bo P (.c a::.c b::aI) .normal r h Q:=by simp only [bo];rw [abj];congr 1;funext e bD ab;cases e<;>rfl
theorem ag1 {id:Nat} {b:aY}:bo P (.c (.block id b)::aI) .normal r h Q=bo P (.c b::.aN id::aI) .normal r h Q:=(rfl)
theorem XF:∀(os:List bH) (r:bc) (h:ah) (K:bc->ah->Prop),lv P os r h (fun _ r h=>K r h)=tj P os r h K
 | [],_,_,_=>rfl
 | o::os,r,h,K=>by simp only [lv,tj];congr 1;funext bD v ab;exact XF os bD ab K
theorem ahZ {ops:List bH}:bo P (.c (.aq ops)::aI) .normal r h Q=bo P (.os none ops::aI) .normal r h Q:=by simp only [bo,vx,true_and];rw [XF,abi]
theorem ah5:bo P (.c .skip::aI) .normal r h Q=bo P aI .normal r h Q:=(rfl)
theorem ah1:bo P (.c .ret::aI) .normal r h Q=bo P aI .ret r h Q:=(rfl)
theorem ahj {i:Nat}:bo P (.c (.exit i)::aI) .normal r h Q=bo P aI (.exit i) r h Q:=(rfl)
theorem ag_ {b:aY}:bo P (.c b::aI) .ret r h Q=bo P aI .ret r h Q:=(rfl)
theorem ag8 {b:aY} {i:Nat}:bo P (.c b::aI) (.exit i) r h Q=bo P aI (.exit i) r h Q:=(rfl)
theorem ag9 {c:aX} {a b:aY}:bo P (.c (.cond c a b)::aI) .normal r h Q=ye P (c.aT r) a b aI r h Q:=by simp only [bo,gy];cases c.aT r<;>rfl
theorem amb {f:aX} {bm:List Nat} {au:Nat} {a b:aY} {g:FuncId} {cs:List V} (bj:f.aT r=.func g cs) (aB:g≠dy) (ae:∃fn,P.funcs[g]? =some fn/\fn.body.isSome=true)
 (H:∀l,DQ P l au r bm a b->l.st=0->l.er=none->de P g (.func dy [.ptr (aj (h.next+1)) 0]::cs) ((h.new .f_).new (.dA l)) fun _ ab=>
   ∃fh,ab.get (aj (h.next+1))=.dA fh/\fh.st≠1/\bo P aI (fh.er.getD .normal) (r.set (some eN) (.tuple (.ptr (aj h.next) 0::(r eN).list))) (ab.set (aj (h.next+1)) .dead) Q):
 bo P (.c (.range f bm au a b)::aI) .normal r h Q:=by
 simp only [bo,gy];exact ⟨g,cs,bj,aB,ae,H⟩
theorem ahG {b:aY}:bo P (.c (.loop b)::aI) .normal r h Q=zt P b aI r h Q:=(rfl)
theorem ahf {ops:List bH} {asks:List (Nat × List Nat)}:bo P (.c (.draw ops asks)::aI) .normal r h Q=bo P (.os (some ⟨ops,asks,[]⟩) ops::aI) .normal r h Q:=(rfl)
theorem ahW:bo P (.os none []::aI) .normal r h Q=bo P aI .normal r h Q:=by simp only [bo,lv,vx,true_and]
theorem ahe {all:List bH} {asks:List (Nat × List Nat)} {es:List gK}:bo P (.os (some ⟨all,asks,es⟩) []::aI) .normal r h Q=(pO P all es h asks/\bo P aI .normal r h Q):=by simp only [bo,lv,vx,List.append_nil]
theorem x_ (D:Option iT) (r:bc) (h:ah) (v:V) (es:List gK) (az:ah):vx P (js D r h v) es az=vx P D (⟨r,h,v⟩::es) az:=by
 cases D with
 | none=>rfl
 | some d=>simp only [js,vx,List.append_assoc,List.cons_append,List.nil_append]
theorem hd {d:Option Nat} {g:G} {rs:List Nat} (af:g.ph=true):bo P (.os D (⟨d,g,none,rs⟩::os)::aI) .normal r h Q=dk P (g.l' P (r.trim rs) h) d D os aI r h Q:=by simp only [bo,lv,dk];rw [UW af];simp only [x_]
theorem hc {d:Option Nat} {g:G} {j:Nat} {want:Bool} {rs:List Nat} (af:g.ph=true):bo P (.os D (⟨d,g,some (j,want),rs⟩::os)::aI) .normal r h Q=
 (fr (r.trim rs j)/\e3 (took (r.trim rs j) want) ((g.l' P (r.trim rs) h).isSome=true)/\
   dk P (some (V.opt (took (r.trim rs j) want) ((g.l' P (r.trim rs) h).getD .bad))) d D os aI r h Q):=by
 simp only [bo,lv,dk,xI];rw [UT af];simp only [x_]
def G.TF:G->Bool
 | .call .. | .o1 .. =>true
 | _=>false
theorem iL {d:Option Nat} {g:G} {rs:List Nat} (af:g.ph=false) (aD:g.TF=false):bo P (.os D (⟨d,g,none,rs⟩::os)::aI) .normal r h Q=hI P (g.run P lo (r.trim rs) h) d D os aI r h Q:=by
 simp only [bo,lv];rw [UU];have e:∀K:V->ah->Prop,g.wp P (r.trim rs) h K=∃v ab,g.run P lo (r.trim rs) h=.val v ab/\K v ab:=by intro K;cases g<;>first | rfl | (simp [G.TF] at aD;done)
 rw [e];unfold hI;simp only [bo,x_];cases g.run P lo (r.trim rs) h with
 | fail=>exact propext ⟨fun ⟨v,ab,q,_⟩=>(by cases q),fun q=>q.elim⟩
 | cP v1 aa=>exact propext ⟨fun ⟨v,ab,q,_⟩=>(by cases q),fun q=>q.elim⟩
 | val v1 aa=>
   apply propext;constructor
   . rintro ⟨v,ab,q,k⟩;simp only [a7.val.injEq] at q;obtain ⟨rfl,rfl⟩:=q;exact k
   . intro k;exact ⟨_,_,rfl,k⟩
theorem h_ {d:Option Nat} {g:G} {j:Nat} {want:Bool} {rs:List Nat} (af:g.ph=false):bo P (.os D (⟨d,g,some (j,want),rs⟩::os)::aI) .normal r h Q=fo P (r.trim rs j) want d g rs D os aI r h Q:=by simp only [fo,bo,lv,x_];rw [US];rfl
theorem TL {d:Option Nat} {f:FuncId} {args:List aX} {rs:List Nat}:bo P (.os D (⟨d,.call f args,none,rs⟩::os)::aI) .normal r h Q=pQ P f (aX.ga (r.trim rs) args) d D os aI r h Q:=by simp only [pQ,bo,lv,x_];rfl
theorem ag6 {d:Option Nat} {f:aX} {args:List aX} {rs:List Nat}:bo P (.os D (⟨d,.o1 f args,none,rs⟩::os)::aI) .normal r h Q=vF P (f.aT (r.trim rs)) (aX.ga (r.trim rs) args) d D os aI r h Q:=by simp only [vF,IX,Dl,pQ,bo,lv,x_];rfl
theorem QO {f:V} {g:FuncId} {xs args:List V} {d:Option Nat} (az:f.target args=some (g,xs)):vF P f args d D os aI r h Q=IX P g xs d D os aI r h Q:=by
 apply propext;constructor
 . rintro ⟨cC,aqY,q,k⟩;rw [az] at q;simp only [Option.some.injEq,Prod.mk.injEq] at q;obtain ⟨rfl,rfl⟩:=q;exact k
 . intro k;exact ⟨_,_,az,k⟩
theorem abo {g:FuncId} {cs args:List V} {d:Option Nat}:vF P (.func g cs) args d D os aI r h Q=if g=4294967296 then Dl P (args++cs) d D os aI r h Q else pQ P g (args++cs) d D os aI r h Q:=QO rfl
theorem IY {g:FuncId} {cs args:List V} {d:Option Nat}:vF P (.oD g cs) args d D os aI r h Q=if g=4294967296 then Dl P (cs++args) d D os aI r h Q else pQ P g (cs++args) d D os aI r h Q:=QO rfl
@[congr] theorem aqH {o cj:Option V} {d:Option Nat} (e:o=cj):dk P o d D os aI r h Q=dk P cj d D os aI r h Q:=by rw [e]
@[congr] theorem aqG {o cj:a7} {d:Option Nat} (e:o=cj):hI P o d D os aI r h Q=hI P cj d D os aI r h Q:=by rw [e]
@[congr] theorem apn {v dd:V} {a b:aY} (e:v=dd):ye P v a b aI r h Q=ye P dd a b aI r h Q:=by rw [e]
@[congr] theorem apx {v dd:V} {want:Bool} {d:Option Nat} {g:G} {rs:List Nat} (e:v=dd):fo P v want d g rs D os aI r h Q=fo P dd want d g rs D os aI r h Q:=by rw [e]
@[congr] theorem apl {f kJ:V} {args AU:List V} {d:Option Nat} (aP:f=kJ) (bf:args=AU):vF P f args d D os aI r h Q=vF P kJ AU d D os aI r h Q:=by rw [aP,bf]
@[congr] theorem apk {f:FuncId} {args AU:List V} {d:Option Nat} (bf:args=AU):pQ P f args d D os aI r h Q=pQ P f AU d D os aI r h Q:=by rw [bf]
@[congr] theorem aqU {e cX:dm} {bD:bc} {ab:ah} (c_:e=cX) (aP:r=bD) (bf:h=ab):bo P aI e r h Q=bo P aI cX bD ab Q:=by rw [c_,aP,bf]
@[congr] theorem ap_ {b:aY} {bD:bc} {ab:ah} (aP:r=bD) (bf:h=ab):zt P b aI r h Q=zt P b aI bD ab Q:=by rw [aP,bf]
theorem anw {v:V} {d:Option Nat}:dk P (some v) d D os aI r h Q=bo P (.os (js D r h v) os::aI) .normal (r.set d v) h Q:=(rfl)
theorem am' {v:V} {ab:ah} {d:Option Nat}:hI P (.val v ab) d D os aI r h Q=bo P (.os (js D r h v) os::aI) .normal (r.set d v) ab Q:=(rfl)
theorem QW {t:Bool} {a b:aY}:ye P (.bool t) a b aI r h Q=((t=true->bo P (.c a::aI) .normal r h Q)/\(t=false->bo P (.c b::aI) .normal r h Q)):=(rfl)
theorem RZ {b:Bool} {d:Option Nat} {g:G} {rs:List Nat}:fo P (.bool b) true d g rs D os aI r h Q=((b=true->bo P (.os D (⟨d,g,none,rs⟩::os)::aI) .normal r h Q)/\(b=false->bo P (.os (js D r h (.tuple [])) os::aI) .normal (r.set d (.tuple [])) h Q)):=(rfl)
theorem RY {b:Bool} {d:Option Nat} {g:G} {rs:List Nat}:fo P (.bool b) false d g rs D os aI r h Q=((b=false->bo P (.os D (⟨d,g,none,rs⟩::os)::aI) .normal r h Q)/\(b=true->bo P (.os (js D r h (.tuple [])) os::aI) .normal (r.set d (.tuple [])) h Q)):=(rfl)
theorem adw {ai:List V} {want:Bool} {d:Option Nat} {g:G} {rs:List Nat}:fo P (.tuple ai) want d g rs D os aI r h Q=bo P (.os (js D r h (.tuple [])) os::aI) .normal (r.set d (.tuple [])) h Q:=(rfl)
theorem adq {c b:Bool} {want:Bool} {d:Option Nat} {f:FuncId} {args:List aX} {rs:List Nat} (v:V)
 (bj:(c&&(b == want))=true->gu P f (aX.ga (r.trim rs) args) h v h)
 (H:bo P (.os (js D r h (V.opt (c&&(b == want)) v)) os::aI) .normal (r.set d (V.opt (c&&(b == want)) v)) h Q):fo P (V.opt c (.bool b)) want d (.call f args) rs D os aI r h Q:=by
 unfold fo;rw [TL];cases c with
 | false=>exact H
 | true=>
   simp only [V.opt,cond_true,Bool.true_and] at bj H ⊢;cases b<;>cases want<;>simp only [gate]
   . exact ⟨fun _=>⟨v,h,bj rfl,H⟩,fun e=>by cases e⟩
   . exact ⟨fun e=>(by cases e),fun _=>H⟩
   . exact ⟨fun e=>(by cases e),fun _=>H⟩
   . exact ⟨fun _=>⟨v,h,bj rfl,H⟩,fun e=>by cases e⟩
def qp (v:V) (o:Option ah):a7:=hr v o
theorem aln (v:V) (ab:ah):qp v (some ab)=.val v ab:=(rfl)
def Pq (b:Bool) (o:a7):a7:=bif b then o else .fail
theorem Z9 (o:a7):Pq true o=o:=(rfl)
def Eh (n:Nat) (h:ah) (o:Option (List V)):a7:=
 match o with
 | some cs=>qp (.slice (aj h.next) 0 n n) (gG h cs)
 | none=>.fail
theorem Z' (n:Nat) (cs:List V):Eh n h (some cs)=qp (.slice (aj h.next) 0 n n) (gG h cs):=(rfl)
theorem amB {n size:Nat} {z:List V} {bm:List (Nat × Nat × aX)}:(G.il n size z bm).run P lo r h=Eh n h (jk (hG z n) (kI r bm)):=by
 simp only [G.run];cases jk (hG z n) (kI r bm) with
 | none=>rfl
 | some cs=>
   simp only [Eh,qp,hr];cases gG h cs<;>rfl
theorem ac4 (cells:List V):jk cells []=some cells:=(rfl)
theorem ac2 {cells:List V} {off size:Nat} {v:V} {rest:List (Nat × Nat × V)} (aa:v.gd=true) (ad:v.cells.length=size) (aJ:off+size<=cells.length):
 jk cells ((off,size,v)::rest)=jk (nK cells off v.cells) rest:=by
 simp only [jk];rw [aa,show Nat.beq v.cells.length size=true from by rw [Nat.beq_eq];exact ad,show Nat.ble (off+v.cells.length) cells.length=true from by rw [Nat.ble_eq,ad];exact aJ];simp only [Bool.and_true,cond_true];congr 1;have eH:∀(ws cs:List V) (o:Nat),o+ws.length<=cs.length->sk cs o ws=j3 cs o ws:=by
  intro ws
  induction ws with
  | nil=>intro cs o _;simp [sk,j3]
  | cons w ws bq=>
    intro cs o a6;simp only [List.length_cons] at a6;simp only [sk];rw [bq (cs.set o w) (o+1) (by simp;omega),Wp cs o w ws (by omega)]
 rw [eH _ _ _ (by rw [ad];exact aJ),z1 _ _ _ (by rw [ad];exact aJ)]
def Ej (o:Option (List V)):Option V:=
 match o with
 | some cs=>some (.agg cs)
 | none=>none
theorem aaa (cs:List V):Ej (some cs)=some (.agg cs):=(rfl)
theorem acR:kI r []=[]:=(rfl)
theorem acQ {o s:Nat} {x:aX} {bm:List (Nat × Nat × aX)}:kI r ((o,s,x)::bm)=(o,s,x.aT r)::kI r bm:=(rfl)
def r7 (P:Program) (o:bH) (e:gK) (H:ah):Prop:=o.wp P e.r H fun _ dd _=>dd=e.v
theorem ZG {ops:List bH} {es:List gK} {az:ah}:pO P ops es az []=True:=(rfl)
theorem ZF {ops:List bH} {es:List gK} {az:ah} {p:Nat} {fN:List Nat} {rest:List (Nat × List Nat)}:pO P ops es az ((p,fN)::rest)=(r8 P ops[p]? es[p]? es az fN/\pO P ops es az rest):=(rfl)
theorem ZC {o:Option bH} {e:Option gK} {es:List gK} {az:ah}:r8 P o e es az []=True:=(rfl)
theorem Zz {o:bH} {e:gK} {es:List gK} {az:ah} {s:Nat} {fN:List Nat}:r8 P (some o) (some e) es az (s::fN)=(r7 P o e (yM es az s)/\r8 P (some o) (some e) es az fN):=(rfl)
def J7 (o:Option gK) (az:ah):ah:=
 match o with
 | some e=>e.h
 | none=>az
theorem aeD (es:List gK) (az:ah) (s:Nat):yM es az s=J7 es[s]? az:=(rfl)
theorem aeF (e:gK) (az:ah):J7 (some e) az=e.h:=(rfl)
theorem aeE (az:ah):J7 none az=az:=(rfl)
theorem O5 {d:Option Nat} {g:G} {rs:List Nat} {e:gK} {H:ah} (af:g.ph=true):r7 P ⟨d,g,none,rs⟩ e H=(g.l' P (e.r.trim rs) H=some e.v):=by
 unfold r7;rw [UW af];apply propext;cases g.l' P (e.r.trim rs) H with
 | none=>exact ⟨fun q=>q.elim,fun q=>(by cases q)⟩
 | some v=>exact ⟨fun q=>by rw [show v=e.v from q],fun q=>by cases q;rfl⟩
theorem O4 {d:Option Nat} {g:G} {j:Nat} {want:Bool} {rs:List Nat} {e:gK} {H:ah} (af:g.ph=true):r7 P ⟨d,g,some (j,want),rs⟩ e H=
 (fr (e.r.trim rs j)/\e3 (took (e.r.trim rs j) want) ((g.l' P (e.r.trim rs) H).isSome=true)/\V.opt (took (e.r.trim rs j) want) ((g.l' P (e.r.trim rs) H).getD .bad)=e.v):=by
 unfold r7;rw [UT af]
theorem ZA {d:Option Nat} {x:aX} {rs:List Nat} {e:gK} {H:ah}:r7 P ⟨d,.d' x,none,rs⟩ e H=(nA H (x.aT (e.r.trim rs))=some e.v):=O5 rfl
theorem ZB {d:Option Nat} {n:Nat} {x:aX} {rs:List Nat} {e:gK} {H:ah}:r7 P ⟨d,.iM n x,none,rs⟩ e H=(nz n H (x.aT (e.r.trim rs))=some e.v):=O5 rfl
theorem ZD {d:Option Nat} {x:aX} {j:Nat} {want:Bool} {rs:List Nat} {e:gK} {H:ah}:r7 P ⟨d,.d' x,some (j,want),rs⟩ e H=
 (fr (e.r.trim rs j)/\e3 (took (e.r.trim rs j) want) ((nA H (x.aT (e.r.trim rs))).isSome=true)/\V.opt (took (e.r.trim rs j) want) ((nA H (x.aT (e.r.trim rs))).getD .bad)=e.v):=O4 rfl
theorem ZE {d:Option Nat} {n:Nat} {x:aX} {j:Nat} {want:Bool} {rs:List Nat} {e:gK} {H:ah}:r7 P ⟨d,.iM n x,some (j,want),rs⟩ e H=
 (fr (e.r.trim rs j)/\e3 (took (e.r.trim rs j) want) ((nz n H (x.aT (e.r.trim rs))).isSome=true)/\V.opt (took (e.r.trim rs j) want) ((nz n H (x.aT (e.r.trim rs))).getD .bad)=e.v):=O4 rfl
end
def GW (x:V) (h:ah):a7:=
 match x with
 | .str s=>.val (.ptr (aj h.next) 0) (h.new (.iter s 0))
 | _=>.fail
theorem amt (s:List UInt8) (h:ah):GW (.str s) h=.val (.ptr (aj h.next) 0) (h.new (.iter s 0)):=(rfl)
section
variable {P:Program} {r:bc} {h:ah} {Q:dm->bc->ah->Prop} {aI:List h5} {os:List bH} {D:Option iT} {d:Option Nat} {rs:List Nat}
theorem ahO {x:aX}:bo P (.os D (⟨d,(.b0 x),none,rs⟩::os)::aI) .normal r h Q=dk P (some (x.aT (r.trim rs))) d D os aI r h Q:=hd rfl
theorem aiU {x:aX} {j:Nat} {want:Bool}:bo P (.os D (⟨d,(.b0 x),some (j,want),rs⟩::os)::aI) .normal r h Q=(fr (r.trim rs j)/\e3 (took (r.trim rs j) want) ((some (x.aT (r.trim rs))).isSome=true)/\dk P (some (V.opt (took (r.trim rs j) want) ((some (x.aT (r.trim rs))).getD .bad))) d D os aI r h Q):=hc rfl
theorem ahY {c a b:aX}:bo P (.os D (⟨d,(.pick c a b),none,rs⟩::os)::aI) .normal r h Q=dk P (CT (c.aT (r.trim rs)) (a.aT (r.trim rs)) (b.aT (r.trim rs))) d D os aI r h Q:=hd rfl
theorem ai1 {c a b:aX} {j:Nat} {want:Bool}:bo P (.os D (⟨d,(.pick c a b),some (j,want),rs⟩::os)::aI) .normal r h Q=(fr (r.trim rs j)/\e3 (took (r.trim rs j) want) ((CT (c.aT (r.trim rs)) (a.aT (r.trim rs)) (b.aT (r.trim rs))).isSome=true)/\dk P (some (V.opt (took (r.trim rs j) want) ((CT (c.aT (r.trim rs)) (a.aT (r.trim rs)) (b.aT (r.trim rs))).getD .bad))) d D os aI r h Q):=hc rfl
theorem ag5 {z:List V} {bm:List (Nat × Nat × aX)}:bo P (.os D (⟨d,(.build z bm),none,rs⟩::os)::aI) .normal r h Q=dk P (Ej (jk z (kI (r.trim rs) bm))) d D os aI r h Q:=hd rfl
theorem ail {z:List V} {bm:List (Nat × Nat × aX)} {j:Nat} {want:Bool}:bo P (.os D (⟨d,(.build z bm),some (j,want),rs⟩::os)::aI) .normal r h Q=(fr (r.trim rs j)/\e3 (took (r.trim rs j) want) ((Ej (jk z (kI (r.trim rs) bm))).isSome=true)/\dk P (some (V.opt (took (r.trim rs j) want) ((Ej (jk z (kI (r.trim rs) bm))).getD .bad))) d D os aI r h Q):=hc rfl
theorem ahw {x:aX}:bo P (.os D (⟨d,(.d' x),none,rs⟩::os)::aI) .normal r h Q=dk P (nA h (x.aT (r.trim rs))) d D os aI r h Q:=hd rfl
theorem aiG {x:aX} {j:Nat} {want:Bool}:bo P (.os D (⟨d,(.d' x),some (j,want),rs⟩::os)::aI) .normal r h Q=(fr (r.trim rs j)/\e3 (took (r.trim rs j) want) ((nA h (x.aT (r.trim rs))).isSome=true)/\dk P (some (V.opt (took (r.trim rs j) want) ((nA h (x.aT (r.trim rs))).getD .bad))) d D os aI r h Q):=hc rfl
theorem ahx {n:Nat} {x:aX}:bo P (.os D (⟨d,(.iM n x),none,rs⟩::os)::aI) .normal r h Q=dk P (nz n h (x.aT (r.trim rs))) d D os aI r h Q:=hd rfl
theorem aiH {n:Nat} {x:aX} {j:Nat} {want:Bool}:bo P (.os D (⟨d,(.iM n x),some (j,want),rs⟩::os)::aI) .normal r h Q=(fr (r.trim rs j)/\e3 (took (r.trim rs j) want) ((nz n h (x.aT (r.trim rs))).isSome=true)/\dk P (some (V.opt (took (r.trim rs j) want) ((nz n h (x.aT (r.trim rs))).getD .bad))) d D os aI r h Q):=hc rfl
theorem ahT {x:aX}:bo P (.os D (⟨d,(.h2 x),none,rs⟩::os)::aI) .normal r h Q=dk P (uD (x.aT (r.trim rs))) d D os aI r h Q:=hd rfl
theorem aiX {x:aX} {j:Nat} {want:Bool}:bo P (.os D (⟨d,(.h2 x),some (j,want),rs⟩::os)::aI) .normal r h Q=(fr (r.trim rs j)/\e3 (took (r.trim rs j) want) ((uD (x.aT (r.trim rs))).isSome=true)/\dk P (some (V.opt (took (r.trim rs j) want) ((uD (x.aT (r.trim rs))).getD .bad))) d D os aI r h Q):=hc rfl
theorem agZ {k:eC} {x y:aX}:bo P (.os D (⟨d,(.bin k x y),none,rs⟩::os)::aI) .normal r h Q=dk P (k.run P (x.aT (r.trim rs)) (y.aT (r.trim rs))) d D os aI r h Q:=hd rfl
theorem aii {k:eC} {x y:aX} {j:Nat} {want:Bool}:bo P (.os D (⟨d,(.bin k x y),some (j,want),rs⟩::os)::aI) .normal r h Q=(fr (r.trim rs j)/\e3 (took (r.trim rs j) want) ((k.run P (x.aT (r.trim rs)) (y.aT (r.trim rs))).isSome=true)/\dk P (some (V.opt (took (r.trim rs j) want) ((k.run P (x.aT (r.trim rs)) (y.aT (r.trim rs))).getD .bad))) d D os aI r h Q):=hc rfl
theorem ah' {o:UnOp} {x:aX}:bo P (.os D (⟨d,(.un o x),none,rs⟩::os)::aI) .normal r h Q=dk P (rO o (x.aT (r.trim rs))) d D os aI r h Q:=hd rfl
theorem ai7 {o:UnOp} {x:aX} {j:Nat} {want:Bool}:bo P (.os D (⟨d,(.un o x),some (j,want),rs⟩::os)::aI) .normal r h Q=(fr (r.trim rs j)/\e3 (took (r.trim rs j) want) ((rO o (x.aT (r.trim rs))).isSome=true)/\dk P (some (V.opt (took (r.trim rs j) want) ((rO o (x.aT (r.trim rs))).getD .bad))) d D os aI r h Q):=hc rfl
theorem aho {f:FuncId} {cs:List aX}:bo P (.os D (⟨d,(.fn f cs),none,rs⟩::os)::aI) .normal r h Q=dk P (some (V.func f (aX.ga (r.trim rs) cs))) d D os aI r h Q:=hd rfl
theorem aiA {f:FuncId} {cs:List aX} {j:Nat} {want:Bool}:bo P (.os D (⟨d,(.fn f cs),some (j,want),rs⟩::os)::aI) .normal r h Q=(fr (r.trim rs j)/\e3 (took (r.trim rs j) want) ((some (V.func f (aX.ga (r.trim rs) cs))).isSome=true)/\dk P (some (V.opt (took (r.trim rs j) want) ((some (V.func f (aX.ga (r.trim rs) cs))).getD .bad))) d D os aI r h Q):=hc rfl
theorem aht {t:TypeId} {x:aX}:bo P (.os D (⟨d,(.sO t x),none,rs⟩::os)::aI) .normal r h Q=dk P (some (V.iface t (x.aT (r.trim rs)))) d D os aI r h Q:=hd rfl
theorem aiD {t:TypeId} {x:aX} {j:Nat} {want:Bool}:bo P (.os D (⟨d,(.sO t x),some (j,want),rs⟩::os)::aI) .normal r h Q=(fr (r.trim rs j)/\e3 (took (r.trim rs j) want) ((some (V.iface t (x.aT (r.trim rs)))).isSome=true)/\dk P (some (V.opt (took (r.trim rs j) want) ((some (V.iface t (x.aT (r.trim rs)))).getD .bad))) d D os aI r h Q):=hc rfl
theorem ah7 {x:aX} {bC ao m3:Option aX}:bo P (.os D (⟨d,(.rL x bC ao m3),none,rs⟩::os)::aI) .normal r h Q=dk P (mL (x.aT (r.trim rs)) (aX.opt (r.trim rs) bC) (aX.opt (r.trim rs) ao) (aX.opt (r.trim rs) m3)) d D os aI r h Q:=hd rfl
theorem ai5 {x:aX} {bC ao m3:Option aX} {j:Nat} {want:Bool}:bo P (.os D (⟨d,(.rL x bC ao m3),some (j,want),rs⟩::os)::aI) .normal r h Q=(fr (r.trim rs j)/\e3 (took (r.trim rs j) want) ((mL (x.aT (r.trim rs)) (aX.opt (r.trim rs) bC) (aX.opt (r.trim rs) ao) (aX.opt (r.trim rs) m3)).isSome=true)/\dk P (some (V.opt (took (r.trim rs j) want) ((mL (x.aT (r.trim rs)) (aX.opt (r.trim rs) bC) (aX.opt (r.trim rs) ao) (aX.opt (r.trim rs) m3)).getD .bad))) d D os aI r h Q):=hc rfl
theorem ah6 {n:Nat} {x:aX} {bC ao m3:Option aX}:bo P (.os D (⟨d,(.fY n x bC ao m3),none,rs⟩::os)::aI) .normal r h Q=dk P (hg n (x.aT (r.trim rs)) (aX.opt (r.trim rs) bC) (aX.opt (r.trim rs) ao) (aX.opt (r.trim rs) m3)) d D os aI r h Q:=hd rfl
theorem ai4 {n:Nat} {x:aX} {bC ao m3:Option aX} {j:Nat} {want:Bool}:bo P (.os D (⟨d,(.fY n x bC ao m3),some (j,want),rs⟩::os)::aI) .normal r h Q=(fr (r.trim rs j)/\e3 (took (r.trim rs j) want) ((hg n (x.aT (r.trim rs)) (aX.opt (r.trim rs) bC) (aX.opt (r.trim rs) ao) (aX.opt (r.trim rs) m3)).isSome=true)/\dk P (some (V.opt (took (r.trim rs j) want) ((hg n (x.aT (r.trim rs)) (aX.opt (r.trim rs) bC) (aX.opt (r.trim rs) ao) (aX.opt (r.trim rs) m3)).getD .bad))) d D os aI r h Q):=hc rfl
theorem ahl {o:Nat} {x:aX}:bo P (.os D (⟨d,(.eH o x),none,rs⟩::os)::aI) .normal r h Q=dk P (EJ o (x.aT (r.trim rs))) d D os aI r h Q:=hd rfl
theorem aix {o:Nat} {x:aX} {j:Nat} {want:Bool}:bo P (.os D (⟨d,(.eH o x),some (j,want),rs⟩::os)::aI) .normal r h Q=(fr (r.trim rs j)/\e3 (took (r.trim rs j) want) ((EJ o (x.aT (r.trim rs))).isSome=true)/\dk P (some (V.opt (took (r.trim rs j) want) ((EJ o (x.aT (r.trim rs))).getD .bad))) d D os aI r h Q):=hc rfl
theorem ahm {o:Nat} {x:aX}:bo P (.os D (⟨d,(.vT o x),none,rs⟩::os)::aI) .normal r h Q=dk P ((x.aT (r.trim rs)).s0 none fun cs=>cs[o]?) d D os aI r h Q:=hd rfl
theorem aiy {o:Nat} {x:aX} {j:Nat} {want:Bool}:bo P (.os D (⟨d,(.vT o x),some (j,want),rs⟩::os)::aI) .normal r h Q=(fr (r.trim rs j)/\e3 (took (r.trim rs j) want) (((x.aT (r.trim rs)).s0 none fun cs=>cs[o]?).isSome=true)/\dk P (some (V.opt (took (r.trim rs j) want) (((x.aT (r.trim rs)).s0 none fun cs=>cs[o]?).getD .bad))) d D os aI r h Q):=hc rfl
theorem ahn {o n:Nat} {x:aX}:bo P (.os D (⟨d,(.vU o n x),none,rs⟩::os)::aI) .normal r h Q=dk P ((x.aT (r.trim rs)).s0 none fun cs=>some (V.agg ((cs.drop o).take n))) d D os aI r h Q:=hd rfl
theorem aiz {o n:Nat} {x:aX} {j:Nat} {want:Bool}:bo P (.os D (⟨d,(.vU o n x),some (j,want),rs⟩::os)::aI) .normal r h Q=(fr (r.trim rs j)/\e3 (took (r.trim rs j) want) (((x.aT (r.trim rs)).s0 none fun cs=>some (V.agg ((cs.drop o).take n))).isSome=true)/\dk P (some (V.opt (took (r.trim rs j) want) (((x.aT (r.trim rs)).s0 none fun cs=>some (V.agg ((cs.drop o).take n))).getD .bad))) d D os aI r h Q):=hc rfl
theorem ahr {n:Nat} {x i:aX}:bo P (.os D (⟨d,(.cH n x i),none,rs⟩::os)::aI) .normal r h Q=dk P (ka n (x.aT (r.trim rs)) (i.aT (r.trim rs))) d D os aI r h Q:=hd rfl
theorem aiB {n:Nat} {x i:aX} {j:Nat} {want:Bool}:bo P (.os D (⟨d,(.cH n x i),some (j,want),rs⟩::os)::aI) .normal r h Q=(fr (r.trim rs j)/\e3 (took (r.trim rs j) want) ((ka n (x.aT (r.trim rs)) (i.aT (r.trim rs))).isSome=true)/\dk P (some (V.opt (took (r.trim rs j) want) ((ka n (x.aT (r.trim rs)) (i.aT (r.trim rs))).getD .bad))) d D os aI r h Q):=hc rfl
theorem ahs {m n:Nat} {x i:aX}:bo P (.os D (⟨d,(.lU m n x i),none,rs⟩::os)::aI) .normal r h Q=dk P ((sQ m n).run (x.aT (r.trim rs)) (i.aT (r.trim rs))) d D os aI r h Q:=hd rfl
theorem aiC {m n:Nat} {x i:aX} {j:Nat} {want:Bool}:bo P (.os D (⟨d,(.lU m n x i),some (j,want),rs⟩::os)::aI) .normal r h Q=(fr (r.trim rs j)/\e3 (took (r.trim rs j) want) (((sQ m n).run (x.aT (r.trim rs)) (i.aT (r.trim rs))).isSome=true)/\dk P (some (V.opt (took (r.trim rs j) want) (((sQ m n).run (x.aT (r.trim rs)) (i.aT (r.trim rs))).getD .bad))) d D os aI r h Q):=hc rfl
theorem ahv {x i:aX}:bo P (.os D (⟨d,(.mA x i),none,rs⟩::os)::aI) .normal r h Q=dk P (sS.run (x.aT (r.trim rs)) (i.aT (r.trim rs))) d D os aI r h Q:=hd rfl
theorem aiF {x i:aX} {j:Nat} {want:Bool}:bo P (.os D (⟨d,(.mA x i),some (j,want),rs⟩::os)::aI) .normal r h Q=(fr (r.trim rs j)/\e3 (took (r.trim rs j) want) ((sS.run (x.aT (r.trim rs)) (i.aT (r.trim rs))).isSome=true)/\dk P (some (V.opt (took (r.trim rs j) want) ((sS.run (x.aT (r.trim rs)) (i.aT (r.trim rs))).getD .bad))) d D os aI r h Q):=hc rfl
theorem ahu {t:TypeId} {x i:aX}:bo P (.os D (⟨d,(.kb t x i),none,rs⟩::os)::aI) .normal r h Q=dk P ((sR P t).run (x.aT (r.trim rs)) (i.aT (r.trim rs))) d D os aI r h Q:=hd rfl
theorem aiE {t:TypeId} {x i:aX} {j:Nat} {want:Bool}:bo P (.os D (⟨d,(.kb t x i),some (j,want),rs⟩::os)::aI) .normal r h Q=(fr (r.trim rs j)/\e3 (took (r.trim rs j) want) (((sR P t).run (x.aT (r.trim rs)) (i.aT (r.trim rs))).isSome=true)/\dk P (some (V.opt (took (r.trim rs j) want) (((sR P t).run (x.aT (r.trim rs)) (i.aT (r.trim rs))).getD .bad))) d D os aI r h Q):=hc rfl
theorem ahD {k:mV} {z:V} {ok:Bool} {x i:aX}:bo P (.os D (⟨d,(.look k z ok x i),none,rs⟩::os)::aI) .normal r h Q=dk P (ru k.eq z ok h (x.aT (r.trim rs)) (i.aT (r.trim rs))) d D os aI r h Q:=hd rfl
theorem aiM {k:mV} {z:V} {ok:Bool} {x i:aX} {j:Nat} {want:Bool}:bo P (.os D (⟨d,(.look k z ok x i),some (j,want),rs⟩::os)::aI) .normal r h Q=(fr (r.trim rs j)/\e3 (took (r.trim rs j) want) ((ru k.eq z ok h (x.aT (r.trim rs)) (i.aT (r.trim rs))).isSome=true)/\dk P (some (V.opt (took (r.trim rs j) want) ((ru k.eq z ok h (x.aT (r.trim rs)) (i.aT (r.trim rs))).getD .bad))) d D os aI r h Q):=hc rfl
theorem ahk {x:aX} {i:Nat}:bo P (.os D (⟨d,(.ext x i),none,rs⟩::os)::aI) .normal r h Q=dk P ((x.aT (r.trim rs)).CJ none fun ai=>ai[i]?) d D os aI r h Q:=hd rfl
theorem aiw {x:aX} {i:Nat} {j:Nat} {want:Bool}:bo P (.os D (⟨d,(.ext x i),some (j,want),rs⟩::os)::aI) .normal r h Q=(fr (r.trim rs j)/\e3 (took (r.trim rs j) want) (((x.aT (r.trim rs)).CJ none fun ai=>ai[i]?).isSome=true)/\dk P (some (V.opt (took (r.trim rs j) want) (((x.aT (r.trim rs)).CJ none fun ai=>ai[i]?).getD .bad))) d D os aI r h Q):=hc rfl
theorem ahM {args:List aX}:bo P (.os D (⟨d,(.uC args),none,rs⟩::os)::aI) .normal r h Q=dk P (kU (fun b a=>!Int.leB a b) (aX.ga (r.trim rs) args)) d D os aI r h Q:=hd rfl
theorem aiT {args:List aX} {j:Nat} {want:Bool}:bo P (.os D (⟨d,(.uC args),some (j,want),rs⟩::os)::aI) .normal r h Q=(fr (r.trim rs j)/\e3 (took (r.trim rs j) want) ((kU (fun b a=>!Int.leB a b) (aX.ga (r.trim rs) args)).isSome=true)/\dk P (some (V.opt (took (r.trim rs j) want) ((kU (fun b a=>!Int.leB a b) (aX.ga (r.trim rs) args)).getD .bad))) d D os aI r h Q):=hc rfl
theorem ahP {args:List aX}:bo P (.os D (⟨d,(.ed args),none,rs⟩::os)::aI) .normal r h Q=dk P (kU (fun b a=>!Int.leB b a) (aX.ga (r.trim rs) args)) d D os aI r h Q:=hd rfl
theorem aiV {args:List aX} {j:Nat} {want:Bool}:bo P (.os D (⟨d,(.ed args),some (j,want),rs⟩::os)::aI) .normal r h Q=(fr (r.trim rs j)/\e3 (took (r.trim rs j) want) ((kU (fun b a=>!Int.leB b a) (aX.ga (r.trim rs) args)).isSome=true)/\dk P (some (V.opt (took (r.trim rs j) want) ((kU (fun b a=>!Int.leB b a) (aX.ga (r.trim rs) args)).getD .bad))) d D os aI r h Q):=hc rfl
theorem ahb {k:IntKind} {x:aX}:bo P (.os D (⟨d,(.km (.int k) x),none,rs⟩::os)::aI) .normal r h Q=dk P (Ew k (x.aT (r.trim rs))) d D os aI r h Q:=hd rfl
theorem air {k:IntKind} {x:aX} {j:Nat} {want:Bool}:bo P (.os D (⟨d,(.km (.int k) x),some (j,want),rs⟩::os)::aI) .normal r h Q=(fr (r.trim rs j)/\e3 (took (r.trim rs j) want) ((Ew k (x.aT (r.trim rs))).isSome=true)/\dk P (some (V.opt (took (r.trim rs j) want) ((Ew k (x.aT (r.trim rs))).getD .bad))) d D os aI r h Q):=hc rfl
theorem ahA {x:aX}:bo P (.os D (⟨d,(.len .slice x),none,rs⟩::os)::aI) .normal r h Q=dk P (ny (x.aT (r.trim rs))) d D os aI r h Q:=hd rfl
theorem aiK {x:aX} {j:Nat} {want:Bool}:bo P (.os D (⟨d,(.len .slice x),some (j,want),rs⟩::os)::aI) .normal r h Q=(fr (r.trim rs j)/\e3 (took (r.trim rs j) want) ((ny (x.aT (r.trim rs))).isSome=true)/\dk P (some (V.opt (took (r.trim rs j) want) ((ny (x.aT (r.trim rs))).getD .bad))) d D os aI r h Q):=hc rfl
theorem ahB {x:aX}:bo P (.os D (⟨d,(.len .str x),none,rs⟩::os)::aI) .normal r h Q=dk P (F7 (x.aT (r.trim rs))) d D os aI r h Q:=hd rfl
theorem aiL {x:aX} {j:Nat} {want:Bool}:bo P (.os D (⟨d,(.len .str x),some (j,want),rs⟩::os)::aI) .normal r h Q=(fr (r.trim rs j)/\e3 (took (r.trim rs j) want) ((F7 (x.aT (r.trim rs))).isSome=true)/\dk P (some (V.opt (took (r.trim rs j) want) ((F7 (x.aT (r.trim rs))).getD .bad))) d D os aI r h Q):=hc rfl
theorem ahy {n:Nat} {x:aX}:bo P (.os D (⟨d,(.len (.arr n) x),none,rs⟩::os)::aI) .normal r h Q=dk P (some (V.int .i64 n)) d D os aI r h Q:=hd rfl
theorem aiI {n:Nat} {x:aX} {j:Nat} {want:Bool}:bo P (.os D (⟨d,(.len (.arr n) x),some (j,want),rs⟩::os)::aI) .normal r h Q=(fr (r.trim rs j)/\e3 (took (r.trim rs j) want) ((some (V.int .i64 n)).isSome=true)/\dk P (some (V.opt (took (r.trim rs j) want) ((some (V.int .i64 n)).getD .bad))) d D os aI r h Q):=hc rfl
theorem ahR {z:List V}:bo P (.os D (⟨d,(.new z),none,rs⟩::os)::aI) .normal r h Q=hI P (qp (.ptr (aj h.next) 0) (gG h z)) d D os aI r h Q:=iL rfl rfl
theorem aiW {z:List V} {j:Nat} {want:Bool}:bo P (.os D (⟨d,(.new z),some (j,want),rs⟩::os)::aI) .normal r h Q=fo P (r.trim rs j) want d (.new z) rs D os aI r h Q:=h_ rfl
theorem ag3 {x:aX}:bo P (.os D (⟨d,(.box x),none,rs⟩::os)::aI) .normal r h Q=hI P (Pq (x.aT (r.trim rs)).gd (qp (.ptr (aj h.next) 0) (gG h (x.aT (r.trim rs)).cells))) d D os aI r h Q:=iL rfl rfl
theorem aij {x:aX} {j:Nat} {want:Bool}:bo P (.os D (⟨d,(.box x),some (j,want),rs⟩::os)::aI) .normal r h Q=fo P (r.trim rs j) want d (.box x) rs D os aI r h Q:=h_ rfl
theorem ag4 {n m:Nat} {z:List V} {bm:List (Nat × Nat × aX)}:bo P (.os D (⟨d,(.il n m z bm),none,rs⟩::os)::aI) .normal r h Q=hI P (Eh n h (jk (hG z n) (kI (r.trim rs) bm))) d D os aI r h Q:=by rw [iL rfl rfl,amB]
theorem aik {n m:Nat} {z:List V} {bm:List (Nat × Nat × aX)} {j:Nat} {want:Bool}:bo P (.os D (⟨d,(.il n m z bm),some (j,want),rs⟩::os)::aI) .normal r h Q=fo P (r.trim rs j) want d (.il n m z bm) rs D os aI r h Q:=h_ rfl
theorem ah8 {n:Nat} {x y:aX}:bo P (.os D (⟨d,(.st n x y),none,rs⟩::os)::aI) .normal r h Q=hI P (qp .bad (xv n h (x.aT (r.trim rs)) (y.aT (r.trim rs)))) d D os aI r h Q:=iL rfl rfl
theorem ai6 {n:Nat} {x y:aX} {j:Nat} {want:Bool}:bo P (.os D (⟨d,(.st n x y),some (j,want),rs⟩::os)::aI) .normal r h Q=fo P (r.trim rs j) want d (.st n x y) rs D os aI r h Q:=h_ rfl
theorem ahL {n:Nat} {z:List V} {l c:aX}:bo P (.os D (⟨d,(.sZ n z l c),none,rs⟩::os)::aI) .normal r h Q=hI P (sW n z (l.aT (r.trim rs)) (c.aT (r.trim rs)) h) d D os aI r h Q:=iL rfl rfl
theorem aiS {n:Nat} {z:List V} {l c:aX} {j:Nat} {want:Bool}:bo P (.os D (⟨d,(.sZ n z l c),some (j,want),rs⟩::os)::aI) .normal r h Q=fo P (r.trim rs j) want d (.sZ n z l c) rs D os aI r h Q:=h_ rfl
theorem ah_ {k:mV} {m i x:aX}:bo P (.os D (⟨d,(.eU k m i x),none,rs⟩::os)::aI) .normal r h Q=hI P (qp .bad (k0 k.eq h (m.aT (r.trim rs)) (i.aT (r.trim rs)) (x.aT (r.trim rs)))) d D os aI r h Q:=iL rfl rfl
theorem ai8 {k:mV} {m i x:aX} {j:Nat} {want:Bool}:bo P (.os D (⟨d,(.eU k m i x),some (j,want),rs⟩::os)::aI) .normal r h Q=fo P (r.trim rs j) want d (.eU k m i x) rs D os aI r h Q:=h_ rfl
theorem ahK {x:Option aX}:bo P (.os D (⟨d,(.nC x),none,rs⟩::os)::aI) .normal r h Q=hI P (sV (aX.opt (r.trim rs) x) h) d D os aI r h Q:=iL rfl rfl
theorem aiR {x:Option aX} {j:Nat} {want:Bool}:bo P (.os D (⟨d,(.nC x),some (j,want),rs⟩::os)::aI) .normal r h Q=fo P (r.trim rs j) want d (.nC x) rs D os aI r h Q:=h_ rfl
theorem ah3 {x:aX}:bo P (.os D (⟨d,(.zV x),none,rs⟩::os)::aI) .normal r h Q=hI P (GW (x.aT (r.trim rs)) h) d D os aI r h Q:=(iL rfl rfl).trans (by first | rfl | (unfold GW;simp only [G.run];cases x.aT (r.trim rs)<;>rfl) | (unfold GW;cases x.aT (r.trim rs)<;>rfl))
theorem ai3 {x:aX} {j:Nat} {want:Bool}:bo P (.os D (⟨d,(.zV x),some (j,want),rs⟩::os)::aI) .normal r h Q=fo P (r.trim rs j) want d (.zV x) rs D os aI r h Q:=h_ rfl
theorem ahU {x:aX}:bo P (.os D (⟨d,(.zD x),none,rs⟩::os)::aI) .normal r h Q=hI P (w9 (x.aT (r.trim rs)) h) d D os aI r h Q:=iL rfl rfl
theorem aiY {x:aX} {j:Nat} {want:Bool}:bo P (.os D (⟨d,(.zD x),some (j,want),rs⟩::os)::aI) .normal r h Q=fo P (r.trim rs j) want d (.zD x) rs D os aI r h Q:=h_ rfl
theorem agW {n:Nat} {s x:aX}:bo P (.os D (⟨d,(.app n s x),none,rs⟩::os)::aI) .normal r h Q=hI P (ij n (s.aT (r.trim rs)) (x.aT (r.trim rs)) h) d D os aI r h Q:=iL rfl rfl
theorem aif {n:Nat} {s x:aX} {j:Nat} {want:Bool}:bo P (.os D (⟨d,(.app n s x),some (j,want),rs⟩::os)::aI) .normal r h Q=fo P (r.trim rs j) want d (.app n s x) rs D os aI r h Q:=h_ rfl
theorem ag' {n:Nat} {ji s:aX}:bo P (.os D (⟨d,(.copy n ji s),none,rs⟩::os)::aI) .normal r h Q=hI P (copyV n (ji.aT (r.trim rs)) (s.aT (r.trim rs)) h) d D os aI r h Q:=iL rfl rfl
theorem aip {n:Nat} {ji s:aX} {j:Nat} {want:Bool}:bo P (.os D (⟨d,(.copy n ji s),some (j,want),rs⟩::os)::aI) .normal r h Q=fo P (r.trim rs j) want d (.copy n ji s) rs D os aI r h Q:=h_ rfl
theorem ahz {x:aX}:bo P (.os D (⟨d,(.len .map x),none,rs⟩::os)::aI) .normal r h Q=hI P (Cp [x.aT (r.trim rs)] h) d D os aI r h Q:=iL rfl rfl
theorem aiJ {x:aX} {j:Nat} {want:Bool}:bo P (.os D (⟨d,(.len .map x),some (j,want),rs⟩::os)::aI) .normal r h Q=fo P (r.trim rs j) want d (.len .map x) rs D os aI r h Q:=h_ rfl
theorem aha {x:aX}:bo P (.os D (⟨d,(.km .bytes x),none,rs⟩::os)::aI) .normal r h Q=hI P (A7.run (x.aT (r.trim rs)) h) d D os aI r h Q:=iL rfl rfl
theorem aiq {x:aX} {j:Nat} {want:Bool}:bo P (.os D (⟨d,(.km .bytes x),some (j,want),rs⟩::os)::aI) .normal r h Q=fo P (r.trim rs j) want d (.km .bytes x) rs D os aI r h Q:=h_ rfl
theorem ahd {x:aX}:bo P (.os D (⟨d,(.km .str x),none,rs⟩::os)::aI) .normal r h Q=hI P (tN.run (x.aT (r.trim rs)) h) d D os aI r h Q:=iL rfl rfl
theorem ait {x:aX} {j:Nat} {want:Bool}:bo P (.os D (⟨d,(.km .str x),some (j,want),rs⟩::os)::aI) .normal r h Q=fo P (r.trim rs j) want d (.km .str x) rs D os aI r h Q:=h_ rfl
theorem ahc {s ji:TypeId} {x:aX}:bo P (.os D (⟨d,(.km (.other s ji) x),none,rs⟩::os)::aI) .normal r h Q=hI P ((qR P s ji).run (x.aT (r.trim rs)) h) d D os aI r h Q:=iL rfl rfl
theorem ais {s ji:TypeId} {x:aX} {j:Nat} {want:Bool}:bo P (.os D (⟨d,(.km (.other s ji) x),some (j,want),rs⟩::os)::aI) .normal r h Q=fo P (r.trim rs j) want d (.km (.other s ji) x) rs D os aI r h Q:=h_ rfl
theorem aim {f:FuncId} {args:List aX} {j:Nat} {want:Bool}:bo P (.os D (⟨d,(.call f args),some (j,want),rs⟩::os)::aI) .normal r h Q=fo P (r.trim rs j) want d (.call f args) rs D os aI r h Q:=h_ rfl
theorem ain {f:aX} {args:List aX} {j:Nat} {want:Bool}:bo P (.os D (⟨d,(.o1 f args),some (j,want),rs⟩::os)::aI) .normal r h Q=fo P (r.trim rs j) want d (.o1 f args) rs D os aI r h Q:=h_ rfl
theorem ag7 {x:aX}:bo P (.os D (⟨d,(.tL x),none,rs⟩::os)::aI) .normal r h Q=dk P (se (x.aT (r.trim rs))) d D os aI r h Q:=hd rfl
theorem aio {x:aX} {j:Nat} {want:Bool}:bo P (.os D (⟨d,(.tL x),some (j,want),rs⟩::os)::aI) .normal r h Q=(fr (r.trim rs j)/\e3 (took (r.trim rs j) want) ((se (x.aT (r.trim rs))).isSome=true)/\dk P (some (V.opt (took (r.trim rs j) want) ((se (x.aT (r.trim rs))).getD .bad))) d D os aI r h Q):=hc rfl
theorem ahE {z:V} {ok:Bool} {x i:aX}:bo P (.os D (⟨d,(.rr z ok x i),none,rs⟩::os)::aI) .normal r h Q=dk P (jq ⟨hs h⟩ z ok h (x.aT (r.trim rs)) (i.aT (r.trim rs))) d D os aI r h Q:=hd rfl
theorem aiN {z:V} {ok:Bool} {x i:aX} {j:Nat} {want:Bool}:bo P (.os D (⟨d,(.rr z ok x i),some (j,want),rs⟩::os)::aI) .normal r h Q=(fr (r.trim rs j)/\e3 (took (r.trim rs j) want) ((jq ⟨hs h⟩ z ok h (x.aT (r.trim rs)) (i.aT (r.trim rs))).isSome=true)/\dk P (some (V.opt (took (r.trim rs j) want) ((jq ⟨hs h⟩ z ok h (x.aT (r.trim rs)) (i.aT (r.trim rs))).getD .bad))) d D os aI r h Q):=hc rfl
theorem ahF {k:TypeId} {z:V} {ok:Bool} {x i:aX}:bo P (.os D (⟨d,(.looks k z ok x i),none,rs⟩::os)::aI) .normal r h Q=dk P (bif nw P k (i.aT (r.trim rs)) then jq (structEq P k) z ok h (x.aT (r.trim rs)) (i.aT (r.trim rs)) else none) d D os aI r h Q:=hd rfl
theorem aiO {k:TypeId} {z:V} {ok:Bool} {x i:aX} {j:Nat} {want:Bool}:bo P (.os D (⟨d,(.looks k z ok x i),some (j,want),rs⟩::os)::aI) .normal r h Q=(fr (r.trim rs j)/\e3 (took (r.trim rs j) want) ((bif nw P k (i.aT (r.trim rs)) then jq (structEq P k) z ok h (x.aT (r.trim rs)) (i.aT (r.trim rs)) else none).isSome=true)/\dk P (some (V.opt (took (r.trim rs j) want) ((bif nw P k (i.aT (r.trim rs)) then jq (structEq P k) z ok h (x.aT (r.trim rs)) (i.aT (r.trim rs)) else none).getD .bad))) d D os aI r h Q):=hc rfl
theorem ahX {neg:Bool} {x y:aX}:bo P (.os D (⟨d,(.peq neg x y),none,rs⟩::os)::aI) .normal r h Q=dk P (uN neg h (x.aT (r.trim rs)) (y.aT (r.trim rs))) d D os aI r h Q:=hd rfl
theorem ai0 {neg:Bool} {x y:aX} {j:Nat} {want:Bool}:bo P (.os D (⟨d,(.peq neg x y),some (j,want),rs⟩::os)::aI) .normal r h Q=(fr (r.trim rs j)/\e3 (took (r.trim rs j) want) ((uN neg h (x.aT (r.trim rs)) (y.aT (r.trim rs))).isSome=true)/\dk P (some (V.opt (took (r.trim rs j) want) ((uN neg h (x.aT (r.trim rs)) (y.aT (r.trim rs))).getD .bad))) d D os aI r h Q):=hc rfl
theorem agX {n:Nat} {z:List V} {s x:aX}:bo P (.os D (⟨d,(.x' n z s x),none,rs⟩::os)::aI) .normal r h Q=hI P (x9 n z (s.aT (r.trim rs)) (x.aT (r.trim rs)) h) d D os aI r h Q:=iL rfl rfl
theorem aih {n:Nat} {z:List V} {s x:aX} {j:Nat} {want:Bool}:bo P (.os D (⟨d,(.x' n z s x),some (j,want),rs⟩::os)::aI) .normal r h Q=fo P (r.trim rs j) want d (.x' n z s x) rs D os aI r h Q:=h_ rfl
theorem aia {m i x:aX}:bo P (.os D (⟨d,(.xB m i x),none,rs⟩::os)::aI) .normal r h Q=hI P (qp .bad (k0 ⟨hs h⟩ h (m.aT (r.trim rs)) (i.aT (r.trim rs)) (x.aT (r.trim rs)))) d D os aI r h Q:=iL rfl rfl
theorem ai9 {m i x:aX} {j:Nat} {want:Bool}:bo P (.os D (⟨d,(.xB m i x),some (j,want),rs⟩::os)::aI) .normal r h Q=fo P (r.trim rs j) want d (.xB m i x) rs D os aI r h Q:=h_ rfl
theorem aib {k:TypeId} {m i x:aX}:bo P (.os D (⟨d,(.Da k m i x),none,rs⟩::os)::aI) .normal r h Q=hI P (qp .bad (bif nw P k (i.aT (r.trim rs)) then k0 (structEq P k) h (m.aT (r.trim rs)) (i.aT (r.trim rs)) (x.aT (r.trim rs)) else none)) d D os aI r h Q:=iL rfl rfl
theorem ai' {k:TypeId} {m i x:aX} {j:Nat} {want:Bool}:bo P (.os D (⟨d,(.Da k m i x),some (j,want),rs⟩::os)::aI) .normal r h Q=fo P (r.trim rs j) want d (.Da k m i x) rs D os aI r h Q:=h_ rfl
theorem ahI {z:V} {m i:aX}:bo P (.os D (⟨d,(.w5 z m i),none,rs⟩::os)::aI) .normal r h Q=hI P (ym z (m.aT (r.trim rs)) (i.aT (r.trim rs)) h) d D os aI r h Q:=iL rfl rfl
theorem aiP {z:V} {m i:aX} {j:Nat} {want:Bool}:bo P (.os D (⟨d,(.w5 z m i),some (j,want),rs⟩::os)::aI) .normal r h Q=fo P (r.trim rs j) want d (.w5 z m i) rs D os aI r h Q:=h_ rfl
theorem ahJ {k:TypeId} {z:V} {m i:aX}:bo P (.os D (⟨d,(.Cw k z m i),none,rs⟩::os)::aI) .normal r h Q=hI P (EC P k z (m.aT (r.trim rs)) (i.aT (r.trim rs)) h) d D os aI r h Q:=iL rfl rfl
theorem aiQ {k:TypeId} {z:V} {m i:aX} {j:Nat} {want:Bool}:bo P (.os D (⟨d,(.Cw k z m i),some (j,want),rs⟩::os)::aI) .normal r h Q=fo P (r.trim rs j) want d (.Cw k z m i) rs D os aI r h Q:=h_ rfl
theorem ahi {m s x:aX}:bo P (.os D (⟨d,(.vS m s x),none,rs⟩::os)::aI) .normal r h Q=hI P (qp .bad (tR h (m.aT (r.trim rs)) (s.aT (r.trim rs)) (x.aT (r.trim rs)))) d D os aI r h Q:=iL rfl rfl
theorem aiv {m s x:aX} {j:Nat} {want:Bool}:bo P (.os D (⟨d,(.vS m s x),some (j,want),rs⟩::os)::aI) .normal r h Q=fo P (r.trim rs j) want d (.vS m s x) rs D os aI r h Q:=h_ rfl
theorem ah2 {x:aX}:bo P (.os D (⟨d,(.C1 x),none,rs⟩::os)::aI) .normal r h Q=hI P (rangeMap (x.aT (r.trim rs)) h) d D os aI r h Q:=iL rfl rfl
theorem ai2 {x:aX} {j:Nat} {want:Bool}:bo P (.os D (⟨d,(.C1 x),some (j,want),rs⟩::os)::aI) .normal r h Q=fo P (r.trim rs j) want d (.C1 x) rs D os aI r h Q:=h_ rfl
theorem ahV {x:aX}:bo P (.os D (⟨d,(.CG x),none,rs⟩::os)::aI) .normal r h Q=hI P (hf (x.aT (r.trim rs)) h) d D os aI r h Q:=iL rfl rfl
theorem aiZ {x:aX} {j:Nat} {want:Bool}:bo P (.os D (⟨d,(.CG x),some (j,want),rs⟩::os)::aI) .normal r h Q=fo P (r.trim rs j) want d (.CG x) rs D os aI r h Q:=h_ rfl
theorem ahg {x:aX}:bo P (.os D (⟨d,(.Bd x),none,rs⟩::os)::aI) .normal r h Q=hI P (Be (x.aT (r.trim rs)) h) d D os aI r h Q:=iL rfl rfl
theorem aiu {x:aX} {j:Nat} {want:Bool}:bo P (.os D (⟨d,(.Bd x),some (j,want),rs⟩::os)::aI) .normal r h Q=fo P (r.trim rs j) want d (.Bd x) rs D os aI r h Q:=h_ rfl
set_option linter.defProp false in
def jz:=And.intro @ag7<|And.intro @aio<|And.intro @ahE<|And.intro @aiN<|And.intro @ahF<|And.intro @aiO<|And.intro @ahX<|And.intro @ai0<|And.intro @agX<|And.intro @aih<|And.intro @aia<|And.intro @ai9<|And.intro @aib<|And.intro @ai'<|And.intro @ahI<|And.intro @aiP<|And.intro @ahJ<|And.intro @aiQ<|And.intro @ahi<|And.intro @aiv<|And.intro @ah2<|And.intro @ai2<|And.intro @ahV<|And.intro @aiZ<|And.intro @ahg @aiu
end
theorem akt (h:ah) (ai:List V):gG h ai=if ai.length<=top then some (h.new (.bE ai 0 false)) else none:=by
 by_cases aA:ai.length<=top
 . rw [if_pos aA,UE aA]
 . rw [if_neg aA];unfold gG;rw [show Nat.ble ai.length top=false from by rw [<-Bool.not_eq_true,Nat.ble_eq];exact aA];rfl
theorem aji (h:ah) (n:Nat) (b:aQ) (off:Nat) (y:V) (ai:List V) (cQ:Nat) (st:Bool):
 qh n h b off y (.bE ai cQ st)=if y.cells.length=n/\eI y.cells=true/\off+n<=ai.length then some (h.set b (.bE (nK ai off y.cells) cQ st)) else none:=by
 by_cases aD:y.cells.length=n/\eI y.cells=true/\off+n<=ai.length
 . rw [if_pos aD,Lo aD.1 aD.2.1 aD.2.2]
 . rw [if_neg aD];unfold qh;by_cases aa:y.cells.length=n
   . rw [show Nat.beq y.cells.length n=true from by rw [Nat.beq_eq];exact aa];simp only [cond_true,cd.bE,cd.on];by_cases ad:eI y.cells=true
     . have aJ:¬off+y.cells.length<=ai.length:=fun q=>aD ⟨aa,ad,by omega⟩;rw [show Nat.ble (off+y.cells.length) ai.length=false from by rw [<-Bool.not_eq_true,Nat.ble_eq];exact aJ];rfl
     . rw [show eI y.cells=false from by simpa using ad,Bool.and_false];rfl
   . rw [show Nat.beq y.cells.length n=false from by rw [<-Bool.not_eq_true,Nat.beq_eq];exact aa];rfl
theorem ac3 (cells:List V) (off size:Nat) (v:V) (rest:List (Nat × Nat × V)):
 jk cells ((off,size,v)::rest)=if v.gd=true/\v.cells.length=size/\off+size<=cells.length then jk (nK cells off v.cells) rest else none:=by
 by_cases aD:v.gd=true/\v.cells.length=size/\off+size<=cells.length
 . rw [if_pos aD,ac2 aD.1 aD.2.1 aD.2.2]
 . rw [if_neg aD];simp only [jk];cases ae:(v.gd&&(Nat.beq v.cells.length size&&Nat.ble (off+v.cells.length) cells.length)) with
   | false=>rfl
   | true=>
     simp only [Bool.and_eq_true,Nat.beq_eq,Nat.ble_eq] at ae;exact absurd ⟨ae.1,ae.2.1,by omega⟩ aD
theorem abr (b:Bool):V.cells (.bool b:V)=[.bool b]:=rfl
theorem ak3 (b:Bool):V.one (.bool b:V)=true:=rfl
theorem adA (b:Bool):V.gd (.bool b:V)=true:=rfl
theorem abw (k:IntKind) (n:Int):V.cells (.int k n:V)=[.int k n]:=rfl
theorem Gy (k:IntKind) (n:Int):V.one (.int k n:V)=true:=rfl
theorem adE (k:IntKind) (n:Int):V.gd (.int k n:V)=true:=rfl
theorem abF (s:List UInt8):V.cells (.str s:V)=[.str s]:=rfl
theorem Gz (s:List UInt8):V.one (.str s:V)=true:=rfl
theorem adN (s:List UInt8):V.gd (.str s:V)=true:=rfl
theorem abB:V.cells (.ee:V)=[.ee]:=rfl
theorem ak_:V.one (.ee:V)=true:=rfl
theorem adJ:V.gd (.ee:V)=true:=rfl
theorem abD (b:aQ) (o:Nat):V.cells (.ptr b o:V)=[.ptr b o]:=rfl
theorem alb (b:aQ) (o:Nat):V.one (.ptr b o:V)=true:=rfl
theorem adL (b:aQ) (o:Nat):V.gd (.ptr b o:V)=true:=rfl
theorem abE (b:aQ) (o l c:Nat):V.cells (.slice b o l c:V)=[.slice b o l c]:=rfl
theorem alc (b:aQ) (o l c:Nat):V.one (.slice b o l c:V)=true:=rfl
theorem adM (b:aQ) (o l c:Nat):V.gd (.slice b o l c:V)=true:=rfl
theorem abu (b:aQ) (o l c:Nat):V.cells (.dY b o l c:V)=[.dY b o l c]:=rfl
theorem ak5 (b:aQ) (o l c:Nat):V.one (.dY b o l c:V)=true:=rfl
theorem adC (b:aQ) (o l c:Nat):V.gd (.dY b o l c:V)=true:=rfl
theorem abG (b:aQ) (o l c:Nat):V.cells (.hP b o l c:V)=[.hP b o l c]:=rfl
theorem ald (b:aQ) (o l c:Nat):V.one (.hP b o l c:V)=true:=rfl
theorem adO (b:aQ) (o l c:Nat):V.gd (.hP b o l c:V)=true:=rfl
theorem abC:V.cells (.bB:V)=[.bB]:=rfl
theorem ala:V.one (.bB:V)=true:=rfl
theorem adK:V.gd (.bB:V)=true:=rfl
theorem abA:V.cells (.jX:V)=[.jX]:=rfl
theorem ak':V.one (.jX:V)=true:=rfl
theorem adI:V.gd (.jX:V)=true:=rfl
theorem abx (b:aQ):V.cells (.map b:V)=[.map b]:=rfl
theorem ak7 (b:aQ):V.one (.map b:V)=true:=rfl
theorem adF (b:aQ):V.gd (.map b:V)=true:=rfl
theorem abt (f:FuncId) (cs:List V):V.cells (.func f cs:V)=[.func f cs]:=rfl
theorem ak4 (f:FuncId) (cs:List V):V.one (.func f cs:V)=true:=rfl
theorem adB (f:FuncId) (cs:List V):V.gd (.func f cs:V)=true:=rfl
theorem abz:V.cells (.mH:V)=[.mH]:=rfl
theorem ak9:V.one (.mH:V)=true:=rfl
theorem adH:V.gd (.mH:V)=true:=rfl
theorem abv (t:TypeId) (v:V):V.cells (.iface t v:V)=[.iface t v]:=rfl
theorem ak6 (t:TypeId) (v:V):V.one (.iface t v:V)=true:=rfl
theorem adD (t:TypeId) (v:V):V.gd (.iface t v:V)=true:=rfl
theorem aby:V.cells (.nilIface:V)=[.nilIface]:=rfl
theorem ak8:V.one (.nilIface:V)=true:=rfl
theorem adG:V.gd (.nilIface:V)=true:=rfl
theorem abq (cs:List V):V.cells (.agg cs)=cs:=rfl
theorem adz (cs:List V):V.gd (.agg cs)=true:=rfl
theorem adP (cs:List V):V.gd (.tuple cs)=true:=rfl
theorem Y8 (n:Nat):n+1+1=n+2:=rfl
theorem Zc (n:Nat):n+2+1=n+3:=rfl
theorem Zd (n:Nat):n+3+1=n+4:=rfl
theorem Ze (n:Nat):n+4+1=n+5:=rfl
theorem Zf (n:Nat):n+5+1=n+6:=rfl
theorem Zg (n:Nat):n+6+1=n+7:=rfl
theorem Zh (n:Nat):n+7+1=n+8:=rfl
theorem Zi (n:Nat):n+8+1=n+9:=rfl
theorem Zj (n:Nat):n+9+1=n+10:=rfl
theorem Y7 (n:Nat):n+10+1=n+11:=rfl
theorem Y9 (n:Nat):n+11+1=n+12:=rfl
theorem Y' (n:Nat):n+12+1=n+13:=rfl
theorem Y_ (n:Nat):n+13+1=n+14:=rfl
theorem Za (n:Nat):n+14+1=n+15:=rfl
theorem Zb (n:Nat):n+15+1=n+16:=rfl
theorem CF (n:Nat):(n+1=n)=False:=eq_false (by omega)
theorem aoG (n:Nat):(n=n+1)=False:=eq_false (by omega)
theorem rC (n:Nat):(n+2=n)=False:=eq_false (by omega)
theorem aoH (n:Nat):(n=n+2)=False:=eq_false (by omega)
theorem Gv (n:Nat):(n+3=n)=False:=eq_false (by omega)
theorem aoI (n:Nat):(n=n+3)=False:=eq_false (by omega)
theorem akO (n:Nat):(n+4=n)=False:=eq_false (by omega)
theorem aoJ (n:Nat):(n=n+4)=False:=eq_false (by omega)
theorem UP (n:Nat):(n+5=n)=False:=eq_false (by omega)
theorem aoK (n:Nat):(n=n+5)=False:=eq_false (by omega)
theorem akP (n:Nat):(n+6=n)=False:=eq_false (by omega)
theorem aoL (n:Nat):(n=n+6)=False:=eq_false (by omega)
theorem akQ (n:Nat):(n+7=n)=False:=eq_false (by omega)
theorem aoM (n:Nat):(n=n+7)=False:=eq_false (by omega)
theorem akR (n:Nat):(n+8=n)=False:=eq_false (by omega)
theorem aoN (n:Nat):(n=n+8)=False:=eq_false (by omega)
theorem adv {P:Program} {r:bc} {h:ah} {Q:dm->bc->ah->Prop} {aI:List h5} {os:List bH} {D:Option iT} {d:Option Nat} {g:G} {rs:List Nat}:fo P (.bool true) true d g rs D os aI r h Q=bo P (.os D (⟨d,g,none,rs⟩::os)::aI) .normal r h Q:=by rw [RZ];simp
theorem ads {P:Program} {r:bc} {h:ah} {Q:dm->bc->ah->Prop} {aI:List h5} {os:List bH} {D:Option iT} {d:Option Nat} {g:G} {rs:List Nat}:fo P (.bool false) false d g rs D os aI r h Q=bo P (.os D (⟨d,g,none,rs⟩::os)::aI) .normal r h Q:=by rw [RY];simp
theorem adu {P:Program} {r:bc} {h:ah} {Q:dm->bc->ah->Prop} {aI:List h5} {os:List bH} {D:Option iT} {d:Option Nat} {g:G} {rs:List Nat}:fo P (.bool true) false d g rs D os aI r h Q=bo P (.os (js D r h (.tuple [])) os::aI) .normal (r.set d (.tuple [])) h Q:=by rw [RY];simp
theorem adt {P:Program} {r:bc} {h:ah} {Q:dm->bc->ah->Prop} {aI:List h5} {os:List bH} {D:Option iT} {d:Option Nat} {g:G} {rs:List Nat}:fo P (.bool false) true d g rs D os aI r h Q=bo P (.os (js D r h (.tuple [])) os::aI) .normal (r.set d (.tuple [])) h Q:=by rw [RZ];simp
theorem ZY (c:Bool) (a b:V):V.bif (!c) a (V.opt c b)=V.bif (!c) a b:=by cases c<;>rfl
theorem agz (A:Prop):(True->A)=A:=propext ⟨fun q=>q trivial,fun q _=>q⟩
theorem agy (A:Prop):(False->A)=True:=propext ⟨fun _=>trivial,fun _ q=>q.elim⟩
section
variable {P:Program}
theorem fa {b:aY} {aI:List h5} {r:bc} {h:ah} {Q:dm->bc->ah->Prop} (I:bc->ah->Prop) (μ:bc->ah->Nat) (aW:I r h)
 (step:∀r h,I r h->bo P [.c b] .normal r h fun e bD ab=>e.andThen (I bD ab/\μ bD ab<μ r h) (bo P aI e bD ab Q)):zt P b aI r h Q:=
 ⟨I,μ,aW,step⟩
theorem adr {b want:Bool} {d:Option Nat} {f:FuncId} {args:List aX} {rs:List Nat} {os:List bH} {D:Option iT} {aI:List h5} {r:bc} {h:ah} {Q:dm->bc->ah->Prop} (v:V)
 (bj:(b == want)=true->gu P f (aX.ga (r.trim rs) args) h v h)
 (H:bo P (.os (js D r h (V.opt (b == want) v)) os::aI) .normal (r.set d (V.opt (b == want) v)) h Q):fo P (.bool b) want d (.call f args) rs D os aI r h Q:=by
 have:=adq (P:=P) (c:=true) (b:=b) (want:=want) (d:=d) (f:=f) (args:=args) (rs:=rs) (D:=D) (os:=os) (aI:=aI) (r:=r) (h:=h) (Q:=Q) v;simp only [V.opt,cond_true,Bool.true_and] at this;exact this bj H
theorem EV {b:Bool} {d:Option Nat} {f:FuncId} {args:List aX} {rs:List Nat} {os:List bH} {D:Option iT} {aI:List h5} {r:bc} {h:ah} {Q:dm->bc->ah->Prop} (v:V)
 (bj:(!b)=true->gu P f (aX.ga (r.trim rs) args) h v h)
 (H:bo P (.os (js D r h (V.opt (!b) v)) os::aI) .normal (r.set d (V.opt (!b) v)) h Q):fo P (.bool b) false d (.call f args) rs D os aI r h Q:=by
 refine adr v ?_ ?_<;>rw [beq_false]<;>assumption
def V.toN:V->Nat
 | .int _ n=>n.toNat
 | _=>0
theorem anT (k:IntKind) (n:Int):V.toN (.int k n)=n.toNat:=rfl
theorem gL {f:FuncId} {args:List V} {d:Option Nat} {os:List bH} {D:Option iT} {aI:List h5} {r:bc} {h:ah} {Q:dm->bc->ah->Prop} {v:V}
 (c:gu P f args h v h) (H:bo P (.os (js D r h v) os::aI) .normal (r.set d v) h Q):pQ P f args d D os aI r h Q:=⟨v,h,c,H⟩
theorem cK {f:FuncId} {args:List V} {d:Option Nat} {os:List bH} {D:Option iT} {aI:List h5} {r:bc} {h:ah} {Q:dm->bc->ah->Prop} {K:V->ah->Prop}
 (c:de P f args h K) (H:∀v ab,K v ab->bo P (.os (js D r h v) os::aI) .normal (r.set d v) ab Q):pQ P f args d D os aI r h Q:=c.mono H
structure Ext (h ab:ah):Prop where
 next:h.next<=ab.next
 get:∀b,Old h b->ab.get b=h.get b
theorem Ext.refl (h:ah):Ext h h:=⟨Nat.le_refl _,fun _ _=>rfl⟩
theorem Ext.bF {h ab:ah} (e:Ext h ab) {b:aQ} (ae:Old h b):Old ab b:=Nat.lt_of_lt_of_le ae e.next
theorem Ext.trans {h ab mj:ah} (e:Ext h ab) (cX:Ext ab mj):Ext h mj:=
 ⟨Nat.le_trans e.next cX.next,fun b ae=>(cX.get b (e.bF ae)).trans (e.get b ae)⟩
theorem Ext.new {h ab:ah} (e:Ext h ab) (k:cd):Ext h (ab.new k):=
 ⟨Nat.le_succ_of_le e.next,fun b ae=>by rw [iE,if_neg (fun q=>(CI (h:=h) ae e.next) ▸ q)];exact e.get b ae⟩
theorem Ext.set {h ab:ah} (e:Ext h ab) {i:Nat} (ao:h.next<=i) (k:cd):Ext h (ab.set (aj i) k):=
 ⟨e.next,fun b ae=>by rw [dC,if_neg (fun q=>(CI (h:=h) ae ao) ▸ q)];exact e.get b ae⟩
theorem Ext.rd {h ab:ah} (e:Ext h ab) {b:aQ} (ae:Old h b) {ai:List V} (H:Rd h b ai):Rd ab b ai:=by unfold Rd at H ⊢;rw [e.get b ae];exact H
def jB (h:ah) (b:aQ) (off:Nat) (ai:List V):Prop:=Old h b/\∃us,Rd h b us/\off+ai.length<=us.length/\(us.drop off).take ai.length=ai
theorem jB.ext {h ab:ah} (e:Ext h ab) {b:aQ} {off:Nat} {ai:List V} (H:jB h b off ai):jB ab b off ai:=by obtain ⟨aW,us,aa,ad,aJ⟩:=H;exact ⟨e.bF aW,us,e.rd aW aa,ad,aJ⟩
theorem jB.d' {h:ah} {b:aQ} {off:Nat} {ai:List V} (H:jB h b off ai) {i:Nat} (ao:i<ai.length):ia (h.get b) (off+i)=some ai[i]:=by
 obtain ⟨_,us,aa,ad,aJ⟩:=H;rw [aa.d',List.getElem?_eq_getElem (by omega)];congr 1;have:((us.drop off).take ai.length)[i]? =ai[i]? :=by rw [aJ]
 rw [List.getElem?_take_of_lt ao,List.getElem?_drop,List.getElem?_eq_getElem (by omega),List.getElem?_eq_getElem ao] at this;simpa using this
theorem jB.iM {h:ah} {b:aQ} {off:Nat} {ai:List V} (H:jB h b off ai) {i n:Nat} (ao:i+n<=ai.length):pk n (h.get b) (off+i)=some (.agg ((ai.drop i).take n)):=by
 obtain ⟨_,us,aa,ad,aJ⟩:=H;rw [aa.iM,if_pos (by omega)];congr 2;have:(((us.drop off).take ai.length).drop i).take n=(ai.drop i).take n:=by rw [aJ]
 rw [<-this,List.drop_take,List.drop_drop,List.take_take];congr 1;omega
def fG (h:ah) (size:Nat) (v:V) (n:Nat) (ai:List V):Prop:=
 ai.length=n * size/\match v with
  | .bB=>n=0
  | .slice b off len _=>len=n/\jB h b off ai
  | .dY b off len _=>len=n/\jB h b off ai
  | .hP _ _ _ _=>n=0
  | _=>False
theorem fG.ext {h ab:ah} (e:Ext h ab) {size:Nat} {v:V} {n:Nat} {ai:List V} (H:fG h size v n ai):fG ab size v n ai:=by refine ⟨H.1,?_⟩;have cp:=H.2;cases v<;>simp only at cp ⊢<;>first | exact cp | exact ⟨cp.1,cp.2.ext e⟩
theorem fG.len {h:ah} {size:Nat} {v:V} {n:Nat} {ai:List V} (H:fG h size v n ai):ny v=some (.int .i64 n):=by
 have cp:=H.2;cases v<;>simp only at cp<;>first
  | (rw [<-cp.1];rfl)
  | (subst cp;rfl)
  | (exact cp.elim)
theorem fG.cH {h:ah} {size:Nat} {v:V} {n:Nat} {ai:List V} (H:fG h size v n ai) {k:IntKind} {i:Nat} (ao:i<n):
 ∃b off,ka size v (.int k i)=some (.ptr b (off+i * size))/\jB h b off ai:=by
 have cp:=H.2;cases v<;>simp only at cp<;>first
  | omega
  | (exact cp.elim)
  | skip
 . rename_i b off len cap;obtain ⟨rfl,aa⟩:=cp;refine ⟨b,off,?_,aa⟩;rw [zh,if_pos (by omega)];simp
 . rename_i b off len cap;obtain ⟨rfl,aa⟩:=cp;refine ⟨b,off,?_,aa⟩;rw [FR,if_pos (by omega)];simp
end
structure Mod (M:aQ->Prop) (h ab:ah):Prop where
 next:h.next<=ab.next
 get:∀b,Old h b->¬M b->ab.get b=h.get b
theorem Mod.refl (M:aQ->Prop) (h:ah):Mod M h h:=⟨Nat.le_refl _,fun _ _ _=>rfl⟩
theorem Mod.bF {M:aQ->Prop} {h ab:ah} (e:Mod M h ab) {b:aQ} (ae:Old h b):Old ab b:=Nat.lt_of_lt_of_le ae e.next
theorem Mod.trans {M:aQ->Prop} {h ab mj:ah} (e:Mod M h ab) (cX:Mod M ab mj):Mod M h mj:=
 ⟨Nat.le_trans e.next cX.next,fun b ae hm=>(cX.get b (e.bF ae) hm).trans (e.get b ae hm)⟩
theorem Mod.mono {M Oi:aQ->Prop} {h ab:ah} (e:Mod M h ab) (hm:∀b,Old h b->M b->Oi b):Mod Oi h ab:=
 ⟨e.next,fun b ae aV=>e.get b ae fun q=>aV (hm b ae q)⟩
theorem Mod.new {M:aQ->Prop} {h ab:ah} (e:Mod M h ab) (k:cd):Mod M h (ab.new k):=
 ⟨Nat.le_succ_of_le e.next,fun b ae hm=>by rw [iE,if_neg (fun q=>(CI (h:=h) ae e.next) ▸ q)];exact e.get b ae hm⟩
theorem Mod.set {M:aQ->Prop} {h ab:ah} (e:Mod M h ab) {b:aQ} (ae:Old h b->M b) (k:cd):Mod M h (ab.set b k):=
 ⟨e.next,fun bL e9 hm=>by
   rw [dC];by_cases q:b=bL
   . subst q;exact absurd (ae e9) hm
   . rw [if_neg q];exact e.get bL e9 hm⟩
theorem Ext.mod {h ab:ah} (e:Ext h ab) (M:aQ->Prop):Mod M h ab:=⟨e.next,fun b ae _=>e.get b ae⟩
theorem Ext.h1 {h ab mj:ah} (e:Ext h ab) {M:aQ->Prop} (m:Mod M ab mj) (hm:∀b,M b->h.next<=cB b):Ext h mj:=
 ⟨Nat.le_trans e.next m.next,fun b ae=>by
   have mr:¬M b:=fun q=>by have:=hm b q;unfold Old at ae;omega
   exact (m.get b (e.bF ae) mr).trans (e.get b ae)⟩
theorem Mod.at {M:aQ->Prop} {h ab:ah} (e:Mod M h ab) {b:aQ} {off:Nat} {ai:List V} (H:jB h b off ai) (hm:¬M b):jB ab b off ai:=by obtain ⟨aW,us,aa,ad,aJ⟩:=H;refine ⟨e.bF aW,us,?_,ad,aJ⟩;unfold Rd at aa ⊢;rw [e.get b aW hm];exact aa
theorem fW {h:ah} {i:Nat} (ao:i<h.next):Old h (aj i):=by unfold Old;rw [b9];exact ao
theorem CB {h:ah} {b:aQ} {i:Nat} (ae:Old h b) (ao:h.next<=i):(b=aj i)=False:=by apply eq_false;intro e;unfold Old at ae;rw [e,b9] at ae;omega
def V.aN:V->aQ->Prop
 | .slice b _ _ _,bL=>bL=b
 | .dY b _ _ _,bL=>bL=b
 | _,_=>False
theorem fG.ov {h:ah} {size:Nat} {v:V} {n:Nat} {ai:List V} (H:fG h size v n ai) {k:IntKind} {i:Nat} (ao:i<n):
 ∃b off,ka size v (.int k i)=some (.ptr b (off+i * size))/\jB h b off ai/\v.aN b:=by
 have cp:=H.2;cases v<;>simp only at cp<;>first
  | omega
  | (exact cp.elim)
  | skip
 . rename_i b off len cap;obtain ⟨rfl,aa⟩:=cp;refine ⟨b,off,?_,aa,rfl⟩;rw [zh,if_pos (by omega)];simp
 . rename_i b off len cap;obtain ⟨rfl,aa⟩:=cp;refine ⟨b,off,?_,aa,rfl⟩;rw [FR,if_pos (by omega)];simp
theorem fG.one {h:ah} {size:Nat} {v:V} {n:Nat} {ai:List V} (H:fG h size v n ai):v.one=true/\v.cells=[v]/\v.gd=true:=by have q:=H.2;cases v<;>simp only at q<;>first | exact ⟨rfl,rfl,rfl⟩ | exact q.elim
theorem fG.mod {M:aQ->Prop} {h ab:ah} (e:Mod M h ab) {size:Nat} {v:V} {n:Nat} {ai:List V} (H:fG h size v n ai) (hm:∀b,v.aN b->¬M b):fG ab size v n ai:=by refine ⟨H.1,?_⟩;have cp:=H.2;cases v<;>simp only at cp ⊢<;>first | exact cp | exact ⟨cp.1,e.at cp.2 (hm _ rfl)⟩
theorem fG.bF {h:ah} {size:Nat} {v:V} {n:Nat} {ai:List V} (H:fG h size v n ai) {b:aQ} (ae:v.aN b):Old h b:=by have cp:=H.2;cases v<;>simp only [V.aN] at cp ae<;>first | (exact ae.elim) | (subst ae;exact cp.2.1)
def cJ (B:Nat) (h:ah) (size:Nat) (v:V) (n:Nat) (ai:List V):Prop:=
 ai.length=n * size/\match v with
  | .bB=>n=0
  | .slice b off len cap=>len=n/\B<=cB b/\Old h b/\n<=cap/\cap<=top/\∃us cQ st,h.get b=.bE us cQ st/\off+cap * size<=us.length/\(us.drop off).take ai.length=ai
  | .dY b off len idx=>len=n/\B<=cB b/\Old h b/\off=0/\idx=0/\∃us st,h.get b=.bE us size st/\ai.length<=us.length/\us.take ai.length=ai
  | _=>False
theorem cJ.v {B:Nat} {h:ah} {size:Nat} {v:V} {n:Nat} {ai:List V} (H:cJ B h size v n ai):fG h size v n ai:=by
 obtain ⟨aa,ad⟩:=H;refine ⟨aa,?_⟩;cases v<;>simp only at ad ⊢<;>first | exact ad | skip
 . obtain ⟨ar,_,aw,aK,_,us,cQ,st,bY,ek,fk⟩:=ad;refine ⟨ar,aw,us,.inr ⟨cQ,st,bY⟩,?_,fk⟩;rw [aa];have:=Nat.mul_le_mul_right size aK;omega
 . obtain ⟨ar,_,aw,aK,_,us,st,bY,ek,fk⟩:=ad;subst aK;exact ⟨ar,aw,us,.inr ⟨size,st,bY⟩,by omega,by simpa using fk⟩
theorem cJ.base {B:Nat} {h:ah} {size:Nat} {v:V} {n:Nat} {ai:List V} (H:cJ B h size v n ai) {b:aQ} (ae:v.aN b):B<=cB b:=by have cp:=H.2;cases v<;>simp only [V.aN] at cp ae<;>first | (exact ae.elim) | (subst ae;exact cp.2.1)
theorem cJ.mono {B NP:Nat} {h:ah} {size:Nat} {v:V} {n:Nat} {ai:List V} (H:cJ B h size v n ai) (da:NP<=B):cJ NP h size v n ai:=by refine ⟨H.1,?_⟩;have cp:=H.2;cases v<;>simp only at cp ⊢<;>first | exact cp | exact ⟨cp.1,Nat.le_trans da cp.2.1,cp.2.2⟩
theorem cJ.mod {M:aQ->Prop} {h ab:ah} (e:Mod M h ab) {B size:Nat} {v:V} {n:Nat} {ai:List V} (H:cJ B h size v n ai) (hm:∀b,v.aN b->¬M b):cJ B ab size v n ai:=by
 refine ⟨H.1,?_⟩;have cp:=H.2;cases v<;>simp only at cp ⊢<;>first | exact cp | skip
 . obtain ⟨ar,aw,aK,bY,ek,us,cQ,st,fk,h3⟩:=cp;exact ⟨ar,aw,e.bF aK,bY,ek,us,cQ,st,by rw [e.get _ aK (hm _ rfl)];exact fk,h3⟩
 . obtain ⟨ar,aw,aK,bY,ek,us,st,fk,h3⟩:=cp;exact ⟨ar,aw,e.bF aK,bY,ek,us,st,by rw [e.get _ aK (hm _ rfl)];exact fk,h3⟩
theorem cJ.ext {h ab:ah} (e:Ext h ab) {B size:Nat} {v:V} {n:Nat} {ai:List V} (H:cJ B h size v n ai):cJ B ab size v n ai:=
 H.mod (e.mod fun _=>False) fun _ _ q=>q
theorem ajD {h:ah} {size:Nat} {v:V} {n:Nat} {ai:List V} (H:fG h size v n ai):pq v=some n:=by
 have cp:=H.2;cases v<;>simp only at cp<;>first
  | (rw [<-cp.1];rfl)
  | (subst cp;rfl)
  | (exact cp.elim)
theorem MX {h:ah} {b:aQ} {off size n:Nat} {ai:List V} (H:jB h b off ai) (aA:ai.length=n * size):pF h size b off n=some ai:=by obtain ⟨_,us,aa,ad,aJ⟩:=H;unfold pF;rw [aa.pE,show Nat.ble (off+n * size) us.length=true from by rw [Nat.ble_eq];omega,EX us _ off (by omega),<-aA,aJ];rfl
theorem ani {h:ah} {size:Nat} {v:V} {n:Nat} {ai:List V} (H:fG h size v n ai):xt h size v n=some ai:=by
 obtain ⟨aa,ad⟩:=H;cases v<;>simp only at ad<;>first
  | (exact ad.elim)
  | (obtain ⟨_,aJ⟩:=ad;exact MX aJ aa)
  | (subst ad
     have:ai=[]:=List.eq_nil_of_length_eq_zero (by omega);subst this;rfl)
theorem cJ.grown {B:Nat} {h:ah} {size:Nat} {ai:List V} {n:Nat} {st:Bool} (aA:ai.length=n * size) (da:B<=h.next):cJ B (h.new (.bE ai size st)) size (.dY (aj h.next) 0 n 0) n ai:=
 ⟨aA,rfl,by rw [b9];exact da,U5,rfl,rfl,ai,st,nd _,Nat.le_refl _,List.take_length⟩
theorem Zr {h:ah} {size:Nat} {s x:V} {m:Nat} {ai:List V} (cp:fG h size x m ai) (hm:m<=top):ij size s x h=(match s with
 | .bB=>vw size m ai h
 | .slice b off len cap=>x8 size b off len cap m ai h
 | .dY b off len idx=>x7 size b off len idx m ai h
 | _=>.fail):=by
 unfold ij;rw [ajD cp];simp only;rw [ani cp];simp only;rw [show Nat.ble m top=true from by rw [Nat.ble_eq];exact hm];rfl
theorem WM (A:List V) (o:Nat) (W:List V) (h:o+W.length<=A.length) (q:Nat):(j3 A o W)[q]? =if q<o then A[q]? else if q<o+W.length then W[q-o]? else A[q]? :=by
 have aA:(A.take o).length=o:=by rw [List.length_take];omega
 unfold j3;rw [List.append_assoc];by_cases bP:q<o
 . rw [if_pos bP,List.getElem?_append_left (by omega),List.getElem?_take_of_lt bP]
 . rw [if_neg bP,List.getElem?_append_right (by omega),aA];by_cases bX:q<o+W.length
   . rw [if_pos bX,List.getElem?_append_left (by omega)]
   . rw [if_neg bX,List.getElem?_append_right (by omega),List.getElem?_drop];congr 1;omega
theorem WN (A:List V) (o j:Nat) (L W:List V) (ng:o+L.length<=A.length) (eL:(A.drop o).take L.length=L) (aU:j+W.length<=L.length):((j3 A (o+j) W).drop o).take L.length=j3 L j W:=by
 apply List.ext_getElem?;intro q;have aA:((A.drop o).take L.length)[q]? =L[q]? :=by rw [eL]
 rw [WM L j W aU];by_cases aC:q<L.length
 . rw [List.getElem?_take_of_lt aC,List.getElem?_drop,WM A (o+j) W (by omega)];rw [List.getElem?_take_of_lt aC,List.getElem?_drop] at aA;by_cases bP:q<j
   . rw [if_pos (by omega),if_pos bP,aA]
   . rw [if_neg (by omega),if_neg bP];by_cases bX:q<j+W.length
     . rw [if_pos (by omega),if_pos bX];congr 1;omega
     . rw [if_neg (by omega),if_neg bX,aA]
 . rw [List.getElem?_take_eq_none (by omega),if_neg (by omega),if_neg (by omega),List.getElem?_eq_none (by omega)]
theorem D' {B:Nat} {h:ah} {size:Nat} {s x:V} {n m:Nat} {us ai:List V} (cq:1<=size) (H1:cJ B h size s n us) (cp:fG h size x m ai) (da:B<=h.next) (hlen:(n+m) * size<=top) (a6:eI ai=true):
 ∃v ab,ij size s x h=.val v ab/\cJ B ab size v (n+m) (us++ai)/\Mod s.aN h ab/\∀b,v.aN b->s.aN b\/h.next<=cB b:=by
 have mr:n+m<=top:=Nat.le_trans (Nat.le_mul_of_pos_right _ cq) hlen;have mn:=H1.1;have ir:=cp.1;have fz:(us++ai).length=(n+m) * size:=by rw [List.length_append,mn,ir,Nat.add_mul]
 rw [Zr cp (by omega)];have ad:=H1.2;cases s<;>simp only at ad ⊢<;>try (exact ad.elim)
 case bB=>
  subst ad;have:us=[]:=List.eq_nil_of_length_eq_zero (by omega);subst this;unfold vw;by_cases hm:m=0
  . subst hm;have:ai=[]:=List.eq_nil_of_length_eq_zero (by omega);subst this;exact ⟨.bB,h,rfl,⟨by simp,rfl⟩,Mod.refl _ _,fun b ae=>.inl ae⟩
  . rw [show Nat.beq m 0=false from by rw [<-Bool.not_eq_true,Nat.beq_eq];exact hm];simp only [cond_false];rw [CA (by rw [ir];simpa using hlen) cq];refine ⟨_,_,rfl,?_,(Mod.refl _ _).new _,fun b ae=>.inr (by rw [show b=aj h.next from ae,b9];exact Nat.le_refl _)⟩;have:=cJ.grown (B:=B) (h:=h) (size:=size) (ai:=ai) (n:=m) (st:=false) ir da;simpa using this
 case slice b off len cap=>
  obtain ⟨rfl,aw,aK,bY,ek,jw,cQ,st,fk,h3,jt⟩:=ad;unfold x8;by_cases aD:len+m<=cap
  . rw [show Nat.ble (len+m) cap=true from by rw [Nat.ble_eq];exact aD];simp only [cond_true];have ff:off+len * size+ai.length<=jw.length:=by
     have:=Nat.mul_le_mul_right size aD;rw [Nat.add_mul] at this;rw [ir];omega
    rw [Own.lay (ai:=jw) (cQ:=cQ) (st:=st) fk ff a6];refine ⟨_,_,rfl,⟨fz,rfl,aw,aK,aD,ek,_,cQ,st,dC _ _ _ |>.trans (if_pos rfl),?_,?_⟩,(Mod.refl (V.aN (.slice b off len cap)) h).set (fun _=>rfl) _,fun bL ae=>.inl ae⟩
    . rw [MW _ _ _ ff];exact h3
    . rw [List.length_append];unfold j3;have ey:off+us.length<=jw.length:=by rw [mn];omega
      have aP:jw.take (off+len * size)=jw.take off++us:=by rw [<-mn,List.take_add,jt]
      rw [aP,List.append_assoc,List.append_assoc,List.drop_append,List.drop_eq_nil_of_le (by rw [List.length_take];omega),List.nil_append];rw [show off - (jw.take off).length=0 from by rw [List.length_take];omega,List.drop_zero];rw [<-List.append_assoc,List.take_left' (by rw [List.length_append])]
  . rw [show Nat.ble (len+m) cap=false from by rw [<-Bool.not_eq_true,Nat.ble_eq];exact aD];simp only [cond_false];rw [show (Nat.ble (len+m) top&&Nat.ble cap top)=true from by simp only [Bool.and_eq_true,Nat.ble_eq];exact ⟨mr,ek⟩];simp only [cond_true];have JV:jB h b off us:=⟨aK,jw,.inr ⟨cQ,st,fk⟩,by rw [mn];have:=Nat.mul_le_mul_right size bY;omega,jt⟩;rw [MX JV mn];simp only;rw [CA (by rw [fz];exact hlen) cq];exact ⟨_,_,rfl,cJ.grown fz da,(Mod.refl _ _).new _,fun b ae=>.inr (by rw [show b=aj h.next from ae,b9];exact Nat.le_refl _)⟩
 case dY b off len idx=>
  obtain ⟨rfl,aw,aK,rfl,rfl,jw,st,fk,h3,jt⟩:=ad;unfold x7;by_cases hm:m=0
  . subst hm;have:ai=[]:=List.eq_nil_of_length_eq_zero (by omega);subst this;exact ⟨_,h,rfl,⟨fz,rfl,aw,aK,rfl,rfl,jw,st,fk,by simpa using h3,by simpa using jt⟩,Mod.refl _ _,fun b ae=>.inl ae⟩
  . rw [show Nat.beq m 0=false from by rw [<-Bool.not_eq_true,Nat.beq_eq];exact hm];simp only [cond_false];rw [fk];simp only [cd.bE,cd.on];rw [show (Nat.beq size size&&(Nat.ble (len+m) top&&eI ai)&&Nat.beq 0 (0 * size))=true from by
     simp only [Bool.and_eq_true,Nat.beq_eq,Nat.ble_eq];exact ⟨⟨trivial,mr,a6⟩,by omega⟩]
    simp only [cond_true];have JV:jB h b 0 us:=⟨aK,jw,.inr ⟨size,st,fk⟩,by omega,by simpa using jt⟩;rw [MX JV mn];simp only;rw [CA (by rw [fz];exact hlen) cq];exact ⟨_,_,rfl,cJ.grown (h:=h.set b .dead) fz da,((Mod.refl (V.aN (.dY b 0 len 0)) h).set (fun _=>rfl) _).new _,fun bL ae=>.inr (by rw [show bL=aj h.next from ae,b9];exact Nat.le_refl _)⟩
theorem ale {ai ws:List V} (aa:eI ai=true) (ad:eI ws=true):eI (ai++ws)=true:=by
 induction ai with
 | nil=>exact ad
 | cons v ai bq=>
   simp only [eI,Bool.and_eq_true,List.cons_append] at aa ⊢;exact ⟨aa.1,bq aa.2⟩
def V.at (v:V) (b:aQ) (off:Nat):Prop:=
 match v with
 | .slice bL o _ _=>b=bL/\off=o
 | .dY bL o _ _=>b=bL/\off=o
 | _=>False
theorem O8 {h:ah} {size:Nat} {v:V} {n:Nat} {ai:List V} (H:fG h size v n ai) {k:IntKind} {i:Nat} (ao:i<n) {b:aQ} {off:Nat} (e:ka size v (.int k i)=some (.ptr b (off+i * size))):v.at b off:=by
 have cp:=H.2;cases v<;>simp only at cp<;>first | omega | (exact cp.elim) | skip
 . obtain ⟨rfl,_⟩:=cp;rw [zh,if_pos (by omega)] at e;simp only [Option.some.injEq,V.ptr.injEq,Int.toNat_natCast] at e;exact ⟨e.1.symm,by omega⟩
 . obtain ⟨rfl,_⟩:=cp;rw [FR,if_pos (by omega)] at e;simp only [Option.some.injEq,V.ptr.injEq,Int.toNat_natCast] at e;exact ⟨e.1.symm,by omega⟩
theorem WO (ai:List V) (c:Nat) (y:V) (h:c<ai.length):j3 ai c [y]=ai.set c y:=by unfold j3;rw [List.set_eq_take_append_cons_drop,if_pos h];simp
theorem cJ.VN {B:Nat} {h:ah} {size:Nat} {v:V} {n:Nat} {ai:List V} (H:cJ B h size v n ai) {b:aQ} {off:Nat} (a1:v.at b off) {c:Nat} (aD:c<ai.length) {y:V} (aZ:y.cells=[y]) (a6:y.one=true):
 ∃k,qh 1 h b (off+c) y (h.get b)=some (h.set b k)/\(∀fb:ah,fb.get b=h.get b->qh 1 fb b (off+c) y (h.get b)=some (fb.set b k))/\cJ B (h.set b k) size v n (ai.set c y)/\v.aN b:=by
 obtain ⟨aa,ad⟩:=H;have hp:eI y.cells=true:=by rw [aZ];simp [eI,a6]
 cases v<;>simp only at ad<;>simp only [V.at] at a1<;>try (exact a1.elim)
 case slice bL o len cap=>
  obtain ⟨rfl,rfl⟩:=a1;obtain ⟨rfl,aw,aK,bY,ek,jw,cQ,st,fk,h3,jt⟩:=ad;have o7:=Nat.mul_le_mul_right size bY;have ff:off+c+y.cells.length<=jw.length:=by rw [aZ];simp;omega
  have e:∀fb:ah,fb.get b=h.get b->qh 1 fb b (off+c) y (h.get b)=some (fb.set b (.bE (nK jw (off+c) y.cells) cQ st)):=by intro fb _;rw [fk];exact Lo (by rw [aZ];rfl) hp (by rw [aZ] at ff;simpa using ff)
  refine ⟨_,e h rfl,e,⟨by simpa using aa,rfl,aw,aK,bY,ek,_,cQ,st,dC _ _ _ |>.trans (if_pos rfl),?_,?_⟩,rfl⟩
  . rw [MV _ _ _ ff];exact h3
  . rw [z1 _ _ _ ff,List.length_set];have:=WN jw off c ai y.cells (by rw [aa];omega) jt (by rw [aZ];simp;omega);rw [this,aZ,WO ai c y aD]
 case dY bL o len idx=>
  obtain ⟨rfl,rfl⟩:=a1;obtain ⟨rfl,aw,aK,rfl,rfl,jw,st,fk,h3,jt⟩:=ad;have ff:0+c+y.cells.length<=jw.length:=by rw [aZ];simp;omega
  have e:∀fb:ah,fb.get b=h.get b->qh 1 fb b (0+c) y (h.get b)=some (fb.set b (.bE (nK jw (0+c) y.cells) size st)):=by intro fb _;rw [fk];exact Lo (by rw [aZ];rfl) hp (by rw [aZ] at ff;simpa using ff)
  refine ⟨_,e h rfl,e,⟨by simpa using aa,rfl,aw,aK,rfl,rfl,_,st,dC _ _ _ |>.trans (if_pos rfl),?_,?_⟩,rfl⟩
  . rw [MV _ _ _ ff,List.length_set];exact h3
  . rw [z1 _ _ _ ff,List.length_set];have:=WN jw 0 c ai y.cells (by omega) (by simpa using jt) (by rw [aZ];simp;omega);rw [List.drop_zero] at this;rw [this,aZ,WO ai c y aD]
theorem alj (r:bc):aX.opt r none=none:=(rfl)
theorem alk (r:bc) (x:aX):aX.opt r (some x)=some (x.aT r):=(rfl)
theorem qP {k:IntKind} {m d y:Nat} (h:m<=y):bound (some (.int k (m:Int))) d y=some m:=by simp only [bound,V.ep,oz];rw [show (decide ((0:Int)<=(m:Int))&&decide ((m:Int)<=(y:Int)))=true from by simp;omega];simp
theorem sa (d y:Nat):bound none d y=some d:=rfl
theorem fG.cut {h:ah} {size:Nat} {v:V} {n:Nat} {ai:List V} (H:fG h size v n ai) {k bg:IntKind} {bC ao:Nat} (aa:bC<=ao) (ad:ao<=n) (wY wv:Option V)
 (ey:wY=some (.int k bC)\/wY=none/\bC=0) (jm:wv=some (.int bg ao)\/wv=none/\ao=n) (lK:∀b off l c,v=.slice b off l c->l<=c):
 ∃dd,hg size v wY wv none=some dd/\fG h size dd (ao-bC) ((ai.drop (bC * size)).take ((ao-bC) * size))/\∀b,dd.aN b->v.aN b:=by
 obtain ⟨ar,aw⟩:=H;have fz:((ai.drop (bC * size)).take ((ao-bC) * size)).length=(ao-bC) * size:=by rw [List.length_take,List.length_drop,ar];have aP:=Nat.mul_le_mul_right size aa;have bf:=Nat.mul_le_mul_right size ad;rw [Nat.sub_mul];omega
 have vD:∀y,bC<=y->bound wY 0 y=some bC:=by
  intro y aZ;rcases ey with rfl | ⟨rfl,rfl⟩
  . exact qP aZ
  . rfl
 have AY:∀d y,n=d->n<=y->bound wv d y=some ao:=by
  intro d y bb aZ;rcases jm with rfl | ⟨rfl,rfl⟩
  . exact qP (by omega)
  . rw [sa,bb]
 have piece:∀(b:aQ) (off:Nat),jB h b off ai->jB h b (off+bC * size) ((ai.drop (bC * size)).take ((ao-bC) * size)):=by
  rintro b off ⟨bZ,us,a2,a3,a4⟩;have aP:=Nat.mul_le_mul_right size aa;have bf:=Nat.mul_le_mul_right size ad;refine ⟨bZ,us,a2,?_,?_⟩
  . rw [fz,Nat.sub_mul];omega
  . rw [fz,<-List.drop_drop];have:(us.drop off).drop (bC * size)=(((us.drop off).take ai.length).drop (bC * size))++(us.drop off).drop ai.length:=by
     rw [<-List.drop_append_of_le_length (by rw [List.length_take,List.length_drop];omega),List.take_append_drop]
    rw [this,a4,List.take_append_of_le_length (by rw [List.length_drop,ar,Nat.sub_mul];omega)]
 cases v<;>simp only at aw<;>try (exact aw.elim)
 case bB=>
  subst aw;obtain rfl:ao=0:=by omega
  obtain rfl:bC=0:=by omega
  refine ⟨.bB,?_,⟨fz,rfl⟩,fun b ae=>ae⟩;simp only [hg,xq,AY 0 0 rfl (Nat.le_refl _),vD 0 (Nat.le_refl _)]
 case slice b off len cap=>
  obtain ⟨rfl,aK⟩:=aw;have aD:=lK b off len cap rfl;have e:hg size (.slice b off len cap) wY wv none=some (.slice b (bif Nat.beq cap bC then off else off+bC * size) (ao-bC) (cap-bC)):=by simp only [hg,s_,AY len cap rfl aD,vD ao aa]
  rw [e];refine ⟨_,rfl,⟨fz,rfl,?_⟩,fun bL ae=>ae⟩;cases ae:Nat.beq cap bC with
  | false=>exact piece b off aK
  | true=>
    rw [Nat.beq_eq] at ae;obtain rfl:ao=bC:=by omega
    obtain ⟨bZ,us,a2,a3,a4⟩:=aK;refine ⟨bZ,us,a2,?_,?_⟩<;>simp;omega
 case dY b off len idx=>
  obtain ⟨rfl,aK⟩:=aw;by_cases aO:bC<len
  . have e:hg size (.dY b off len idx) wY wv none=some (.dY b (off+bC * size) (ao-bC) (idx+bC)):=by
     simp only [hg,qB,AY len len rfl (Nat.le_refl _),vD ao aa];rw [show Nat.blt bC len=true from by rw [Nat.blt_eq];exact aO];rfl
    rw [e];exact ⟨_,rfl,⟨fz,rfl,piece b off aK⟩,fun bL ae=>ae⟩
  . have e:hg size (.dY b off len idx) wY wv none=some (.hP b off (off+bC * size) (idx+bC)):=by
     simp only [hg,qB,AY len len rfl (Nat.le_refl _),vD ao aa];rw [show Nat.blt bC len=false from by rw [<-Bool.not_eq_true,Nat.blt_eq];exact aO];rfl
    rw [e];exact ⟨_,rfl,⟨fz,by omega⟩,fun bL ae=>ae.elim⟩
 case hP b off lp idx=>
  subst aw;obtain rfl:ao=0:=by omega
  obtain rfl:bC=0:=by omega
  refine ⟨.hP b off lp idx,?_,⟨fz,rfl⟩,fun b ae=>ae⟩;simp only [hg,C4,AY 0 0 rfl (Nat.le_refl _),vD 0 (Nat.le_refl _)]
theorem cJ.cut {B:Nat} {h:ah} {size:Nat} {v:V} {n:Nat} {ai:List V} (H:cJ B h size v n ai) {k:IntKind} {m:Nat} (hm:m<=n) (aV:1<=n):
 ∃dd,hg size v none (some (.int k m)) none=some dd/\cJ B h size dd m (ai.take (m * size))/\∀b,dd.aN b->v.aN b:=by
 obtain ⟨ar,aw⟩:=H;have p6:=Nat.mul_le_mul_right size hm;have fz:(ai.take (m * size)).length=m * size:=by rw [List.length_take];omega
 cases v<;>simp only at aw<;>try (first | omega | exact aw.elim)
 case slice b off len cap=>
  obtain ⟨rfl,aK,bY,ek,fk,us,cQ,st,h3,jt,Mo⟩:=aw;have e:hg size (.slice b off len cap) none (some (.int k m)) none=some (.slice b off m cap):=by simp only [hg,s_,qP (show m<=cap by omega),sa];cases Nat.beq cap 0<;>simp
  rw [e];refine ⟨_,rfl,⟨fz,rfl,aK,bY,by omega,fk,us,cQ,st,h3,jt,?_⟩,fun bL ae=>ae⟩;rw [fz,<-Mo,List.take_take];congr 1;omega
 case dY b off len idx=>
  obtain ⟨rfl,aK,bY,rfl,rfl,us,st,h3,jt,Mo⟩:=aw;have e:hg size (.dY b 0 len 0) none (some (.int k m)) none=some (.dY b 0 m 0):=by simp only [hg,qB,qP hm,sa];rw [show Nat.blt 0 len=true from by rw [Nat.blt_eq];omega];simp
  rw [e];refine ⟨_,rfl,⟨fz,rfl,aK,bY,rfl,rfl,us,st,h3,by omega,?_⟩,fun bL ae=>ae⟩;rw [fz,<-Mo,List.take_take];congr 1;omega
theorem akB (b:aQ) (o:Nat):uD (.ptr b o)=some (.ptr b o):=rfl
theorem aki (k bg:IntKind) (a b:Int):kU (fun b a=>!Int.leB a b) [.int k a,.int bg b]=some (.int k (if b<a then b else a)):=by
 simp only [kU,xd,V.ep,oz];by_cases h:b<a
 . rw [if_pos h];have:¬a<=b:=by omega
   simp [this]
 . rw [if_neg h];have:a<=b:=by omega
   simp [this]
theorem akk (k bg:IntKind) (a b:Int):kU (fun b a=>!Int.leB b a) [.int k a,.int bg b]=some (.int k (if a<b then b else a)):=by
 simp only [kU,xd,V.ep,oz];by_cases h:a<b
 . rw [if_pos h];have:¬b<=a:=by omega
   simp [this]
 . rw [if_neg h];have:b<=a:=by omega
   simp [this]
theorem jB.cell {h:ah} {b:aQ} {off:Nat} {ai:List V} (H:jB h b off ai) {i j n:Nat} {ws:List V} (hw:(ai.drop i).take n=ws) (ao:i+n<=ai.length) (aU:j<n):ia (h.get b) (off+i+j)=ws[j]? :=by rw [Nat.add_assoc,H.d' (by omega),<-hw,List.getElem?_take_of_lt aU,List.getElem?_drop,List.getElem?_eq_getElem]
end
section
open Go Go.RowKit Go.ChangeShapes Go.WideShapes
variable [Lay]
section
variable {H:Type} {enc:TypeId × Value->H} {P:Program}
end
end
section
open Go Go.RowKit
variable [Lay]
theorem bd.below {ay:Fr} {E:Env} {h:ah} {w an:World} (s:bd ay E h w) (ae:Below w.heap.size w an):bd ay E h an:=by
 have cq:ay.w.heap.size<=w.heap.size:=s.frame.size;have hE:∀(k:Nat) (o:Obj),w.heap[k]? =some o->an.heap[k]? =some o:=by
  intro k o aH;rw [ae.block k,aH];by_cases aO:k<w.heap.size
  . exact aO
  . rw [Array.getElem?_eq_none (by omega)] at aH;cases aH
 refine ⟨fun b af=>?_,s.qt,s.inj,s.fresh,s.frame.trans (ae.mono cq),s.laid,s.base⟩;have:=s.aN b af;cases aH:h.get b<;>rw [aH] at this<;>simp only [hR] at this ⊢
 . obtain ⟨ar,p,c,el,b5,aw,aK,bY,ek⟩:=this;exact ⟨ar,p,c,el,b5,aw,aK,hE _ _ bY,ek⟩
 . obtain ⟨ar,p,c,el,b5,aw,aK,bY,ek⟩:=this;exact ⟨ar,p,c,el,b5,aw,aK,hE _ _ bY,ek⟩
 . obtain ⟨p,ar,aw,aK,bY⟩:=this;exact ⟨p,ar,aw,aK,hE _ _ bY⟩
 . obtain ⟨p,a,ar,aw,aK,bY⟩:=this;exact ⟨p,a,ar,aw,hE _ _ aK,bY⟩
 . obtain ⟨p,o,ar,aw,aK,bY⟩:=this;exact ⟨p,o,ar,aw,hE _ _ aK,bY⟩
 . obtain ⟨p,ar,aw,aK⟩:=this;exact ⟨p,ar,aw,hE _ _ aK⟩
 . obtain ⟨p,a,c,l,ar,aw,aK,bY⟩:=this;exact ⟨p,a,c,l,ar,aw,hE _ _ aK,bY⟩
 . obtain ⟨p,m,a,ar,aw,aK,bY,ek⟩:=this;exact ⟨p,m,a,ar,aw,aK,hE _ _ bY,ek⟩
theorem ai_ {P:Program} {f:FuncId} {args:List V} {v:V} {h:ah} (H:∀E xs w,Lay.ok w->bk E args xs->Calls P f xs.toArray w fun e an=>∃x,e=.returned x/\Rel E v x/\Below w.heap.size w an)
 (ay:Fr) (E:Env) (w:World) (xs:List Value) (ak:bk E args xs) (s:bd ay E h w):Calls P f xs.toArray w fun e an=>∃ax x,e=.returned x/\E.le ax/\Rel ax v x/\bd ay ax h an:=by
 refine (H E xs w (Lay.hE s.laid s.frame) ak).mono fun e an q=>?_;obtain ⟨x,rfl,bj,ae⟩:=q;exact ⟨E,x,rfl,Env.le.refl E,bj,s.below ae⟩
theorem acW {P:Program} {f:FuncId} {fn:Func} {e:Array Value->Sem Value} (az:P.funcs[f]? =some fn) (aV:(fn.name == "runtime.NumGoroutine")=false) (ae:fn.body.isNone=true) (aa:Extern.findNext fn=none) (ad:Extern.find fn=some e)
 {xs:Array Value} {x:Value} {w:World} (aE:(e xs).run P w=.ok x w):(callFunc f xs).run P w=.ok (.value x) w:=by
 simp only [callFunc,Sem.run_bind,run_program,Result.andThen_ok,az];rw [if_neg (by rw [aV];simp),if_pos ae];simp only [Sem.run_bind,aa,ad];have hm:(mark (.extern f)).run P w=.ok () w:=rfl;rw [hm];simp only [Result.andThen_ok,aE,Sem.run_pure]
def Cd (c:Nat):List UInt8->Nat->Int
 | [],_=>-1
 | b::l,i=>bif Nat.beq b.toNat c then .ofNat i else Cd c l (i+1)
theorem TI (c:Nat) (aD:c<256):∀(l:List UInt8) (i:Nat),Cd c l i=if Lib.indexByte l c.toUInt8=-1 then -1 else Lib.indexByte l c.toUInt8+i
 | [],i=>by simp [Cd,Lib.indexByte]
 | b::l,i=>by
   have jl:=Lib.indexByte_ge l c.toUInt8;have ub:(b.toNat=c)↔(b == c.toUInt8)=true:=by
    rw [beq_iff_eq,<-UInt8.toNat_inj];have:c.toUInt8.toNat=c:=by show c % 256=c;omega
    rw [this]
   have e:Lib.indexByte (b::l) c.toUInt8=if (b == c.toUInt8)=true then 0 else if (Lib.indexByte l c.toUInt8 == -1)=true then -1 else Lib.indexByte l c.toUInt8+1:=rfl;simp only [Cd,TI c aD l (i+1),im];by_cases h:b.toNat=c
   . rw [if_pos (ub.1 h)] at e;rw [if_pos h,e];simp
   . rw [if_neg (fun e=>h (ub.2 e))] at e;rw [if_neg h];by_cases ad:Lib.indexByte l c.toUInt8=-1
     . rw [ad] at e;simp only [beq_self_eq_true,if_true] at e;simp [ad,e]
     . have aJ:(Lib.indexByte l c.toUInt8 == -1)=false:=by simpa using ad
       rw [aJ] at e;simp only [Bool.false_eq_true,if_false] at e;rw [if_neg ad,e,if_neg (by omega)];omega
def preB:List UInt8->List UInt8->Bool
 | [],_=>true
 | _::_,[]=>false
 | a::x,b::y=>bif Nat.beq a.toNat b.toNat then preB x y else false
theorem Me:∀(x y:List UInt8),preB x y=x.isPrefixOf y
 | [],y=>by cases y<;>rfl
 | _::_,[]=>rfl
 | a::x,b::y=>by
   simp only [preB,List.isPrefixOf,im,Me x y];by_cases h:a.toNat=b.toNat
   . have:a=b:=UInt8.toNat_inj.1 h;subst this;simp
   . have:(a == b)=false:=by
      rw [beq_eq_false_iff_ne];exact fun e=>h (by rw [e])
     rw [if_neg h,this];rfl
def hasB:List UInt8->List UInt8->Bool
 | [],sub=>preB sub []
 | b::l,sub=>bif preB sub (b::l) then true else hasB l sub
theorem Si:∀(s sub:List UInt8),hasB s sub=Lib.contains s sub
 | [],sub=>by simp only [hasB,Me,Lib.contains,Lib.index];cases sub<;>simp
 | b::l,sub=>by
   simp only [hasB,Me];have bq:=Si l sub;unfold Lib.contains at bq ⊢;unfold Lib.index;cases h:sub.isPrefixOf (b::l) with
   | true=>simp
   | false=>
     simp only [cond_false,Bool.false_eq_true,if_false,bq];have jl:=Lib.index_ge l sub;cases ad:(Lib.index l sub == -1) with
     | true=>
       have:Lib.index l sub=-1:=by simpa using ad
       simp [this]
     | false=>
       have:Lib.index l sub≠-1:=by simpa using ad
       simp only [Bool.false_eq_true,if_false];rw [Bool.eq_iff_iff,decide_eq_true_eq,decide_eq_true_eq];omega
def I3:x1:=⟨fun args h=>match args with
 | [x,y]=>(match x with
   | .str s=>(match y with
     | .str sub=>bif Nat.ble s.length 100000 then .val (.bool (hasB s sub)) h else .fail
     | _=>.fail)
   | _=>.fail)
 | _=>.fail⟩
theorem abT {args:List V} {h ab:ah} {v:V} (he:I3.run args h=.val v ab):∃s sub,args=[.str s,.str sub]/\s.length<=100000/\v=.bool (Lib.contains s sub)/\ab=h:=by
 simp only [I3] at he
 split at he
 case h_2=>cases he
 split at he
 case h_2=>cases he
 split at he
 case h_2=>cases he
 obtain ⟨aD,aa⟩:=jJ he;simp only [a7.val.injEq] at aa;obtain ⟨rfl,rfl⟩:=aa;exact ⟨_,_,rfl,Nat.le_of_ble_eq_true aD,by rw [Si],rfl⟩
def FW:x1:=⟨fun args h=>match args with
 | [x,y]=>(match x with
   | .str s=>(match y with
     | .int k c=>bif pS k .u8&&(Int.leB 0 c&&Nat.blt c.toNat 256) then .val (.int .i64 (Cd c.toNat s 0)) h else .fail
     | _=>.fail)
   | _=>.fail)
 | _=>.fail⟩
theorem agG {args:List V} {h ab:ah} {v:V} (he:FW.run args h=.val v ab):∃s c,args=[.str s,.int .u8 c]/\v=.int .i64 (Lib.indexByte s c.toNat.toUInt8)/\ab=h:=by
 simp only [FW] at he
 split at he
 case h_2=>cases he
 split at he
 case h_2=>cases he
 split at he
 case h_2=>cases he
 rename_i s _ k c;obtain ⟨aD,aa⟩:=jJ he;simp only [Bool.and_eq_true,Nat.blt_eq] at aD;have aH:=tS aD.1;subst aH;simp only [a7.val.injEq] at aa;obtain ⟨rfl,rfl⟩:=aa;refine ⟨s,c,rfl,?_,rfl⟩;rw [TI _ aD.2.2];by_cases h:Lib.indexByte s c.toNat.toUInt8=-1
 . rw [if_pos h,h]
 . rw [if_neg h];simp
theorem agF {P:Program} {f:FuncId} {fn:Func} (az:P.funcs[f]? =some fn) (aV:(fn.name == "runtime.NumGoroutine")=false) (ae:fn.body.isNone=true) (aa:Extern.findNext fn=none) (ad:Extern.find fn=some Extern.BytealgIndexByte.indexByte)
 {args:List V} {h ab:ah} {v:V} (he:FW.run args h=.val v ab) (ay:Fr) (E:Env) (w:World) (xs:List Value) (ak:bk E args xs) (s:bd ay E h w):
 ∃ax x an,(callFunc f xs.toArray).run P w=.ok (.value x) an/\E.le ax/\Rel ax v x/\bd ay ax ab an:=by
 obtain ⟨t,c,rfl,rfl,rfl⟩:=agG he;obtain ⟨y,cV,rfl,ar,z,fv,rfl,aw,rfl⟩:=ak;simp only [Rel] at ar aw;subst ar aw;exact ⟨E,_,w,acW az aV ae aa ad (Lib.run_indexByteString _ _ _),Env.le.refl E,by simp [Rel],s⟩
theorem amm {H:Type} {enc:TypeId × Value->H} {a:Assume} {C:Checked} {os:Os} {f:FuncId} {fn:Func} {s:ChangeSpec} {conds:List PathCond} {apart fresh handsOn again:Bool} {X:World->Array Value->Prop}
 (b4:∀(w an:World) (args:Array Value),w.heap=an.heap->X w args->X an args)
 (own:ownKnob C.prog.godebug=none) (started:os.Started) (akF:C.prog.inits.idxOf? f=none) (jQ:C.prog.funcs[f]? =some fn)
 (witness:∃(w:World) (tape:Tape) (i:Input),w.os=os/\(w.forCall tape i).Shaped C.prog/\i.vars=[]/\Input.okWide C.prog (w.forCall tape i) .any w.heap.size f i/\
   ((s.pre enc C.prog fn conds apart (w.forCall tape i).memory i.args/\X (w.forCall tape i).memory i.args)/\sizedMet enc C.prog fn (OpenSpec.ofChange s) apart (w.forCall tape i).memory i.args)/\a.holds C.prog (lone (Frame.enter C.prog f i.args .normal) [] (w.forCall tape i)))
 (abW:∀(W:World) (base:Nat) (args:Array Value) (ds gs:List (DataW H)) (before:List MemPlace),
   (∀(j:Nat) t v,fn.params[j]? =some t->args[j]? =some v->Value.okWide C.prog W .any base t v)->
   DataW.Whole enc C.prog fn.params.toList s.vars apart W args.toList ds gs before->
   X W args->W.ShapedOpen C.prog->
   Calls C.prog f args W fun e jg=>∃v,e=.returned v/\s.post enc C.prog fn apart fresh handsOn again W args v jg):
 ReturnsInHanded a C os f .any (fun w args=>(s.pre enc C.prog fn conds apart w args/\X w args)/\sizedMet enc C.prog fn (OpenSpec.ofChange s) apart w args) (s.post enc C.prog fn apart fresh handsOn again):=by
 refine returnsInHanded_of_calls own started akF witness ?_;intro w tape i _ rh _ bK pb apM;obtain ⟨_,_,_,Jw,aeN,_,_,_,_,B0⟩:=bK;have e:Jw=fn:=Option.some.inj (aeN.symm.trans jQ);subst e;obtain ⟨⟨⟨ds,gs,before,hw,aD⟩,ak⟩,bn⟩:=pb;have B2:=DataW.Whole.of_heap (w':=w.forCall tape i) (by rfl) hw;refine (abW (w.forCall tape i) w.heap.size i.args ds gs before B0 B2 (b4 _ _ _ (by rfl) ak) rh).mono fun e jg ⟨v,he,af⟩=>?_;subst he;exact ChangeSpec.post_blind af
theorem abM {P:Program} {f:FuncId} (aZ:Nat.beq f dy=false) {v:V} (bj:∀E x,x=.bool true->Rel E v x) (jQ:∃fn,P.funcs[f]? =some fn/\fn.body.isSome=true) (H:∀w,Lay.ok w->Calls P f #[] w fun e an=>e=.returned (.bool true)/\Below w.heap.size w an) (h:ah):
 gu P f [] h v h:=by
 refine ⟨fun e=>by subst e;simp at aZ,.inl ⟨jQ,fun ay E w xs ak s=>?_⟩⟩;simp only [bk] at ak;subst ak;refine (H w (Lay.hE s.laid s.frame)).mono fun e an q=>?_;obtain ⟨rfl,ae⟩:=q;exact ⟨E,_,rfl,fun _ _ q=>q,bj E _ rfl,s.below ae⟩
def rQ (E:Env) (h:ah) (p:jH):Env:=fun b=>if b=aj h.next then some p else E b
theorem Xu (E:Env) (h:ah) (p:jH):rQ E h p (aj h.next)=some p:=if_pos rfl
theorem Nt {ay:Fr} {E:Env} {h:ah} {w:World} (s:bd ay E h w) (p:jH):E.le (rQ E h p):=fun b q aC=>by unfold rQ;rw [if_neg (fun e=>by rw [e,s.fresh _ (Nat.le_refl _)] at aC;cases aC)];exact aC
theorem amZ {W:World} {E:Env} {h:ah} (s:bd ⟨W,fun _=>none⟩ E h W) (p:jH) (k:cd) (a6:k.own=false) (aH:hR W.heap.size (rQ E h p) W (aj h.next) k):
 bd ⟨W,fun _=>none⟩ (rQ E h p) (h.new k) W:=by
 refine ⟨fun b _=>?_,fun _ _ h=>(by cases h),fun b bL q dV aa ad aP bf aC=>?_,fun i ao=>?_,s.frame,s.laid,fun b q n cs st aa aP=>by
  rw [iE] at aa;by_cases bP:aj h.next=b
  . rw [if_pos bP] at aa;rw [aa] at a6;cases a6
  . rw [if_neg bP] at aa;unfold rQ at aP;rw [if_neg (fun e=>bP e.symm)] at aP;exact s.base _ _ _ _ _ aa aP⟩
 . rw [iE];by_cases e:aj h.next=b
   . subst e;rw [if_pos rfl];exact aH
   . rw [if_neg e];exact (s.aN b rfl).mono (Nt s p)
 . rw [iE] at aa ad;by_cases bP:aj h.next=b
   . rw [if_pos bP,a6] at aa;cases aa
   . by_cases bX:aj h.next=bL
     . rw [if_pos bX,a6] at ad;cases ad
     . rw [if_neg bP] at aa;rw [if_neg bX] at ad;unfold rQ at aP bf;rw [if_neg (fun e=>bP e.symm)] at aP;rw [if_neg (fun e=>bX e.symm)] at bf;exact s.inj b bL q dV aa ad aP bf aC
 . rw [gk] at ao;unfold rQ;rw [if_neg (fun e=>by have:=fj e;omega)];exact s.fresh i (by omega)
theorem am0 {W:World} {E:Env} {h:ah} (s:bd ⟨W,fun _=>none⟩ E h W) {k base cap:Nat} {c:Array Value} {el:TypeId} {b5:Nat × Nat} (aH:W.heap[k]? =some (.cells c el b5)) {ai:List V}
 (aD:base+ai.length<=c.size) (aE:∀i v y,ai[i]? =some v->c[base+i]? =some y->Rel E v y):
 bd ⟨W,fun _=>none⟩ (rQ E h ⟨k,base,cap⟩) (h.new (.ro ai)) W:=by
 refine amZ s _ _ rfl ?_;have aO:k<W.heap.size:=by
  by_cases aO:k<W.heap.size
  . exact aO
  . rw [Array.getElem?_eq_none (by omega)] at aH;cases aH
 refine ⟨trivial,⟨k,base,cap⟩,c,el,b5,Xu _ _ _,aO,aH,aD,fun i y ao aZ=>?_⟩;have:T.get .bad (aj i) (fC .e 0 ai)=ai[i]:=by have:=EW ai 0 i .e;rw [Nat.zero_add] at this;rw [this,if_pos ao,List.getElem?_eq_getElem ao];rfl
 rw [this];exact Rel.mono (Nt s _) _ _ (aE i _ y (List.getElem?_eq_getElem ao) aZ)
end
section
open Go Go.RowKit
variable [Lay]
section
variable (P:Program)
def Aa:List Field->Nat->Option Nat
 | [],o=>some o
 | f::cx,o=>if f.offset=o then Aa cx (o+P.cellsOf f.type) else none
def xy:Bool:=(List.range P.types.size).all fun t=>match P.underlying t with
 | some (.struct cx)=>decide (Aa P cx.toList 0=some (P.cellsOf t))
 | _=>true
def eV (h:ah):Nat->Nat->TypeId->List V->Prop
 | 0,_,_,_=>False
 | n+1,m,t,ai=>match P.underlying t with
   | some .bool=>∃b,ai=[.bool b]
   | some (.int k)=>∃i,ai=[.int k i]/\(Lit.int k i).wf=true
   | some .string=>∃s:List UInt8,ai=[.str s]/\s.length+1<=m
   | some (.slice e)=>1<=m/\(ai=[.bB]\/(∃b i j k,ai=[.hP b i j k])\/P.cellsOf e=0\/
      ∃b len cap,ai=[.slice b 0 len cap]/\0<len/\len<=cap/\Old h b/\∃us,Rd h b us/\us.length=len * P.cellsOf e/\∃ms:List Nat,ms.length=len/\ms.sum+1<=m/\
       ∀(i k:Nat),ms[i]? =some k->1<=k/\eV h n k e ((us.drop (i * P.cellsOf e)).take (P.cellsOf e)))
   | some (.struct cx)=>ai.length=P.cellsOf t/\∃ms:List Nat,ms.length=cx.toList.length/\ms.sum+1<=m/\∀(i:Nat) (f:Field) (k:Nat),cx.toList[i]? =some f->ms[i]? =some k->1<=k/\eV h n k f.type ((ai.drop f.offset).take (P.cellsOf f.type))
   | some (.pointer e)=>1<=m/\(ai=[.ee]\/P.cellsOf e=0\/∃b,ai=[.ptr b 0]/\Old h b/\∃us,Rd h b us/\us.length=P.cellsOf e/\∃k,k+1<=m/\eV h n k e us)
   | some (.map _ _)=>ai=[.jX]\/ai=[.bad]
   | some (.interface _)=>ai=[.nilIface]\/ai=[.bad]
   | _=>True
end
theorem eV.ext {P:Program} {h ab:ah} (e:Ext h ab):∀(n m:Nat) (t:TypeId) (ai:List V),eV P h n m t ai->eV P ab n m t ai
 | 0,_,_,_,H=>H
 | n+1,m,t,ai,H=>by
   unfold eV at H ⊢
   split at H<;>try exact H
   . refine ⟨H.1,?_⟩;rcases H.2 with H | H | H | ⟨b,len,cap,aa,ad,aJ,di,us,bz,bx,ms,cU,dr,mB⟩
     . exact .inl H
     . exact .inr (.inl H)
     . exact .inr (.inr (.inl H))
     . exact .inr (.inr (.inr ⟨b,len,cap,aa,ad,aJ,e.bF di,us,e.rd di bz,bx,ms,cU,dr,fun i k aH=>⟨(mB i k aH).1,eV.ext e n _ _ _ (mB i k aH).2⟩⟩))
   . obtain ⟨aa,ms,ad,aJ,bG⟩:=H;exact ⟨aa,ms,ad,aJ,fun i f k az aH=>⟨(bG i f k az aH).1,eV.ext e n _ _ _ (bG i f k az aH).2⟩⟩
   . refine ⟨H.1,?_⟩;rcases H.2 with H | H | ⟨b,aa,di,us,bz,bx,k,cU,dr⟩
     . exact .inl H
     . exact .inr (.inl H)
     . exact .inr (.inr ⟨b,aa,e.bF di,us,e.rd di bz,bx,k,cU,eV.ext e n _ _ _ dr⟩)
mutual
def h8 {H:Type}:DataW H->Nat
 | .lit (.string bytes)=>bytes.length+1
 | .lit _=>1
 | .nil=>1
 | .ptr d=>h8 d+1
 | .slice elems spare=>o0 elems+o0 spare+1
 | .agg parts=>o0 parts+1
 | .iface _ d=>h8 d+1
 | .map entries=>Pr entries+1
 | .held _=>1
def o0 {H:Type}:List (DataW H)->Nat
 | []=>0
 | d::r=>h8 d+o0 r
def Pr {H:Type}:List (Lit × DataW H)->Nat
 | []=>0
 | x::r=>aae x+Pr r
def aae {H:Type}:Lit × DataW H->Nat
 | (.string bytes,d)=>bytes.length+h8 d+1
 | (_,d)=>h8 d+1
end
theorem sb {H:Type} (d:DataW H):1<=h8 d:=by
 cases d with
 | lit l=>cases l<;>simp [h8]
 | _=>simp [h8]
theorem Iv {H:Type}:∀l:List (DataW H),o0 l=(l.map h8).sum
 | []=>by simp [o0]
 | d::r=>by simp only [o0,List.map_cons,List.sum_cons,Iv r]
theorem Er {w:World} {base:Nat} {a:Addr} {n:Nat} {l:List Value} (h:w.cells? base a n=some l):l.length=n/\∀i,i<n->w.cell? (a.add i)=l[i]? :=by
 unfold World.cells? at h
 split at h
 . exact ⟨by simpa using mapM_some_length h,fun i ao=>mapM_some_get h i i (by simp [ao])⟩
 . cases h
theorem V0 {E ax:Env} (he:E.le ax) {ai:List V} {l:List Value} (H:bk E ai l):bk ax ai l:=bk.mono he ai l H
section
variable {H:Type} {enc:TypeId × Value->H} {P:Program} {W:World} {base:Nat} {sp:Nat->Bool} {held:Bool}
def Lays (P:Program) (W:World) (n m:Nat) (t:TypeId) (cs:List Value):Prop:=
 ∀(E:Env) (h:ah),bd ⟨W,fun _=>none⟩ E h W->∃ax ab ai,E.le ax/\Ext h ab/\bd ⟨W,fun _=>none⟩ ax ab W/\bk ax ai cs/\ai.length=cs.length/\eV P ab n m t ai
theorem TX (n size:Nat) (e:TypeId):∀(pieces:List (List Value)) (ms:List Nat),ms.length=pieces.length->(∀(i:Nat) (l:List Value) (k:Nat),pieces[i]? =some l->ms[i]? =some k->l.length=size/\Lays P W n k e l)->
 ∀(E:Env) (h:ah),bd ⟨W,fun _=>none⟩ E h W->∃ax ab us,E.le ax/\Ext h ab/\bd ⟨W,fun _=>none⟩ ax ab W/\bk ax us pieces.flatten/\us.length=pieces.length * size/\
  ∀(i k:Nat),ms[i]? =some k->eV P ab n k e ((us.drop (i * size)).take size)
 | [],[],_,_,E,h,s=>⟨E,h,[],fun _ _ q=>q,Ext.refl h,s,rfl,by simp,fun i k ao=>by simp at ao⟩
 | [],_::_,aA,_,_,_,_=>by simp at aA
 | _::_,[],aA,_,_,_,_=>by simp at aA
 | l::ls,m::ms,lO,af,E,h,s=>by
   obtain ⟨aA,H⟩:=af 0 l m rfl rfl;obtain ⟨eu,aa,ai,bZ,a2,a3,a4,a5,hl⟩:=H E h s;obtain ⟨cm,ad,us,cb,ca,e5,ik,iW,k7⟩:=TX n size e ls ms (by simpa using lO) (fun i l k ar aw=>af (i+1) l k (by simpa using ar) (by simpa using aw)) eu aa a3;refine ⟨cm,ad,ai++us,bZ.trans cb,a2.trans ca,e5,?_,?_,?_⟩
   . rw [List.flatten_cons];exact bk.append (V0 cb a4) ik
   . rw [List.length_append,iW,a5,aA,List.length_cons,Nat.add_mul];omega
   . intro i k ao;cases i with
     | zero=>
       rw [Nat.zero_mul,List.drop_zero,List.take_left' (by rw [a5,aA])];simp only [List.getElem?_cons_zero,Option.some.injEq] at ao;subst ao;exact eV.ext ca _ _ _ _ hl
     | succ i=>
       rw [Nat.add_mul,Nat.one_mul,Nat.add_comm,<-List.drop_drop,List.drop_left' (by rw [a5,aA])];exact k7 i k (by simpa using ao)
theorem TW (n:Nat):∀(cx:List Field) (ms:List Nat) (o cj:Nat) (cs:List Value),Aa P cx o=some cj->cs.length=cj->ms.length=cx.length->(∀(i:Nat) (f:Field) (k:Nat),cx[i]? =some f->ms[i]? =some k->Lays P W n k f.type ((cs.drop f.offset).take (P.cellsOf f.type)))->
 o<=cj/\∀(E:Env) (h:ah),bd ⟨W,fun _=>none⟩ E h W->∃ax ab ai,E.le ax/\Ext h ab/\bd ⟨W,fun _=>none⟩ ax ab W/\bk ax ai (cs.drop o)/\ai.length=cj-o/\
  ∀(i:Nat) (f:Field) (k:Nat),cx[i]? =some f->ms[i]? =some k->o<=f.offset/\eV P ab n k f.type ((ai.drop (f.offset-o)).take (P.cellsOf f.type))
 | [],_::_,_,_,_,_,_,lO,_=>by simp at lO
 | _::_,[],_,_,_,_,_,lO,_=>by simp at lO
 | [],[],o,cj,cs,av,aA,_,_=>by simp only [Aa,Option.some.injEq] at av;subst av;refine ⟨Nat.le_refl _,fun E h s=>⟨E,h,[],fun _ _ q=>q,Ext.refl h,s,?_,by simp,fun i f k az=>by simp at az⟩⟩;rw [List.drop_eq_nil_of_le (by omega)];rfl
 | f::cx,m::ms,o,cj,cs,av,aA,lO,af=>by
   simp only [Aa] at av;by_cases az:f.offset=o
   . rw [if_pos az] at av;obtain ⟨g1,g2⟩:=TW n cx ms (o+P.cellsOf f.type) cj cs av aA (by simpa using lO) (fun i f k ar aw=>af (i+1) f k (by simpa using ar) (by simpa using aw));refine ⟨by omega,fun E h s=>?_⟩;have wD:=af 0 f m rfl rfl;obtain ⟨eu,aa,ai,bZ,a2,a3,a4,a5,hl⟩:=wD E h s;obtain ⟨cm,ad,us,cb,ca,e5,ik,iW,k7⟩:=g2 eu aa a3;have lT:ai.length=P.cellsOf f.type:=by rw [a5,List.length_take,List.length_drop,az];omega
     refine ⟨cm,ad,ai++us,bZ.trans cb,a2.trans ca,e5,?_,?_,?_⟩
     . have e:cs.drop o=(cs.drop f.offset).take (P.cellsOf f.type)++cs.drop (o+P.cellsOf f.type):=by
        rw [az,<-List.drop_drop,List.take_append_drop]
       rw [e];exact bk.append (V0 cb a4) ik
     . rw [List.length_append,lT,iW];omega
     . intro i g k aB aH;cases i with
       | zero=>
         simp only [List.getElem?_cons_zero,Option.some.injEq] at aB aH;subst aB aH;refine ⟨by omega,?_⟩;rw [az,Nat.sub_self,List.drop_zero,List.take_left' lT];exact eV.ext ca _ _ _ _ hl
       | succ i=>
         obtain ⟨bP,bX⟩:=k7 i g k (by simpa using aB) (by simpa using aH);refine ⟨by omega,?_⟩;rw [show g.offset-o=P.cellsOf f.type + (g.offset - (o+P.cellsOf f.type)) from by omega,<-List.drop_drop,List.drop_left' lT];exact bX
   . rw [if_neg az] at av;cases av
theorem QR {w:World} {a:Addr} {y:Value} (h:w.cell? a=some y):a.spot=none/\∃c el b5,w.heap[a.block]? =some (.cells c el b5)/\c[a.off]? =some y:=by
 refine ⟨World.cell?_spot h,?_⟩;unfold World.cell? at h
 split at h
 . rename_i c el b5 bl
   split at h
   . cases h
   . exact ⟨c,el,b5,bl,h⟩
 . cases h
theorem Zl (a:Addr) (n:Nat):(a.add n).block=a.block:=by unfold Addr.add;split<;>rfl
theorem Zm (a:Addr) (n:Nat):(a.add n).off=a.off+n:=by unfold Addr.add;split<;>simp_all
theorem amv {w:World} {a:Addr} {l:List Value} (aW:0<l.length) (h:∀i,i<l.length->w.cell? (a.add i)=l[i]?):
 a.spot=none/\∃c el b5,w.heap[a.block]? =some (.cells c el b5)/\a.off+l.length<=c.size/\∀i,i<l.length->c[a.off+i]? =l[i]? :=by
 have Fb:w.cell? (a.add 0)=some l[0]:=by rw [h 0 aW];exact List.getElem?_eq_getElem aW
 obtain ⟨s1,c,el,b5,s2,ma⟩:=QR Fb;have c_:a.add 0=a:=by unfold Addr.add;simp
 rw [c_] at s1 s2 ma;have key:∀i,i<l.length->c[a.off+i]? =l[i]? :=by intro i ao;have q:=h i ao;rw [List.getElem?_eq_getElem ao] at q ⊢;obtain ⟨_,fS,apq,aps,t2,t3⟩:=QR q;rw [Zl,s2] at t2;rw [Zm] at t3;simp only [Option.some.injEq,Obj.cells.injEq] at t2;obtain ⟨rfl,_,_⟩:=t2;exact t3
 refine ⟨s1,c,el,b5,s2,?_,key⟩;have:=key (l.length-1) (by omega);rw [List.getElem?_eq_getElem (by omega)] at this;have aO:=(Array.getElem?_eq_some_iff.1 this).1;omega
theorem Xv {E:Env} {h:ah} (s:bd ⟨W,fun _=>none⟩ E h W) {a:Addr} {cap:Nat} {l:List Value} (aW:0<l.length) (aD:∀i,i<l.length->W.cell? (a.add i)=l[i]?) {us:List V} (aE:bk E us l):
 ∃ax ab b,E.le ax/\Ext h ab/\bd ⟨W,fun _=>none⟩ ax ab W/\Old ab b/\a.spot=none/\ax b=some ⟨a.block,a.off,cap⟩/\Rd ab b us:=by
 obtain ⟨s1,c,el,b5,s2,ma,xo⟩:=amv aW aD;have Te:us.length=l.length:=(bk.length aE).symm;refine ⟨rQ E h ⟨a.block,a.off,cap⟩,h.new (.ro us),aj h.next,Nt s _,(Ext.refl h).new _,am0 s s2 (by omega) fun i v y bj aZ=>?_,U5,s1,Xu _ _ _,.inl (nd _)⟩;have ao:i<l.length:=by have:=(List.getElem?_eq_some_iff.1 bj).1;omega
 rw [xo i ao] at aZ;obtain ⟨xL,aP,bf⟩:=bk.get aE i v bj;rw [aZ] at aP;simp only [Option.some.injEq] at aP;rw [aP];exact bf
theorem RS {α:Type} (size:Nat):∀(pieces:List (List α)) (i j:Nat),(∀l ∈ pieces,l.length=size)->i<pieces.length->j<size->pieces.flatten[i * size+j]? =(pieces[i]?).bind (·[j]?)
 | [],i,j,_,ao,_=>by simp at ao
 | l::ls,i,j,af,ao,aU=>by
   have aA:l.length=size:=af l (by simp);cases i with
   | zero=>
     rw [Nat.zero_mul,Nat.zero_add,List.flatten_cons,List.getElem?_append_left (by omega)];simp
   | succ i=>
     rw [List.flatten_cons,List.getElem?_append_right (by rw [aA,Nat.add_mul];omega)];rw [show (i+1) * size+j-l.length=i * size+j from by rw [aA,Nat.add_mul];omega];rw [RS size ls i j (fun l aA=>af l (by simp [aA])) (by simpa using ao) aU];simp
theorem RT {α:Type} (size:Nat):∀(pieces:List (List α)),(∀l ∈ pieces,l.length=size)->pieces.flatten.length=pieces.length * size
 | [],_=>by simp
 | l::ls,af=>by rw [List.flatten_cons,List.length_append,RT size ls (fun l aA=>af l (by simp [aA])),af l (by simp),List.length_cons,Nat.add_mul];omega
theorem Vn {α:Type} (R:Nat->α->Prop):∀(len:Nat),(∀i,i<len->∃l,R i l)->∃bm:List α,bm.length=len/\∀i l,bm[i]? =some l->R i l
 | 0,_=>⟨[],rfl,fun i l q=>by simp at q⟩
 | m+1,h=>by
   obtain ⟨bm,ar,aw⟩:=Vn R m (fun i ao=>h i (by omega));obtain ⟨l,aa⟩:=h m (by omega);refine ⟨bm++[l],by simp [ar],fun i fh fq=>?_⟩;by_cases ao:i<bm.length
   . rw [List.getElem?_append_left ao] at fq;exact aw i fh fq
   . rw [List.getElem?_append_right (by omega)] at fq;have c_:i-bm.length=0:=by
      by_cases q:i-bm.length=0
      . exact q
      . rw [List.getElem?_eq_none (by simp;omega)] at fq;cases fq
     rw [c_] at fq;simp at fq;subst fq;obtain rfl:i=m:=by omega
     exact aa
theorem F6 (dK:xy P=true) (eL:laidOutB P=true):∀(n:Nat) (t:TypeId) (cs:List Value) (x:DataW H × List MemPlace),t<P.types.size->DataW.trod enc P W base sp held n t cs=some x->Lays P W n (h8 x.1) t cs
 | 0,t,cs,x,_,h=>by simp [DataW.trod] at h
 | n+1,t,cs,x,aO,h=>by
   have Ed:∀(cs:List Value),(∀ab ai,ai.length=cs.length->eV P ab (n+1) (h8 x.1) t ai)->Lays P W (n+1) (h8 x.1) t cs:=by
    intro cs H E h s;refine ⟨E,h,cs.map fun _=>.bad,fun _ _ q=>q,Ext.refl h,s,?_,by simp,H _ _ (by simp)⟩;clear H
    induction cs with
    | nil=>rfl
    | cons c cs bq=>exact ⟨c,cs,rfl,by simp [Rel],bq⟩
   cases hu:P.underlying t with
   | none=>
     refine Ed cs fun ab ai _=>?_;simp only [eV,hu]
   | some u=>
     cases u with
     | bool=>
       obtain ⟨b,rfl,_⟩:=DataW.trod_bool hu h;intro E h s;exact ⟨E,h,[.bool b],fun _ _ q=>q,Ext.refl h,s,⟨_,_,rfl,rfl,rfl⟩,rfl,by simp only [eV,hu];exact ⟨b,rfl⟩⟩
     | int k=>
       obtain ⟨i,rfl,_,hw⟩:=DataW.trod_int hu h;intro E h s;exact ⟨E,h,[.int k i],fun _ _ q=>q,Ext.refl h,s,⟨_,_,rfl,rfl,rfl⟩,rfl,by simp only [eV,hu];exact ⟨i,rfl,hw⟩⟩
     | string=>
       obtain ⟨b,rfl,rfl,_⟩:=DataW.trod_string hu h;intro E h s;exact ⟨E,h,[.str b.data.toList],fun _ _ q=>q,Ext.refl h,s,⟨_,_,rfl,rfl,rfl⟩,rfl,by simp only [eV,hu,h8];exact ⟨_,rfl,Nat.le_refl _⟩⟩
     | struct cx=>
       obtain ⟨xs,ry,aV,rfl,aA,zf,az⟩:=DataW.trod_struct hu h;obtain rfl:n=ry:=by omega
       have afX:Aa P cx.toList 0=some (P.cellsOf t):=by unfold xy at dK;rw [List.all_eq_true] at dK;have:=dK t (List.mem_range.2 aO);rw [hu] at this;exact of_decide_eq_true this
       have jP:∀(i:Nat) (f:Field) (k:Nat),cx.toList[i]? =some f->(xs.map fun x=>h8 x.1)[i]? =some k->Lays P W n k f.type ((cs.drop f.offset).take (P.cellsOf f.type)):=by
        intro i f k ao aH;have o':f ∈ cx.toList:=List.mem_of_getElem? ao;have hB:cx[i]? =some f:=by simpa using ao
        have:=az i f hB;have SI:i<xs.length:=by rw [zf];exact (Array.getElem?_eq_some_iff.1 hB).1
        rw [List.getElem?_eq_getElem SI] at this;rw [List.getElem?_map,List.getElem?_eq_getElem SI,Option.map_some,Option.some.injEq] at aH;subst aH;exact F6 dK eL n _ _ _ ((kid_struct eL aO hu).1 f o') this
       intro E h s;obtain ⟨_,g⟩:=TW n cx.toList (xs.map fun x=>h8 x.1) 0 _ cs afX aA (by simp [zf]) jP;obtain ⟨ax,ab,ai,bZ,a2,a3,a4,a5,hl⟩:=g E h s;refine ⟨ax,ab,ai,bZ,a2,a3,by simpa using a4,by rw [a5,aA];omega,?_⟩;simp only [eV,hu];refine ⟨by omega,xs.map fun x=>h8 x.1,by simp [zf],?_,fun i f k o' aH=>⟨?_,by simpa using (hl i f k o' aH).2⟩⟩
       . simp only [h8,Iv,List.map_map];exact Nat.le_refl _
       . rw [List.getElem?_map,Option.map_eq_some_iff] at aH;obtain ⟨y,_,rfl⟩:=aH;exact sb _
     | slice e=>
       rcases DataW.trod_slice hu h with ⟨rfl,rfl⟩ | ⟨a,len,cap,elems,rest,ry,aV,rfl,rfl,ae,sy,_,Sv,aeR,_,_⟩
       . intro E h s;exact ⟨E,h,[.bB],fun _ _ q=>q,Ext.refl h,s,⟨_,_,rfl,rfl,rfl⟩,rfl,by simp only [eV,hu];exact ⟨sb _,.inl trivial⟩⟩
       . obtain rfl:n=ry:=by omega
         by_cases aS:P.cellsOf e=0
         . refine Ed _ fun ab ai _=>?_;simp only [eV,hu];exact ⟨sb _,.inr (.inr (.inl aS))⟩
         by_cases p3:len=0
         . subst p3;intro E h s;refine ⟨E,h,[.hP .z 0 0 0],fun _ _ q=>q,Ext.refl h,s,⟨_,_,rfl,?_,rfl⟩,rfl,by simp only [eV,hu];exact ⟨sb _,.inr (.inl ⟨_,_,_,_,rfl⟩)⟩⟩;simp only [Rel];exact ⟨_,_,rfl⟩
         . -- its elements
           have jT:∀i,i<len->∃l,W.cells? base (a.add (i * P.cellsOf e)) (P.cellsOf e)=some l/\∀k:Nat,(elems.map fun x=>h8 x.1)[i]? =some k->Lays P W n k e l:=by intro i ao;have:=aeR i ao;rw [List.getElem?_eq_getElem (by omega)] at this;rw [Option.bind_eq_some_iff] at this;obtain ⟨l,aa,ad⟩:=this;refine ⟨l,aa,fun k aH=>?_⟩;rw [List.getElem?_map,List.getElem?_eq_getElem (by omega),Option.map_some,Option.some.injEq] at aH;subst aH;exact F6 dK eL n _ _ _ (kid_slice eL aO hu) ad
           obtain ⟨pieces,iY,hZ⟩:∃pieces:List (List Value),pieces.length=len/\∀i (l:List Value),pieces[i]? =some l->W.cells? base (a.add (i * P.cellsOf e)) (P.cellsOf e)=some l/\∀k:Nat,(elems.map fun x=>h8 x.1)[i]? =some k->Lays P W n k e l:=by exact Vn (fun i l=>W.cells? base (a.add (i * P.cellsOf e)) (P.cellsOf e)=some l/\∀k:Nat,(elems.map fun x=>h8 x.1)[i]? =some k->Lays P W n k e l) len jT
           have jo:∀(i:Nat) (l:List Value) (k:Nat),pieces[i]? =some l->(elems.map fun x=>h8 x.1)[i]? =some k->l.length=P.cellsOf e/\Lays P W n k e l:=by intro i l k ao aH;obtain ⟨ar,aw⟩:=hZ i l ao;exact ⟨(Er ar).1,aw k aH⟩
           have SX:∀l ∈ pieces,l.length=P.cellsOf e:=by intro l aA;obtain ⟨i,ao⟩:=List.getElem?_of_mem aA;exact (Er (hZ i l ao).1).1
           intro E h s;obtain ⟨eu,aa,us,bZ,a2,a3,a4,a5,hl⟩:=TX n (P.cellsOf e) e pieces (elems.map fun x=>h8 x.1) (by simp [Sv,iY]) jo E h s;have jP:=RT (P.cellsOf e) pieces SX;have BN:0<len * P.cellsOf e:=Nat.mul_pos (by omega) (by omega);have wb:∀i,i<pieces.flatten.length->W.cell? (a.add i)=pieces.flatten[i]? :=by
            intro q aC;rw [jP] at aC;have SO:q % P.cellsOf e<P.cellsOf e:=Nat.mod_lt _ (by omega);have hdiv:q / P.cellsOf e<pieces.length:=Nat.div_lt_of_lt_mul (by rw [Nat.mul_comm];exact aC);have y1:q / P.cellsOf e * P.cellsOf e+q % P.cellsOf e=q:=by rw [Nat.mul_comm];exact Nat.div_add_mod q _
            rw [<-y1,RS (P.cellsOf e) pieces _ _ SX hdiv SO,List.getElem?_eq_getElem hdiv];obtain ⟨ar,_⟩:=hZ _ _ (List.getElem?_eq_getElem hdiv);have:=(Er ar).2 _ SO;rw [Option.bind_some,<-this];congr 1;unfold Addr.add;by_cases b6:q / P.cellsOf e * P.cellsOf e=0
            . rw [b6];simp
            . by_cases z2:q % P.cellsOf e=0
              . rw [z2];simp
              . have z3:¬(q / P.cellsOf e * P.cellsOf e+q % P.cellsOf e=0):=by omega
                rw [if_neg b6,if_neg z2,if_neg z3];simp [Nat.add_assoc]
           obtain ⟨cm,ad,b,cb,ca,e5,ik,iW,k7,tE⟩:=Xv a3 (cap:=cap) (by rw [jP,iY];exact BN) wb a4;refine ⟨cm,ad,[.slice b 0 len cap],bZ.trans cb,a2.trans ca,e5,⟨_,_,rfl,?_,rfl⟩,rfl,?_⟩
           . simp only [Rel];refine ⟨_,k7,sy,?_⟩;obtain ⟨vD,akT,st⟩:=a;simp only at iW;subst iW;rfl
           . simp only [eV,hu];refine ⟨sb _,.inr (.inr (.inr ⟨b,len,cap,rfl,by omega,sy,ik,us,tE,by rw [a5,iY],elems.map fun x=>h8 x.1,by simp [Sv],?_,fun i k aH=>⟨?_,eV.ext ca _ _ _ _ (hl i k aH)⟩⟩))⟩
             . simp only [h8,Iv,List.map_map];exact Nat.add_le_add_right (Nat.le_add_right _ _) 1
             . rw [List.getElem?_map,Option.map_eq_some_iff] at aH;obtain ⟨y,_,rfl⟩:=aH;exact sb _
     | pointer e=>
       rcases DataW.trod_pointer hu h with ⟨rfl,rfl⟩ | ⟨a,yg,y,ry,aV,rfl,rfl,aD,aZ⟩
       . intro E h s;exact ⟨E,h,[.ee],fun _ _ q=>q,Ext.refl h,s,⟨_,_,rfl,rfl,rfl⟩,rfl,by simp only [eV,hu];exact ⟨sb _,.inl trivial⟩⟩
       . obtain rfl:n=ry:=by omega
         by_cases aS:P.cellsOf e=0
         . refine Ed _ fun ab ai _=>?_;simp only [eV,hu];exact ⟨sb _,.inr (.inl aS)⟩
         . intro E h s;obtain ⟨ar,aw⟩:=Er aD;obtain ⟨eu,aa,us,bZ,a2,a3,a4,a5,hl⟩:=F6 dK eL n _ _ _ (kid_pointer eL aO hu) aZ E h s;obtain ⟨cm,ad,b,cb,ca,e5,ik,iW,k7,tE⟩:=Xv a3 (cap:=0) (by omega) (fun i ao=>aw i (by omega)) a4;refine ⟨cm,ad,[.ptr b 0],bZ.trans cb,a2.trans ca,e5,⟨_,_,rfl,?_,rfl⟩,rfl,?_⟩
           . simp only [Rel];refine ⟨_,k7,?_⟩;obtain ⟨vD,akT,st⟩:=a;simp only at iW;subst iW;rfl
           . simp only [eV,hu];exact ⟨sb _,.inr (.inr ⟨b,rfl,ik,us,tE,by omega,_,Nat.le_refl _,eV.ext ca _ _ _ _ hl⟩)⟩
     | map k e=>
       have hA:cs.length=1:=by
        unfold DataW.trod at h;rw [hu] at h
        split at h<;>simp_all
       intro E h s;refine ⟨E,h,[.bad],fun _ _ q=>q,Ext.refl h,s,?_,by simp [hA],by simp only [eV,hu];exact .inr trivial⟩
       match cs,hA with
       | [c],_=>exact ⟨c,[],rfl,by simp [Rel],rfl⟩
     | interface ms=>
       have hA:cs.length=1:=by
        unfold DataW.trod at h;rw [hu] at h
        split at h<;>simp_all
       intro E h s;refine ⟨E,h,[.bad],fun _ _ q=>q,Ext.refl h,s,?_,by simp [hA],by simp only [eV,hu];exact .inr trivial⟩
       match cs,hA with
       | [c],_=>exact ⟨c,[],rfl,by simp [Rel],rfl⟩
     | _=>
       refine Ed cs fun ab ai _=>?_;simp only [eV,hu]
def qL (P:Program) (h:ah) (n m:Nat) (t:TypeId) (v:V):Prop:=
 match P.underlying t with
 | some (.struct _) | some (.array _ _)=>∃ai,v=.agg ai/\eV P h n m t ai
 | _=>eV P h n m t [v]
theorem qL.ext {h ab:ah} (e:Ext h ab) {n m:Nat} {t:TypeId} {v:V} (H:qL P h n m t v):qL P ab n m t v:=by
 unfold qL at H ⊢
 split at H
 . obtain ⟨ai,ar,aw⟩:=H;exact ⟨ai,ar,eV.ext e _ _ _ _ aw⟩
 . obtain ⟨ai,ar,aw⟩:=H;exact ⟨ai,ar,eV.ext e _ _ _ _ aw⟩
 . exact eV.ext e _ _ _ _ H
theorem ajr (dK:xy P=true) (eL:laidOutB P=true) {r:Reach} {vz:Nat} {t:TypeId} {v:Value} {d:DataW H} {p:List MemPlace} (aO:t<P.types.size) (bK:Value.okWide P W r vz t v) (bb:DataW.Trod enc P W base sp held t v d p) {E:Env} {h:ah} (s:bd ⟨W,fun _=>none⟩ E h W):
 ∃n ax ab x,E.le ax/\Ext h ab/\bd ⟨W,fun _=>none⟩ ax ab W/\Rel ax x v/\qL P ab n (h8 d) t x:=by
 obtain ⟨fuel,az⟩:=bb;obtain ⟨ax,ab,ai,bZ,a2,a3,a4,a5,hl⟩:=F6 dK eL _ _ _ _ aO az E h s;have agg:(∃cs,v=.agg cs)->∃x,Rel ax x v/\x=.agg ai:=by rintro ⟨cs,rfl⟩;exact ⟨.agg ai,by simp only [Rel];exact ⟨cs,rfl,a4⟩,rfl⟩
 have one:v.cells=#[v]->∃x,Rel ax x v/\ai=[x]:=by
  intro aD;rw [aD] at a4 a5
  match ai,a4,a5 with
  | [x],⟨y,cV,aP,bf,c4⟩,_=>
    simp only [List.cons.injEq] at aP;exact ⟨x,aP.1 ▸ bf,rfl⟩
 refine ⟨fuel,ax,ab,?_⟩;unfold Value.okWide at bK;cases hu:P.underlying t with
 | none=>
   rw [hu] at bK;simp only [Cell.okWide,Cell.ok,hu] at bK
 | some u=>
   rw [hu] at bK;unfold qL;rw [hu];cases u<;>simp only at bK ⊢<;>first
    | (obtain ⟨cs,bj,_⟩:=bK
       obtain ⟨x,ar,aw⟩:=agg ⟨cs,bj⟩;exact ⟨x,bZ,a2,a3,ar,ai,aw,hl⟩)
    | (have aD:v.cells=#[v]:=by
        cases v<;>first
         | rfl
         | (simp only [Cell.okWide,Cell.ok,hu] at bK)
       obtain ⟨x,ar,aw⟩:=one aD;exact ⟨x,bZ,a2,a3,ar,aw ▸ hl⟩)
def n0 (P:Program) (h:ah):Nat->List TypeId->List V->Prop
 | _,[],[]=>True
 | m,t::cN,v::ai=>∃k bg,k+bg<=m/\(∃n,qL P h n k t v)/\n0 P h bg cN ai
 | _,_,_=>False
theorem n0.mono {h:ah}:∀{m dt:Nat} {cN:List TypeId} {ai:List V},m<=dt->n0 P h m cN ai->n0 P h dt cN ai
 | _,_,[],[],_,H=>by unfold n0;trivial
 | _,_,[],_::_,_,H=>H.elim
 | _,_,_::_,[],_,H=>H.elim
 | _,_,_::_,_::_,hm,⟨k,bg,aH,H,fb⟩=>⟨k,bg,Nat.le_trans aH hm,H,fb⟩
theorem TV (dK:xy P=true) (eL:laidOutB P=true) {r:Reach} {vz:Nat}:∀{cN:List TypeId} {ai:List Value} {ds:List (DataW H)} {p:List MemPlace},(∀t ∈ cN,t<P.types.size)->(∀(j:Nat) t v,cN[j]? =some t->ai[j]? =some v->Value.okWide P W r vz t v)->
 DataW.TrodAll enc P W base sp held cN ai ds p->∀{E:Env} {h:ah},bd ⟨W,fun _=>none⟩ E h W->∃ax ab xs,E.le ax/\Ext h ab/\bd ⟨W,fun _=>none⟩ ax ab W/\bk ax xs ai/\n0 P ab (o0 ds) cN xs
 | [],[],ds,p,_,_,_,E,h,s=>⟨E,h,[],fun _ _ q=>q,Ext.refl h,s,rfl,by unfold n0;trivial⟩
 | [],_::_,ds,p,_,_,bb,E,h,s=>by cases ds<;>exact bb.elim
 | _::_,[],ds,p,_,_,bb,E,h,s=>by cases ds<;>exact bb.elim
 | _::_,_::_,[],p,_,_,bb,E,h,s=>bb.elim
 | t::cN,v::ai,d::ds,p,av,bj,⟨bW,bV,aa,ad,_⟩,E,h,s=>by obtain ⟨n,eu,g1,x,bZ,a2,a3,a4,a5⟩:=ajr dK eL (av t (by simp)) (bj 0 t v rfl rfl) aa s;obtain ⟨cm,g2,xs,cb,ca,e5,ik,iW⟩:=TV dK eL (fun t q=>av t (by simp [q])) (fun j t v ar aw=>bj (j+1) t v (by simpa using ar) (by simpa using aw)) ad a3;exact ⟨cm,g2,x::xs,bZ.trans cb,a2.trans ca,e5,⟨_,_,rfl,Rel.mono cb _ _ a4,ik⟩,h8 d,o0 ds,by simp only [o0];exact Nat.le_refl _,⟨n,a5.ext ca⟩,iW⟩
theorem abn (dK:xy P=true) (eL:laidOutB P=true) {r:Reach} {vz:Nat} {f:FuncId} {cN:List TypeId} {ai:List Value} {ds:List (DataW H)} {p:List MemPlace} (fg:∀t ∈ cN,t<P.types.size) (bj:∀(j:Nat) t v,cN[j]? =some t->ai[j]? =some v->Value.okWide P W r vz t v)
 (bb:DataW.TrodAll enc P W base sp held cN ai ds p) (v_:Lay.ok W) (bJ:eO P) (ae:∃fn,P.funcs[f]? =some fn/\fn.body.isSome=true) (aD:∀(h:ah) (xs:List V),n0 P h (o0 ds) cN xs->de P f xs h fun y _=>y=.bool true):
 Calls P f ai.toArray W fun e an=>e=.returned (.bool true)/\Below W.heap.size W an:=by
 obtain ⟨E,h,xs,_,_,a3,a4,a5⟩:=TV dK eL fg bj bb (Wx W v_);obtain ⟨y,ab,j8,rfl⟩:=aD h xs a5;refine (j8.calls bJ ae _ E W ai a4 a3).mono fun e an q=>?_;obtain ⟨ax,x,rfl,_,aw,aK⟩:=q;simp only [Rel] at aw;subst aw;exact ⟨rfl,aK.frame⟩
end
end
section
open Go Go.RowKit
variable [Lay]
section
variable {P:Program} {h:ah} {n m:Nat} {t:TypeId}
theorem eV.pos {ai:List V} (H:eV P h n m t ai):∃k,n=k+1:=by
 cases n with
 | zero=>exact H.elim
 | succ m=>exact ⟨m,rfl⟩
theorem eV.int {ai:List V} {k:IntKind} (H:eV P h n m t ai) (hu:P.underlying t=some (.int k)):∃i,ai=[.int k i]/\(Lit.int k i).wf=true:=by obtain ⟨m,rfl⟩:=H.pos;simpa only [eV,hu] using H
def s9 (v:V):Prop:=∀b off l c,v=.slice b off l c->l<=c
end
end
section
open Go Go.RowKit Go.ChangeShapes Go.WideShapes
variable [Lay]
section
variable {H:Type} {enc:TypeId × Value->H} {P:Program}
theorem Pe (eL:laidOutB P=true) {W jg:World} (ae:Below W.heap.size W jg):∀{cN:List TypeId} {ai:List Value} {ds:List (DataW H)} {bm:List MemPlace},(cN.all fun t=>P.readableRec t&&decide (t<P.types.size))=true->
 DataW.TrodAll enc P W 0 (fun _=>true) true cN ai ds bm->DataW.TrodAll enc P jg 0 (fun b=>decide (b<W.heap.size)) true cN ai ds bm
 | [],[],[],_,_,h=>h
 | [],_::_,_,_,_,h=>by rename_i ds _;cases ds<;>exact h.elim
 | [],[],_::_,_,_,h=>h.elim
 | _::_,[],_,_,_,h=>by rename_i ds _;cases ds<;>exact h.elim
 | _::_,_::_,[],_,_,h=>h.elim
 | t::cN,v::ai,d::ds,bm,aE,h=>by have aO:=h.lt;obtain ⟨p,q,aa,ad,rfl⟩:=h;simp only [List.all_cons,Bool.and_eq_true,decide_eq_true_eq] at aE;exact ⟨p,q,Below.trod eL aE.1.1 aE.1.2 aa ae (fun x ak=>aO x (by simp [ak])),Pe eL ae aE.2 ad,rfl⟩
theorem Xd {W:World} {base:Nat} {sp:Nat->Bool} {held:Bool}:∀{cN:List TypeId} {ai:List Value} {ds:List (DataW H)} {bm:List MemPlace},DataW.TrodAll enc P W base sp held cN ai ds bm->ds.length=cN.length
 | [],[],[],_,_=>rfl
 | [],_::_,ds,_,h=>by cases ds<;>exact h.elim
 | [],[],_::_,_,h=>h.elim
 | _::_,[],ds,_,h=>by cases ds<;>exact h.elim
 | _::_,_::_,[],_,h=>h.elim
 | t::cN,v::ai,d::ds,bm,h=>by obtain ⟨p,q,aa,ad,rfl⟩:=h;simp [Xd ad]
theorem ajh (dK:xy P=true) (eL:laidOutB P=true) {f:FuncId} {fn:Func} {s:ChangeSpec} {Nc:TypeId} (fg:(fn.params.toList.all fun t=>P.readableRec t&&decide (t<P.types.size))=true) (Tg:s.vars=[]) (afL:fn.resultTypes=#[Nc]) (pc:P.underlying Nc=some .bool)
 (KW:∀ds:List (DataW H),ds.length=fn.params.size->s.fn H (ds++[])={results:=[.lit (.bool true)],args:=ds})
 {B:Nat} (aD:∀(h:ah) (xs:List V),n0 P h B fn.params.toList xs->de P f xs h fun y _=>y=.bool true)
 {W:World} {base:Nat} {args:Array Value} {ds gs:List (DataW H)} {before:List MemPlace} (aH:o0 (ds++gs)<=B) (lh:Lay.ok W) (bJ:eO P) (ae:∃fn,P.funcs[f]? =some fn/\fn.body.isSome=true)
 (B0:∀(j:Nat) t v,fn.params[j]? =some t->args[j]? =some v->Value.okWide P W .any base t v) (v_:DataW.Whole enc P fn.params.toList s.vars false W args.toList ds gs before):
 Calls P f args W fun e jg=>∃v,e=.returned v/\s.post enc P fn false true false false W args v jg:=by
 have aea:=v_;obtain ⟨p,q,ng,E7,rfl,q6,nr⟩:=v_;rw [Tg] at E7;obtain ⟨rfl,rfl⟩:=trodVars_none E7;have hlen:ds.length=fn.params.size:=by rw [Xd ng];simp
 have hw:=abn dK eL (vz:=base) (r:=.any) (fun t av=>by have:=List.all_eq_true.1 fg t av;simp only [Bool.and_eq_true,decide_eq_true_eq] at this;exact this.2) (fun j t v aa ad=>B0 j t v (by simpa using aa) (by simpa using ad)) ng lh bJ ae (fun h xs q=>aD h xs (q.mono (by simpa using aH)));simp only [Array.toArray_toList] at hw;refine hw.mono fun e jg ⟨he,Pd⟩=>?_;subst he;refine ⟨_,rfl,ds,[],p++[],[],p,[],aea,?_,?_,?_,Pd.frame _,fun h=>by cases h⟩
 . rw [KW ds hlen,afL];exact trodAll_mk1 (shut_bool pc _)
 . rw [KW ds hlen];exact Pe eL Pd fg ng
 . rw [KW ds hlen,Tg];rfl
end
end
section
open Go Go.RowKit
variable [Lay]
theorem amV {P:Program} {h:ah} {B:Nat} {xs:List V} (aS:n0 P h B [] xs):xs=[]:=by
 match xs,aS with
 | [],_=>rfl
theorem Wv {P:Program} {h:ah} {B:Nat} {t:TypeId} {cN:List TypeId} {xs:List V} (aS:n0 P h B (t::cN) xs):∃a D3 k bg n,xs=a::D3/\k+bg<=B/\qL P h n k t a/\n0 P h bg cN D3:=by
 match xs,aS with
 | a::D3,⟨k,bg,aH,⟨n,aW⟩,aa⟩=>exact ⟨a,D3,k,bg,n,rfl,aH,aW,aa⟩
section
variable {P:Program} {h:ah} {n m:Nat} {t:TypeId} {v:V}
theorem Ww {k:IntKind} (aS:qL P h n m t v) (hu:P.underlying t=some (.int k)):∃i,v=.int k i/\(Lit.int k i).wf=true:=by unfold qL at aS;rw [hu] at aS;obtain ⟨s,e,q⟩:=eV.int aS hu;simp only [List.cons.injEq,and_true] at e;exact ⟨s,e,q⟩
end
end
section
open Go Go.RowKit
set_option linter.defProp false
variable [Lay]
end
section
open Go Go.RowKit
variable [Lay]
theorem abR {P:Program} {aI:List h5} {r:bc} {h:ah} {Q:dm->bc->ah->Prop} {a b:aY}:ye P (.bool true) a b aI r h Q=bo P (.c a::aI) .normal r h Q:=by rw [QW];simp
theorem abQ {P:Program} {aI:List h5} {r:bc} {h:ah} {Q:dm->bc->ah->Prop} {a b:aY}:ye P (.bool false) a b aI r h Q=bo P (.c b::aI) .normal r h Q:=by rw [QW];simp
theorem Pf (a b:List UInt8):pP a b=decide (a=b):=by rw [vA,Bool.eq_iff_iff];simp
theorem Ir (k:IntKind) (b:Int) (d y:Nat):bound (some (.int k b)) d y=if 0<=b/\b<=(y:Int) then some b.toNat else none:=by simp only [bound,V.ep,oz];by_cases aa:0<=b<;>by_cases ad:b<=(y:Int)<;>simp [aa,ad]
theorem am3 (s:List UInt8) (k:IntKind) (b:Int):mL (.str s) none (some (.int k b)) none=if 0<=b/\b<=(s.length:Int) then some (.str (s.take b.toNat)) else none:=by
 simp only [mL,Ir];by_cases h:0<=b/\b<=(s.length:Int)
 . simp only [h,and_self,if_true,bound,List.drop_zero,Nat.sub_zero]
 . simp only [h,if_false]
theorem am4 (s:List UInt8) (k:IntKind) (a:Int):mL (.str s) (some (.int k a)) none none=if 0<=a/\a<=(s.length:Int) then some (.str (s.drop a.toNat)) else none:=by
 simp only [mL,sa,Ir];by_cases h:0<=a/\a<=(s.length:Int)
 . simp only [h,and_self,if_true];rw [List.take_of_length_le (by rw [List.length_drop];omega)]
 . simp only [h,if_false]
theorem am6 (s:List UInt8) (k bg:IntKind) (a b:Int):mL (.str s) (some (.int k a)) (some (.int bg b)) none=if 0<=a/\a<=b/\b<=(s.length:Int) then some (.str ((s.drop a.toNat).take (b.toNat-a.toNat))) else none:=by
 simp only [mL,Ir];by_cases h:0<=b/\b<=(s.length:Int)
 . simp only [h,and_self,if_true];by_cases ad:0<=a/\a<=b
   . have:0<=a/\a<=((b.toNat:Nat):Int):=by omega
     simp only [this,and_self,if_true,ad,h]
   . have aJ:¬(0<=a/\a<=((b.toNat:Nat):Int)):=by omega
     have bG:¬(0<=a/\a<=b/\b<=(s.length:Int)):=by omega
     have di:¬(0<=a/\a<=b/\True):=fun q=>ad ⟨q.1,q.2.1⟩;rw [if_neg di,if_neg aJ]
 . have bG:¬(0<=a/\a<=b/\b<=(s.length:Int)):=by omega
   simp only [h,bG,if_false]
theorem am1 (s:List UInt8):mL (.str s) none none none=some (.str s):=by simp only [mL,sa,List.drop_zero,Nat.sub_zero,List.take_length]
section
variable {P:Program}
theorem amM (a b:List UInt8):(eC.str .eql).run P (.str a) (.str b)=some (.bool (decide (a=b))):=by simp only [eC.run,tc,rM,Pf]
theorem amL (a b:List UInt8):(eC.str .add).run P (.str a) (.str b)=if a.length+b.length<=top then some (.str (a++b)) else none:=by
 simp only [eC.run,tc,G8];by_cases h:a.length+b.length<=top
 . rw [if_pos h,show Nat.ble (a.length+b.length) top=true from by rw [Nat.ble_eq];exact h];rfl
 . rw [if_neg h,show Nat.ble (a.length+b.length) top=false from by rw [<-Bool.not_eq_true,Nat.ble_eq];exact h];rfl
theorem amN (s:List UInt8) (k:IntKind) (i:Int):sS.run (.str s) (.int k i)=if 0<=i/\i < (s.length:Int) then some (.int .u8 (((s[i.toNat]?).getD 0).toNat:Int)) else none:=by
 simp only [sS,V.ep,oz];by_cases aa:0<=i
 . simp only [aa,decide_true,cond_true,true_and];by_cases ad:i < (s.length:Int)
   . rw [if_pos ad,List.getElem?_eq_getElem (by omega)];rfl
   . rw [if_neg ad,List.getElem?_eq_none (by omega)]
 . simp only [aa,decide_false,cond_false,false_and,if_false]
theorem G2 (a b:List UInt8):(eC.str .neq).run P (.str a) (.str b)=some (.bool (!decide (a=b))):=by simp only [eC.run,tc,rM,Pf]
end
end
section
open Go Go.RowKit
set_option linter.defProp false
def aou:=
 And.intro @ahS<|And.intro @ag0<|And.intro @ah4<|And.intro @ag1<|And.intro @ahZ<|And.intro @ah5<|And.intro @ah1<|And.intro @ahj<|And.intro @ag_<|And.intro @ag8<|And.intro @ag9<|And.intro @ahG<|And.intro @ahf<|And.intro @ahW<|And.intro @ahO<|And.intro @aiU<|And.intro @ahY<|And.intro @ai1<|And.intro @ag5<|And.intro @ail<|And.intro @ahw<|And.intro @aiG<|And.intro @ahx<|And.intro @aiH<|And.intro @ahT<|And.intro @aiX<|And.intro @agZ<|And.intro @aii<|And.intro @ah'<|And.intro @ai7<|And.intro @aho<|And.intro @aiA<|And.intro @aht<|And.intro @aiD<|And.intro @ah7<|And.intro @ai5<|And.intro @ah6<|And.intro @ai4<|And.intro @ahl<|@aix
def aov:=
 And.intro @ahm<|And.intro @aiy<|And.intro @ahn<|And.intro @aiz<|And.intro @ahr<|And.intro @aiB<|And.intro @ahs<|And.intro @aiC<|And.intro @ahv<|And.intro @aiF<|And.intro @ahu<|And.intro @aiE<|And.intro @ahD<|And.intro @aiM<|And.intro @ahk<|And.intro @aiw<|And.intro @ahM<|And.intro @aiT<|And.intro @ahP<|And.intro @aiV<|And.intro @ahb<|And.intro @air<|And.intro @ahA<|And.intro @aiK<|And.intro @ahB<|And.intro @aiL<|And.intro @ahy<|And.intro @aiI<|And.intro @ahR<|And.intro @aiW<|And.intro @ag3<|And.intro @aij<|And.intro @ag4<|And.intro @aik<|And.intro @ah8<|And.intro @ai6<|And.intro @ahL<|And.intro @aiS<|And.intro @ah_<|@ai8
def aow:=
 And.intro @ahK<|And.intro @aiR<|And.intro @ah3<|And.intro @ai3<|And.intro @ahU<|And.intro @aiY<|And.intro @agW<|And.intro @aif<|And.intro @ag'<|And.intro @aip<|And.intro @ahz<|And.intro @aiJ<|And.intro @aha<|And.intro @aiq<|And.intro @ahd<|And.intro @ait<|And.intro @ahc<|And.intro @ais<|And.intro @aim<|And.intro @ain<|And.intro @TL<|And.intro @ag6<|@ahe
def aox:=
 And.intro @anw<|And.intro @am'<|And.intro @abR<|And.intro @abQ<|And.intro @abo<|And.intro @amt<|And.intro @Z'<|And.intro @Z9<|And.intro @aln<|And.intro @ac4<|And.intro @ac3<|And.intro @aaa<|And.intro @acR<|And.intro @acQ<|And.intro @alB<|And.intro @acY<|And.intro @ak1<|And.intro @ak0<|And.intro @ajG<|And.intro @ajE<|And.intro @ajH<|And.intro @ajF<|And.intro @ajI<|And.intro @zh<|And.intro @FR<|And.intro @ab7<|And.intro @acT<|And.intro @acS<|And.intro @anZ<|And.intro @amQ<|And.intro @amR<|And.intro @akU<|And.intro @akV<|And.intro @alm<|And.intro @ali<|And.intro @aoh<|And.intro @aog<|And.intro @ZW<|And.intro @ZX<|@ZY
def aoy:=
 And.intro @ZZ<|And.intro @ZV<|And.intro @Yc<|And.intro @Ye<|And.intro @Yd<|And.intro @anW<|And.intro @anY<|And.intro @anX<|And.intro @agL<|And.intro @agN<|And.intro @agM<|And.intro @agV<|And.intro @ah9<|And.intro @ahN<|And.intro @ahh<|And.intro @ahQ<|And.intro @ahH<|And.intro @ahC<|And.intro @ahq<|And.intro @ahp<|And.intro @agY<|And.intro @ag2<|And.intro @an'<|And.intro @an9<|And.intro @ajY<|And.intro @aj0<|And.intro @TZ<|And.intro @T0<|And.intro @Lq<|And.intro @T4<|And.intro @anr<|And.intro @aji<|And.intro @nd<|And.intro @iE<|And.intro @dC<|And.intro @rH<|And.intro @gk<|And.intro @l5<|And.intro @akt<|@abr
def aoz:=
 And.intro @ak3<|And.intro @adA<|And.intro @abw<|And.intro @Gy<|And.intro @adE<|And.intro @abF<|And.intro @Gz<|And.intro @adN<|And.intro @abB<|And.intro @ak_<|And.intro @adJ<|And.intro @abD<|And.intro @alb<|And.intro @adL<|And.intro @abE<|And.intro @alc<|And.intro @adM<|And.intro @abu<|And.intro @ak5<|And.intro @adC<|And.intro @abG<|And.intro @ald<|And.intro @adO<|And.intro @abC<|And.intro @ala<|And.intro @adK<|And.intro @abA<|And.intro @ak'<|And.intro @adI<|And.intro @abx<|And.intro @ak7<|And.intro @adF<|And.intro @abt<|And.intro @ak4<|And.intro @adB<|And.intro @abz<|And.intro @ak9<|And.intro @adH<|And.intro @abv<|@ak6
def aoA:=
 And.intro @adD<|And.intro @aby<|And.intro @ak8<|And.intro @adG<|And.intro @abq<|And.intro @adz<|And.intro @adP<|And.intro @ajz<|And.intro @ajA<|And.intro @ajy<|And.intro @beq_true<|And.intro @beq_false<|And.intro @Bool.not_true<|And.intro @Bool.not_false<|And.intro @Bool.true_and<|And.intro @Bool.and_true<|And.intro @Bool.false_and<|And.intro @Bool.and_false<|And.intro @Bool.not_not<|And.intro @V.bool.injEq<|And.intro @Nat.zero_add<|And.intro @Nat.add_zero<|And.intro @anN<|And.intro @anO<|And.intro @anM<|And.intro @Bool.true_eq_false<|And.intro @Bool.false_eq_true<|And.intro @anT<|And.intro @alV<|And.intro @alW<|And.intro @ZG<|And.intro @ZF<|And.intro @ZC<|And.intro @Zz<|And.intro @aeD<|And.intro @aeF<|And.intro @aeE<|And.intro @ZA<|And.intro @ZB<|@ZD
def aoB:=
 And.intro @ZE<|And.intro @CF<|And.intro @aoG<|And.intro @rC<|And.intro @aoH<|And.intro @Gv<|And.intro @aoI<|And.intro @akO<|And.intro @aoJ<|And.intro @UP<|And.intro @aoK<|And.intro @akP<|And.intro @aoL<|And.intro @akQ<|And.intro @aoM<|And.intro @akR<|And.intro @aoN<|And.intro @adv<|And.intro @ads<|And.intro @adu<|And.intro @adt<|And.intro @adw<|And.intro @Bool.or_false<|And.intro @Bool.false_or<|And.intro @Bool.or_true<|And.intro @Bool.true_or<|And.intro @akB<|And.intro @aki<|And.intro @akk<|And.intro @alj<|And.intro @alk<|And.intro @Y8<|And.intro @Zc<|And.intro @Zd<|And.intro @Ze<|And.intro @Zf<|And.intro @Zg<|And.intro @Zh<|And.intro @Zi<|@Zj
def aoC:=
 And.intro @Y7<|And.intro @Y9<|And.intro @Y'<|And.intro @Y_<|And.intro @Za<|And.intro @Zb<|And.intro @am3<|And.intro @am4<|And.intro @am6<|And.intro @am1<|And.intro @amM<|And.intro @G2<|And.intro @amL<|@amN
end
section
open Go Go.RowKit
variable [Lay]
theorem qO {B:Nat} {h:ah} {size:Nat} {s:V} {n:Nat} {us cs:List V} (cq:1<=size) (H1:cJ B h size s n us) (da:B<=h.next) (hlen:(n+1) * size<=top) (hA:cs.length=size) (a6:eI cs=true):
 ∃v ab,ij size s (.slice (aj h.next) 0 1 1) (h.new (.bE cs 0 false))=.val v ab/\cJ B ab size v (n+1) (us++cs)/\Mod s.aN h ab/\h.next+1<=ab.next/\∀b,v.aN b->s.aN b\/h.next<cB b:=by
 have ak:Ext h (h.new (.bE cs 0 false)):=(Ext.refl h).new _;have bj:fG (h.new (.bE cs 0 false)) size (.slice (aj h.next) 0 1 1) 1 cs:=by refine ⟨by rw [hA];omega,rfl,fW (by rw [gk];omega),cs,.inr ⟨0,false,by rw [nd]⟩,by omega,by simp⟩
 obtain ⟨v,ab,ar,aw,aK,bY⟩:=D' cq (H1.ext ak) bj (by rw [gk];omega) hlen a6;refine ⟨v,ab,ar,aw,(ak.mod _).trans aK,by have:=aK.next;rw [gk] at this;exact this,fun b ae=>?_⟩;rcases bY b ae with q | q
 . exact .inl q
 . exact .inr (by rw [gk] at q;omega)
theorem Xg:∀l:List UInt8,oM (iD l)=some l
 | []=>rfl
 | c::l=>by have bq:=Xg l;simp only [iD,oM,bq];simp
theorem El:∀l:List UInt8,(iD l).length=l.length
 | []=>rfl
 | c::l=>by simp only [iD,List.length_cons,El l]
theorem Ps:∀l m:List UInt8,iD (l++m)=iD l++iD m
 | [],m=>rfl
 | c::l,m=>by simp only [iD,List.cons_append,Ps l m]
theorem WV {h:ah} {b:aQ} {us:List V} {cQ:Nat} {st:Bool} {off:Nat} {l:List UInt8} (aB:h.get b=.bE us cQ st) (aA:off+l.length<=us.length) (hu:(us.drop off).take l.length=iD l):uY b off l.length h=.val (.str l) h:=by unfold uY;rw [aB];simp only [cd.pE,cd.bE];rw [show Nat.ble (off+l.length) us.length=true from by rw [Nat.ble_eq];exact aA];simp only [cond_true];rw [EX us l.length off aA,hu,Xg]
theorem QY {B:Nat} {h:ah} {v:V} {n:Nat} {l:List UInt8} (H:cJ B h 1 v n (iD l)):tN.run v h=.val (.str l) h:=by
 have aa:=H.1;rw [El,Nat.mul_one] at aa;have ad:=H.2;cases v<;>simp only at ad<;>try (exact ad.elim)
 case bB=>
  subst ad;rw [List.length_eq_zero_iff] at aa;subst aa;rfl
 case slice=>
  obtain ⟨ar,aw,aK,bY,ek,us,cQ,st,fk,h3,jt⟩:=ad;rw [El] at jt;simp only [tN];rw [ar,<-aa];exact WV fk (by omega) jt
 case dY=>
  obtain ⟨ar,aw,aK,bY,ek,us,st,fk,h3,jt⟩:=ad;rw [El] at jt h3;simp only [tN];rw [ar,bY,<-aa];exact WV fk (by omega) (by simpa using jt)
theorem Mod.self {b:aQ} {h ab:ah} (e:Mod (fun q=>q=b) h ab) (k:cd):Mod (fun q=>q=b) h (ab.set b k):=e.set (fun _=>rfl) k
theorem Mod.fresh {M:aQ->Prop} {h ab:ah} (e:Mod M h ab) {i:Nat} (ao:h.next<=i) (k:cd):Mod M h (ab.set (aj i) k):=
 e.set (fun q=>absurd (show cB (aj i)<h.next from q) (by rw [b9];omega)) k
theorem Mod.z_ {M N:aQ->Prop} {h ad aJ:ah} (e:Mod M h ad) (q:Mod N ad aJ) (aV:∀b,N b->h.next<=cB b):Mod M h aJ:=
 ⟨Nat.le_trans e.next q.next,fun b a6 ae=>by rw [q.get b (e.bF a6) (fun k=>absurd (show cB b<h.next from a6) (by have:=aV b k;omega)),e.get b a6 ae]⟩
end
end Go.Proofs.YthemdhlheglhoaaGreatDoor.a8
