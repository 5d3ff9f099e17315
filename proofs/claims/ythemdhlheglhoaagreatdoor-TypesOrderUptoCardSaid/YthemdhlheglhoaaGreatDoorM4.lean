/- The abstract machine and its walks (a verified interpreter of the model's code: plain definitions and lemmas, no condition). Printed by a program from longer texts: names made short. -/
import Derived.Test.YthemdhlheglhoaaGreatDoorM3
import Derived.IntWalk
import Derived.Carry
import Derived.OpenShut
import Derived.ChangeSame
import Derived.Lib.Bytealg
import Derived.Lib.IndexMore
import Derived.Handed
import Derived.HandedShaped
import Derived.ChangeArms
import Derived.DataReads
import Derived.ChangeBears
set_option linter.unusedSectionVars false
set_option linter.unusedSimpArgs false
set_option linter.unusedVariables false
namespace Go.Proofs.YthemdhlheglhoaaGreatDoor.aY
variable [Lay]
open Go Go.RowKit
inductive aR where
 | t (n:Nat)
 | c (v:V)
abbrev aT:=Nat→V
def aR.aV (r:aT):aR→V
 | .t n=>r n
 | .c v=>v
def aR.fI (r:aT):List aR→List V
 | []=>[]
 | x::xs=>x.aV r::aR.fI r xs
def rx:Operand→aR
 | .tmp t=>bif Nat.ble t top then .t t else .c .bad
 | .const v=>.c (hb v)
 | .func f=>bif Nat.beq f da then .c .bad else .c (.func f [])
 | .global _=>.c .bad
def nw:List Operand→List aR
 | []=>[]
 | x::xs=>rx x::nw xs
def aR.opt (r:aT):Option aR→Option V
 | none=>none
 | some x=>some (x.aV r)
def re:Option Operand→Option aR
 | none=>none
 | some x=>some (rx x)
inductive eW where
 | int (op:BinOp)
 | str (op:BinOp)
 | shl
 | shr
 | tj (neg:Bool)
 | kD (neg:Bool) (k:Nat)
 | other (op:BinOp) (t:TypeId)
noncomputable def eW.run (P:Program):eW→V→V→Option V
 | .int op=>(lf op).run
 | .str op=>(ri op).run
 | .shl=>(uz true).run
 | .shr=>(uz false).run
 | .tj neg=>(iL neg pA).run
 | .kD neg k=>(iL neg (gQ k)).run
 | .other op t=>(qw P op t).run
inductive ry where
 | int (k:IntKind)
 | bytes
 | str
 | other (s d:TypeId)
noncomputable def ry.run (P:Program):ry→V→af→aU
 | .int k=>fun x h=>x.ep .fail fun _ n=>.val (.int k (k.wrap n)) h
 | .bytes=>xC.run
 | .str=>rP.run
 | .other s d=>(py P s d).run
inductive jO where
 | int | str | bool
def jO.eq:jO→dq
 | .int=>k1
 | .str=>th
 | .bool=>pA
inductive zF where
 | arr (n:Nat)
 | str
 | slice
 | map
inductive G where
 | bad
 | gH (x:aR)
 | pick (c a b:aR)
 | new (z:List V)
 | box (x:aR)
 | build (z:List V) (a_:List (Nat × Nat × aR))
 | kA (len size:Nat) (z:List V) (a_:List (Nat × Nat × aR))
 | jy (x:aR)
 | ki (size:Nat) (x:aR)
 | st (size:Nat) (x y:aR)
 | sj (x:aR)
 | bin (k:eW) (x y:aR)
 | un (op:UnOp) (x:aR)
 | jQ (k:ry) (x:aR)
 | fn (f:FuncId) (eJ:List aR)
 | yG (f:FuncId) (first:List aR)
 | zT (t:TypeId) (z:Option V) (ok:Bool) (x:aR)
 | tW (t:TypeId) (x:aR)
 | yE (size:Nat) (z:List V) (l c:aR)
 | qb (x:aR) (bG aF dO:Option aR)
 | hf (size:Nat) (x:aR) (bG aF dO:Option aR)
 | jR (off:Nat) (x:aR)
 | tm (off:Nat) (x:aR)
 | tn (off size:Nat) (x:aR)
 | fz (size:Nat) (x i:aR)
 | wa (n size:Nat) (x i:aR)
 | lg (x i:aR)
 | jx (t:TypeId) (x i:aR)
 | look (k:jO) (z:V) (ok:Bool) (x i:aR)
 | lz (k:jO) (m i x:aR)
 | q5 (x:Option aR)
 | wK (x:aR)
 | wz (x:aR)
 | ext (x:aR) (i:Nat)
 | call (f:FuncId) (args:List aR)
 | oG (f:aR) (args:List aR)
 | len (k:zF) (x:aR)
 | app (size:Nat) (s x:aR)
 | copy (size:Nat) (d s:aR)
 | wq (args:List aR)
 | dO (args:List aR)
 | JW (z:List V) (x:aR)
def kb (r:aT):List (Nat × Nat × aR)→List (Nat × Nat × V)
 | []=>[]
 | (o,s,x)::a_=>(o,s,x.aV r)::kb r a_
def iw:List V→List (Nat × Nat × V)→Option (List V)
 | cells,[]=>some cells
 | cells,(off,size,v)::rest=>bif v.gb&&(Nat.beq v.cells.length size&&Nat.ble (off+v.cells.length) cells.length) then iw (qE cells off v.cells) rest else none
noncomputable def zF.run:zF→V→af→aU
 | .arr n=>fun _ h=>.val (.int .i64 n) h
 | .str=>fun x h=>aU.of h ((n' .string).run x)
 | .slice=>fun x h=>aU.of h ((n' (.slice 0)).run x)
 | .map=>fun x h=>yy [x] h
noncomputable def G.run (P:Program) (g:G) (call:dw) (r:aT) (h:af):aU:=
 match g with
 | .bad=>.fail
 | .gH x=>.val (x.aV r) h
 | .pick c a b=>match c.aV r with
   | .bool t=>.val (bif t then a.aV r else b.aV r) h
   | _=>.fail
 | .new z=>gI (.ptr (ai h.next) 0) (gg h z)
 | .box x=>bif (x.aV r).gb then gI (.ptr (ai h.next) 0) (gg h (x.aV r).cells) else .fail
 | .build z a_=>(match iw z (kb r a_) with
   | some cs=>.val (.agg cs) h
   | none=>.fail)
 | .kA n _ z a_=>match iw (i_ z n) (kb r a_) with
   | some cs=>(match gg h cs with
     | some ab=>.val (.slice (ai h.next) 0 n n) ab
     | none=>.fail)
   | none=>.fail
 | .jy x=>aU.of h (mF h (x.aV r))
 | .ki n x=>aU.of h (mE n h (x.aV r))
 | .st n x y=>gI .bad (uC n h (x.aV r) (y.aV r))
 | .sj x=>aU.of h (si (x.aV r))
 | .bin k x y=>aU.of h (k.run P (x.aV r) (y.aV r))
 | .un op x=>aU.of h (qd op (x.aV r))
 | .jQ k x=>k.run P (x.aV r) h
 | .fn f eJ=>.val (.func f (aR.fI r eJ)) h
 | .yG f first=>.val (.ob f (aR.fI r first)) h
 | .zT t z ok x=>aU.of h (xo t z ok (x.aV r))
 | .tW t x=>.val (.iface t (x.aV r)) h
 | .yE n z l c=>BH n z (l.aV r) (c.aV r) h
 | .qb x bG aF m3=>aU.of h (l2 (x.aV r) (aR.opt r bG) (aR.opt r aF) (aR.opt r m3))
 | .hf n x bG aF m3=>aU.of h (match x.aV r with
   | .cq=>Cs (aR.opt r bG) (aR.opt r aF) (aR.opt r m3)
   | .slice b off ug cap=>wR n b off ug cap (aR.opt r bG) (aR.opt r aF) (aR.opt r m3)
   | .e8 b off ug idx=>wQ n b off ug idx (aR.opt r bG) (aR.opt r aF) (aR.opt r m3)
   | .hS b off nu idx=>Ct b off nu idx (aR.opt r bG) (aR.opt r aF) (aR.opt r m3)
   | _=>none)
 | .jR off x=>aU.of h ((x.aV r).iY none fun b o=>some (.ptr b (o+off)))
 | .tm off x=>aU.of h (match x.aV r with
   | .agg cs=>cs[off]?
   | _=>none)
 | .tn off n x=>aU.of h (match x.aV r with
   | .agg cs=>some (.agg ((cs.drop off).take n))
   | _=>none)
 | .fz n x i=>aU.of h ((t' n).run (x.aV r) (i.aV r))
 | .wa n s x i=>aU.of h ((tZ n s).run (x.aV r) (i.aV r))
 | .lg x i=>aU.of h (qZ.run (x.aV r) (i.aV r))
 | .jx t x i=>aU.of h ((qY P t).run (x.aV r) (i.aV r))
 | .look k z ok x i=>aU.of h (oa k.eq z ok h (x.aV r) (i.aV r))
 | .lz k m i x=>gI .bad (nz k.eq h (m.aV r) (i.aV r) (x.aV r))
 | .q5 x=>o4 (aR.opt r x) h
 | .wK x=>(match x.aV r with
   | .str s=>.val (.ptr (ai h.next) 0) (h.new (.iter s 0))
   | _=>.fail)
 | .wz x=>uk (x.aV r) h
 | .ext x i=>(match x.aV r with
   | .tuple ad=>aU.of h ad[i]?
   | _=>.fail)
 | .call f args=>call f (aR.fI r args) h
 | .oG f args=>(f.aV r).wA (aR.fI r args) fun g xs=>call g xs h
 | .len k x=>k.run (x.aV r) h
 | .app n s x=>mY n (s.aV r) (x.aV r) h
 | .copy n d s=>copyV n (d.aV r) (s.aV r) h
 | .wq args=>aU.of h (km (fun b a=>!Int.leB a b) (aR.fI r args))
 | .dO args=>aU.of h (km (fun b a=>!Int.leB b a) (aR.fI r args))
 | .JW z x=>Ac z (x.aV r) h
def HK (P:Program) (op:BinOp) (t:TypeId):eW:=
 match op with
 | .shl=>.shl
 | .shr=>.shr
 | op=>match aZ P t with
   | none=>.other op t
   | some aL=>match aL.a' with
     | .int _=>.int op
     | .string=>.str op
     | .bool=>(match op with
       | .eql=>.tj false
       | .neq=>.tj true
       | _=>.other op t)
     | .pointer _=>(match op with
       | .eql=>.kD false 1
       | .neq=>.kD true 1
       | _=>.other op t)
     | .slice _=>(match op with
       | .eql=>.kD false 2
       | .neq=>.kD true 2
       | _=>.other op t)
     | .map _ _=>(match op with
       | .eql=>.kD false 3
       | .neq=>.kD true 3
       | _=>.other op t)
     | .func _ _ _=>(match op with
       | .eql=>.kD false 4
       | .neq=>.kD true 4
       | _=>.other op t)
     | _=>.other op t
def HP (P:Program) (op:BinOp) (t:TypeId) (lit:Bool):eW:=
 bif lit then (match aZ P t with
  | some aL=>match aL.a' with
    | .interface _=>match op with
      | .eql=>.kD false 5
      | .neq=>.kD true 5
      | _=>.kD false 99
    | _=>.kD false 99
  | none=>.kD false 99) else HK P op t
def HN (P:Program) (s d:TypeId):ry:=
 match aZ P s,aZ P d with
 | some sA,some nI=>match nI.a' with
   | .int k=>.int k
   | .string=>match sA.a' with
     | .slice e=>match aZ P e with
       | some bb=>match bb.a' with
         | .int .u8=>.str
         | _=>.other s d
       | none=>.other s d
     | _=>.other s d
   | .slice e=>match aZ P e with
     | some bb=>match bb.a' with
       | .int .u8=>.bytes
       | _=>.other s d
     | none=>.other s d
   | _=>.other s d
 | _,_=>.other s d
def o' (place:Nat→Option (Nat × Nat)):List (Nat × Operand)→Option (List (Nat × Nat × aR))
 | []=>some []
 | (i,x)::a_=>match place i with
   | none=>none
   | some (off,size)=>match o' place a_ with
     | none=>none
     | some l=>some ((off,size,rx x)::l)
def OP (P:Program) (t:TypeId) (a_:List (Nat × Operand)):G:=
 match aZ P t with
 | some aL=>match aL.zero with
   | some z=>match aL.a' with
     | .struct b6=>bif Az P b6.toList then (match o' (vi P b6) a_ with
       | some l=>.build z.cells l
       | none=>.bad) else .bad
     | .array _ e=>match aZ P e with
       | some bb=>(match o' (fun i=>some (i * bb.size,bb.size)) a_ with
         | some l=>.build z.cells l
         | none=>.bad)
       | none=>.bad
     | _=>.bad
   | none=>.bad
 | none=>.bad
def OS (P:Program) (t:TypeId) (len:Nat) (a_:List (Nat × Operand)):G:=
 match aZ P t with
 | some aL=>match aL.a' with
   | .slice e=>match aZ P e with
     | some bb=>match bb.zero with
       | some z=>bif Nat.ble (len * bb.size) 1000000&&Nat.beq z.cells.length bb.size then
          (match o' (fun i=>some (i * bb.size,bb.size)) a_ with
          | some l=>.kA len bb.size z.cells l
          | none=>.bad) else .bad
       | none=>.bad
     | none=>.bad
   | _=>.bad
 | none=>.bad
def uc:TypeDesc→Option jO
 | .int _=>some .int
 | .string=>some .str
 | .bool=>some .bool
 | _=>none
def Ev (P:Program) (t:TypeId):Option (List V):=
 match aZ P t with
 | some aL=>match aL.a' with
   | .slice e=>match aZ P e with
     | some bb=>match bb.zero with
       | some z=>some z.cells
       | none=>none
     | none=>none
   | _=>none
 | none=>none
theorem Ut (P:Program) (t:TypeId):xA P t=Ev P t:=rfl
def HM (P:Program) (c:Call):G:=
 match c.callee with
 | .value (.func f)=>bif Nat.beq f da then .bad else .call f (nw c.args.toList)
 | .value x=>.oG (rx x) (nw c.args.toList)
 | .invoke _ _=>.bad
 | .builtin b=>match b with
   | .len=>match c.argTypes.toList,c.args.toList with
     | [t],[x]=>(match aZ P t with
       | some aL=>(match aL.a' with
         | .map _ _=>.len .map (rx x)
         | .array n _=>.len (.arr n) (rx x)
         | .string=>.len .str (rx x)
         | .slice _=>.len .slice (rx x)
         | _=>.bad)
       | none=>.bad)
     | _,_=>.bad
   | .append=>match c.argTypes.toList,c.args.toList with
     | [t,u],[s,x]=>(match aZ P t,aZ P u with
       | some aL,some rq=>(match rq.a' with
         | .int _=>.bad
         | _=>match aL.a' with
           | .slice e=>(match aZ P e with
             | none=>.bad
             | some bb=>match bb.zero with
               | none=>.bad
               | some z=>bif Nat.ble 1 bb.size&&Nat.ble bb.bytes 4096&&Nat.beq z.cells.length bb.size then .app bb.size (rx s) (rx x) else .bad)
           | _=>.bad)
       | _,_=>.bad)
     | _,_=>.bad
   | .copy=>match c.argTypes.toList,c.args.toList with
     | t::_,[d,s]=>(match aZ P t with
       | some aL=>(match aL.a' with
         | .slice e=>(match aZ P e with
           | some bb=>.copy bb.size (rx d) (rx s)
           | none=>.bad)
         | _=>.bad)
       | none=>.bad)
     | _,_=>.bad
   | .min=>.wq (nw c.args.toList)
   | .max=>.dO (nw c.args.toList)
   | .clear=>match c.argTypes.toList,c.args.toList with
     | [t],[x]=>(match Ev P t with
       | some z=>.JW z (rx x)
       | none=>.bad)
     | _,_=>.bad
   | _=>.bad
def Cj (P:Program) (op:Op):G:=
 match op with
 | .move x=>.gH (rx x)
 | .assign x=>.gH (rx x)
 | .pick c a b=>.pick (rx c) (rx a) (rx b)
 | .alloc t=>(match aZ P t with
   | some aL=>(match aL.zero with
     | some z=>.new z.cells
     | none=>.bad)
   | none=>.bad)
 | .box _ x=>.box (rx x)
 | .build t a_=>OP P t a_.toList
 | .buildSlice t n a_=>OS P t n a_.toList
 | .load t x=>(match aZ P t with
   | none=>.bad
   | some aL=>bif aL.agg then .ki aL.size (rx x) else bif Nat.beq aL.size 1 then .jy (rx x) else .bad)
 | .store t x y=>(match aZ P t with
   | none=>.bad
   | some aL=>.st aL.size (rx x) (rx y))
 | .nilCheck x=>.sj (rx x)
 | .binOp op t x y _=>.bin (HP P op t (p6 x||p6 y)) (rx x) (rx y)
 | .unOp op _ x=>.un op (rx x)
 | .convert s d x=>.jQ (HN P s d) (rx x)
 | .makeFunc (.func f) first eJ=>bif first.isEmpty&&!Nat.beq f da then .fn f (nw eJ.toList) else bif eJ.isEmpty&&!Nat.beq f da then .yG f (nw first.toList) else .bad
 | .makeInterface t x=>(match aZ P t with
   | some aL=>bif Nat.beq (e2 aL.a') 5 then .bad else .tW t (rx x)
   | none=>.bad)
 | .makeSlice t l c=>(match aZ P t with
   | some aL=>(match aL.a' with
     | .slice e=>(match aZ P e with
       | some bb=>(match bb.zero with
         | some z=>bif Nat.ble bb.bytes 4096 then .yE bb.size z.cells (rx l) (rx c) else .bad
         | none=>.bad)
       | none=>.bad)
     | _=>.bad)
   | none=>.bad)
 | .slice t x bG aF dO=>(match aZ P t with
   | none=>.bad
   | some aL=>match aL.a' with
     | .string=>.qb (rx x) (re bG) (re aF) (re dO)
     | .slice e=>(match aZ P e with
       | none=>.bad
       | some bb=>.hf bb.size (rx x) (re bG) (re aF) (re dO))
     | _=>.bad)
 | .fieldAddr t x i=>(match pH P t i with
   | none=>.bad
   | some f=>match aZ P f.type with
     | none=>.bad
     | some kc=>bif Nat.beq kc.size 0 then .bad else .jR f.offset (rx x))
 | .field t x i=>(match pH P t i with
   | none=>.bad
   | some f=>match aZ P f.type with
     | none=>.bad
     | some aL=>bif aL.agg then .tn f.offset aL.size (rx x) else .tm f.offset (rx x))
 | .indexAddr t x i=>(match aZ P t with
   | none=>.bad
   | some aL=>match aL.a' with
     | .slice e=>(match aZ P e with
       | none=>.bad
       | some bb=>.fz bb.size (rx x) (rx i))
     | .array n e=>(match aZ P e with
       | none=>.bad
       | some bb=>.wa n bb.size (rx x) (rx i))
     | _=>.bad)
 | .index t x i=>(match aZ P t with
   | none=>.bad
   | some aL=>match aL.a' with
     | .string=>.lg (rx x) (rx i)
     | _=>.jx t (rx x) (rx i))
 | .range t x=>(match aZ P t with
   | some aL=>(match aL.a' with
     | .string=>.wK (rx x)
     | _=>.bad)
   | none=>.bad)
 | .next it true=>.wz (rx it)
 | .lookup t x k ok=>(match aZ P t with
   | some aL=>(match aL.a' with
     | .map bp e=>(match aZ P bp with
       | some hs=>(match aZ P e with
         | some bb=>(match bb.zero with
           | some z=>(match uc hs.a' with
             | some cV=>.look cV z ok (rx x) (rx k)
             | none=>.bad)
           | none=>.bad)
         | none=>.bad)
       | none=>.bad)
     | _=>.bad)
   | none=>.bad)
 | .mapUpdate t m k x | .insert t m k x=>(match aZ P t with
   | some aL=>(match aL.a' with
     | .map bp _=>(match aZ P bp with
       | some hs=>(match uc hs.a' with
         | some cV=>.lz cV (rx m) (rx k) (rx x)
         | none=>.bad)
       | none=>.bad)
     | _=>.bad)
   | none=>.bad)
 | .makeMap t x=>(match aZ P t with
   | some aL=>bif Nat.beq (e2 aL.a') 3 then .q5 (re x) else .bad
   | none=>.bad)
 | .extract x i=>.ext (rx x) i
 | .typeAssert x _ t ok=>(match aZ P t with
   | some aL=>bif Nat.beq (e2 aL.a') 5 then .bad else .zT t aL.zero ok (rx x)
   | none=>.bad)
 | .call c=>HM P c
 | _=>.bad
noncomputable def dV (cI:bt):aT:=fun t=>T.get .bad (ai t) cI
theorem f_ (cI:bt) (x:Operand):(bF x).run cI=(rx x).aV (dV cI):=by
 cases x with
 | tmp t=>
   simp only [bF,rx]
   cases Nat.ble t top<;>rfl
 | const v=>rfl
 | func f=>
   simp only [bF,rx]
   cases Nat.beq f da<;>rfl
 | global g=>rfl
theorem vg (cI:bt):∀xs:List Operand,(pE xs).run cI=aR.fI (dV cI) (nw xs)
 | []=>rfl
 | x::xs=>by simp only [pE,nw,aR.fI,f_,vg cI xs]
theorem Hc (cI:bt) (x:Option Operand):(p9 x).run cI=aR.opt (dV cI) (re x):=by
 cases x with
 | none=>rfl
 | some x=>simp only [p9,re,aR.opt,f_]
theorem AA (cI:bt) {place:Nat→Option (Nat × Nat)}:∀{a_:List (Nat × Operand)} {l:List (Nat × Nat × aR)},o' place a_=some l→∀cells,mj place cells ((sq a_).run cI)=iw cells (kb (dV cI) l)
 | [],l,h,cells=>by
   simp only [o',Option.some.injEq] at h
   subst h
   rfl
 | (i,x)::a_,l,h,cells=>by
   simp only [o'] at h
   cases ag:place i with
   | none=>rw [ag] at h;cases h
   | some os=>
     obtain ⟨off,size⟩:=os
     rw [ag] at h
     simp only at h
     cases ao:o' place a_ with
     | none=>rw [ao] at h;cases h
     | some cE=>
       rw [ao] at h
       simp only [Option.some.injEq] at h
       subst h
       simp only [sq,mj,ag,kb,iw,f_]
       cases ((rx x).aV (dV cI)).gb&&(Nat.beq ((rx x).aV (dV cI)).cells.length size&&Nat.ble (off + ((rx x).aV (dV cI)).cells.length) cells.length) with
       | false=>rfl
       | true=>exact AA cI ao _
section
variable {P:Program}
theorem adw (op:BinOp) (t:TypeId):(HK P op t).run P=(qw P op t).run:=by
 unfold HK qw
 cases op<;>first | rfl | skip
 all_goals
  cases ax:aZ P t with
  | none=>simp only [eW.run];unfold qw;rw [ax]
  | some aL=>
    simp only
    cases hu:aL.a'<;>first | rfl | (simp only [eW.run];unfold qw;rw [ax];simp only [hu];done) | (simp only [eW.run];unfold oI hj;simp only [ax,hu];first | done | rfl)
theorem adz (op:BinOp) (t:TypeId) (lit:Bool):(HP P op t lit).run P=(xq P op t lit).run:=by
 unfold HP xq
 cases lit with
 | false=>simp only [cond_false];exact adw op t
 | true=>
   simp only [cond_true]
   cases aZ P t with
   | none=>rfl
   | some aL=>
     simp only
     cases aL.a'<;>first | rfl | (cases op<;>rfl)
theorem ady (s d:TypeId):(HN P s d).run P=(py P s d).run:=by
 unfold HN
 split
 · rename_i sA nI aO aX
   split
   · rename_i k hu
     simp only [ry.run];unfold py;rw [aO,aX];simp only [hu]
   · rename_i hu
     split
     · rename_i e br
       split
       · rename_i bb he
         split
         · rename_i hw
           simp only [ry.run];unfold py;rw [aO,aX];simp only [hu,br,he,hw]
         · rfl
       · rfl
     · rfl
   · rename_i e hu
     split
     · rename_i bb he
       split
       · rename_i hw
         simp only [ry.run];unfold py;rw [aO,aX];simp only [hu,he,hw]
       · rfl
     · rfl
   · rfl
 · rfl
theorem GC {d:TypeDesc} {cV:jO} (h:uc d=some cV):nj d=true∧kL d=cV.eq:=by
 cases d<;>simp only [uc] at h<;>first | (cases h;done) | (cases h;exact ⟨rfl,rfl⟩)
theorem adx {c:Call} {call:dw} {cI:bt} {h ab:af} {v:V} (he:(HM P c).run P call (dV cI) h=.val v ab):(qz P c).run call cI h=.val v ab:=by
 unfold HM at he
 unfold qz
 split at he
 · rename_i f aD
   rw [aD]
   cases a7:Nat.beq f da with
   | true=>rw [a7] at he;cases he
   | false=>
     rw [a7] at he
     simp only [cond_false,G.run] at he
     simpa only [bF,a7,cond_false,pD,V.wA,vg,List.append_nil] using he
 · rename_i x ak aD
   rw [aD]
   simp only [G.run] at he
   simpa only [f_,vg] using he
 · cases he
 · rename_i b aD
   rw [aD]
   simp only [vg]
   cases b<;>simp only at he<;>try (cases he;done)
   case len=>
    split at he
    · rename_i t x ax ak
      cases nh:aZ P t with
      | none=>rw [nh] at he;cases he
      | some aL=>
        rw [nh] at he
        simp only at he
        simp only [qx,ax,nh,ak,nw,aR.fI]
        cases hu:aL.a'<;>rw [hu] at he<;>first | (cases he;done) | (simpa only [sc,cond_true,cond_false,G.run,zF.run,n',aU.of] using he)
    · cases he
   case append=>
    split at he
    · rename_i t u s x ax ak
      split at he
      · rename_i aL rq nh vY
        simp only [qx,ax,ak,nw,aR.fI,zQ,nh,vY]
        split at he
        · cases he
        · rename_i dJ
          split at he
          · rename_i e cj
            cases fl:aZ P e with
            | none=>rw [fl] at he;cases he
            | some bb=>
              rw [fl] at he
              simp only at he
              cases bs:bb.zero with
              | none=>rw [bs] at he;cases he
              | some z=>
                rw [bs] at he
                simp only at he
                cases ah:(Nat.ble 1 bb.size&&Nat.ble bb.bytes 4096&&Nat.beq z.cells.length bb.size) with
                | false=>rw [ah] at he;cases he
                | true=>
                  rw [ah] at he
                  simp only [cond_true,G.run] at he
                  cases Gh:rq.a'<;>first
                   | (exact absurd Gh (dJ _))
                   | (simp only [cj,fl,bs,ah,cond_true];exact he)
          · cases he
      · cases he
    · cases he
   case copy=>
    split at he
    · rename_i t cr d s ax ak
      cases nh:aZ P t with
      | none=>rw [nh] at he;cases he
      | some aL=>
        rw [nh] at he
        simp only at he
        split at he
        · rename_i e cj
          cases fl:aZ P e with
          | none=>rw [fl] at he;cases he
          | some bb=>
            rw [fl] at he
            simp only [G.run] at he
            simp only [qx,ax,ak,nw,aR.fI,Ad,nh,cj,fl]
            exact he
        · cases he
    · cases he
   case min=>exact he
   case max=>exact he
   case clear=>
    split at he
    · rename_i t x ax ak
      cases aD:Ev P t with
      | none=>rw [aD] at he;cases he
      | some z=>
        rw [aD] at he
        simp only [G.run] at he
        simp only [qx,ax,ak,nw,aR.fI,Ut,aD]
        exact he
    · cases he
theorem OQ {o:Oper} {call:dw} {cI:bt} {h ab:af} {v:V} (he:(Cj P o.op).run P call (dV cI) h=.val v ab):(fb P o).run call cI h=.val v ab:=by
 obtain ⟨dst,op,type,pos,after,guard⟩:=o
 cases op<;>simp only [Cj] at he<;>try (cases he;done)
 all_goals simp only [fb]
 case move x=>simpa only [f_,G.run] using he
 case assign x=>simpa only [f_,G.run] using he
 case pick c a b=>
  simp only [f_,G.run] at he ⊢
  generalize (rx c).aV (dV cI)=q at he ⊢
  cases q<;>exact he
 case alloc t=>
  cases ax:aZ P t with
  | none=>rw [ax] at he;cases he
  | some aL=>
    rw [ax] at he
    simp only at he ⊢
    cases bs:aL.zero with
    | none=>rw [bs] at he;cases he
    | some z=>rw [bs] at he;exact he
 case box t x=>simpa only [f_,G.run] using he
 case build t a_=>
  unfold OP at he
  unfold zZ
  cases ax:aZ P t with
  | none=>rw [ax] at he;cases he
  | some aL=>
    rw [ax] at he
    simp only at he ⊢
    cases bs:aL.zero with
    | none=>rw [bs] at he;cases he
    | some z=>
      rw [bs] at he
      simp only at he ⊢
      cases hu:aL.a'<;>rw [hu] at he<;>simp only at he ⊢<;>try (cases he;done)
      · rename_i n e
        cases fl:aZ P e with
        | none=>rw [fl] at he;cases he
        | some bb=>
          rw [fl] at he
          simp only at he ⊢
          cases ag:o' (fun i=>some (i * bb.size,bb.size)) a_.toList with
          | none=>rw [ag] at he;cases he
          | some l=>
            rw [ag] at he
            simp only [G.run] at he
            rw [AA cI ag]
            cases ar:iw z.cells (kb (dV cI) l) with
            | none=>rw [ar] at he;cases he
            | some cs=>rw [ar] at he;exact he
      · rename_i b6
        cases ay:Az P b6.toList with
        | false=>rw [ay] at he;cases he
        | true=>
          rw [ay] at he
          simp only [cond_true] at he ⊢
          cases ag:o' (vi P b6) a_.toList with
          | none=>rw [ag] at he;cases he
          | some l=>
            rw [ag] at he
            simp only [G.run] at he
            rw [AA cI ag]
            cases ar:iw z.cells (kb (dV cI) l) with
            | none=>rw [ar] at he;cases he
            | some cs=>rw [ar] at he;exact he
 case buildSlice t n a_=>
  unfold OS at he
  unfold s7
  cases ax:aZ P t with
  | none=>rw [ax] at he;cases he
  | some aL=>
    rw [ax] at he
    simp only at he ⊢
    cases hu:aL.a'<;>rw [hu] at he<;>simp only at he ⊢<;>try (cases he;done)
    rename_i e
    cases fl:aZ P e with
    | none=>rw [fl] at he;cases he
    | some bb=>
      rw [fl] at he
      simp only at he ⊢
      cases bs:bb.zero with
      | none=>rw [bs] at he;cases he
      | some z=>
        rw [bs] at he
        simp only at he ⊢
        cases ah:(Nat.ble (n * bb.size) 1000000&&Nat.beq z.cells.length bb.size) with
        | false=>rw [ah] at he;cases he
        | true=>
          rw [ah] at he
          simp only [cond_true] at he ⊢
          cases ag:o' (fun i=>some (i * bb.size,bb.size)) a_.toList with
          | none=>rw [ag] at he;cases he
          | some l=>
            rw [ag] at he
            simp only [G.run] at he
            rw [AA cI ag]
            exact he
 case load t x=>
  unfold o3
  cases ax:aZ P t with
  | none=>rw [ax] at he;cases he
  | some aL=>
    rw [ax] at he
    simp only at he ⊢
    cases bd:aL.agg with
    | true=>rw [bd] at he;simpa only [cond_true,f_,G.run] using he
    | false=>
      rw [bd] at he
      simp only [cond_false] at he ⊢
      cases aO:Nat.beq aL.size 1 with
      | true=>rw [aO] at he;simpa only [cond_true,f_,G.run] using he
      | false=>rw [aO] at he;cases he
 case store t x y=>
  unfold rf
  cases ax:aZ P t with
  | none=>rw [ax] at he;cases he
  | some aL=>rw [ax] at he;simpa only [f_,G.run] using he
 case nilCheck x=>simpa only [f_,G.run] using he
 case binOp op t x y t2=>simpa only [f_,G.run,adz] using he
 case unOp op t x=>simpa only [f_,G.run] using he
 case convert s d x=>simpa only [f_,G.run,ady] using he
 case makeFunc fn first eJ=>
  cases fn<;>simp only at he<;>try (cases he;done)
  simp only
  cases ar:(first.isEmpty&&!Nat.beq _ da) with
  | true=>rw [ar] at he;simpa only [cond_true,vg,G.run] using he
  | false=>
    rw [ar] at he
    simp only [cond_false] at he ⊢
    cases iM:(eJ.isEmpty&&!Nat.beq _ da) with
    | true=>rw [iM] at he;simpa only [cond_true,vg,G.run] using he
    | false=>rw [iM] at he;cases he
 case typeAssert x sG t ok=>
  cases ax:aZ P t with
  | none=>rw [ax] at he;cases he
  | some aL=>
    rw [ax] at he
    simp only at he ⊢
    cases ah:Nat.beq (e2 aL.a') 5 with
    | true=>rw [ah] at he;cases he
    | false=>rw [ah] at he;simpa only [cond_false,f_,G.run] using he
 case makeInterface t x=>
  cases ax:aZ P t with
  | none=>rw [ax] at he;cases he
  | some aL=>
    rw [ax] at he
    simp only at he ⊢
    cases ah:Nat.beq (e2 aL.a') 5 with
    | true=>rw [ah] at he;cases he
    | false=>rw [ah] at he;simpa only [cond_false,f_,G.run] using he
 case makeSlice t l c=>
  unfold BG
  cases ax:aZ P t with
  | none=>rw [ax] at he;cases he
  | some aL=>
    rw [ax] at he
    simp only at he ⊢
    cases hu:aL.a'<;>rw [hu] at he<;>simp only at he ⊢<;>try (cases he;done)
    rename_i e
    cases fl:aZ P e with
    | none=>rw [fl] at he;cases he
    | some bb=>
      rw [fl] at he
      simp only at he ⊢
      cases bs:bb.zero with
      | none=>rw [bs] at he;cases he
      | some z=>
        rw [bs] at he
        simp only at he ⊢
        cases ah:Nat.ble bb.bytes 4096 with
        | false=>rw [ah] at he;cases he
        | true=>rw [ah] at he;simpa only [cond_true,f_,G.run] using he
 case slice t x bG aF m3=>
  unfold Cr
  cases ax:aZ P t with
  | none=>rw [ax] at he;cases he
  | some aL=>
    rw [ax] at he
    simp only at he ⊢
    cases hu:aL.a'<;>rw [hu] at he<;>simp only at he ⊢<;>try (cases he;done)
    · simpa only [f_,Hc,G.run] using he
    · rename_i e
      cases fl:aZ P e with
      | none=>rw [fl] at he;cases he
      | some bb=>
        rw [fl] at he
        simp only [f_,Hc,G.run] at he ⊢
        generalize (rx x).aV (dV cI)=q at he ⊢
        cases q<;>exact he
 case fieldAddr t x i=>
  unfold Aw
  cases ar:pH P t i with
  | none=>rw [ar] at he;cases he
  | some f=>
    rw [ar] at he
    simp only at he ⊢
    cases ax:aZ P f.type with
    | none=>rw [ax] at he;cases he
    | some kc=>
      rw [ax] at he
      simp only at he ⊢
      cases ah:Nat.beq kc.size 0 with
      | true=>rw [ah] at he;cases he
      | false=>rw [ah] at he;simpa only [cond_false,f_,G.run] using he
 case field t x i=>
  unfold Ax
  cases ar:pH P t i with
  | none=>rw [ar] at he;cases he
  | some f=>
    rw [ar] at he
    simp only [o8] at he ⊢
    cases ax:aZ P f.type with
    | none=>rw [ax] at he;cases he
    | some kc=>
      rw [ax] at he
      simp only at he ⊢
      cases ah:kc.agg with
      | true=>
        rw [ah] at he
        simp only [cond_true,f_,G.run] at he ⊢
        generalize (rx x).aV (dV cI)=q at he ⊢
        cases q<;>exact he
      | false=>
        rw [ah] at he
        simp only [cond_false,f_,G.run] at he ⊢
        generalize (rx x).aV (dV cI)=q at he ⊢
        cases q<;>exact he
 case indexAddr t x i=>
  unfold Bo
  cases ax:aZ P t with
  | none=>rw [ax] at he;cases he
  | some aL=>
    rw [ax] at he
    simp only at he ⊢
    cases hu:aL.a'<;>rw [hu] at he<;>simp only at he ⊢<;>try (cases he;done)
    all_goals
     rename_i e
     cases fl:aZ P e with
     | none=>rw [fl] at he;cases he
     | some bb=>rw [fl] at he;simpa only [f_,G.run] using he
 case index t x i=>
  cases ax:aZ P t with
  | none=>rw [ax] at he;cases he
  | some aL=>
    rw [ax] at he
    simp only at he
    cases hu:aL.a'<;>rw [hu] at he<;>simp only [G.run] at he
    case string=>
     unfold qY
     rw [ax]
     simp only [hu]
     simpa only [f_] using he
    all_goals simpa only [f_] using he
 case range t x=>
  unfold Cf
  cases ax:aZ P t with
  | none=>rw [ax] at he;cases he
  | some aL=>
    rw [ax] at he
    simp only at he ⊢
    cases hu:aL.a'<;>rw [hu] at he<;>simp only at he ⊢<;>try (cases he;done)
    simp only [f_,G.run] at he ⊢
    generalize (rx x).aV (dV cI)=q at he ⊢
    cases q<;>exact he
 case next it b=>
  cases b<;>simp only at he<;>try (cases he;done)
  simpa only [cond_true,f_,G.run] using he
 case lookup t x k ok=>
  unfold BE
  cases ax:aZ P t with
  | none=>rw [ax] at he;cases he
  | some aL=>
    rw [ax] at he
    simp only at he ⊢
    cases hu:aL.a'<;>rw [hu] at he<;>simp only at he ⊢<;>try (cases he;done)
    rename_i bp e
    cases ay:aZ P bp with
    | none=>rw [ay] at he;cases he
    | some hs=>
      rw [ay] at he
      simp only at he ⊢
      cases fl:aZ P e with
      | none=>rw [fl] at he;cases he
      | some bb=>
        rw [fl] at he
        simp only at he ⊢
        cases bs:bb.zero with
        | none=>rw [bs] at he;cases he
        | some z=>
          rw [bs] at he
          simp only at he ⊢
          cases jW:uc hs.a' with
          | none=>rw [jW] at he;cases he
          | some cV=>
            rw [jW] at he
            obtain ⟨au,az⟩:=GC jW
            simp only [au,az,cond_true]
            simpa only [f_,G.run] using he
 case mapUpdate t m k x=>
  unfold ou
  cases ax:aZ P t with
  | none=>rw [ax] at he;cases he
  | some aL=>
    rw [ax] at he
    simp only at he ⊢
    cases hu:aL.a'<;>rw [hu] at he<;>simp only at he ⊢<;>try (cases he;done)
    rename_i bp e
    cases ay:aZ P bp with
    | none=>rw [ay] at he;cases he
    | some hs=>
      rw [ay] at he
      simp only at he ⊢
      cases jW:uc hs.a' with
      | none=>rw [jW] at he;cases he
      | some cV=>
        rw [jW] at he
        obtain ⟨au,az⟩:=GC jW
        simp only [au,az,cond_true]
        simpa only [f_,G.run] using he
 case insert t m k x=>
  unfold ou
  cases ax:aZ P t with
  | none=>rw [ax] at he;cases he
  | some aL=>
    rw [ax] at he
    simp only at he ⊢
    cases hu:aL.a'<;>rw [hu] at he<;>simp only at he ⊢<;>try (cases he;done)
    rename_i bp e
    cases ay:aZ P bp with
    | none=>rw [ay] at he;cases he
    | some hs=>
      rw [ay] at he
      simp only at he ⊢
      cases jW:uc hs.a' with
      | none=>rw [jW] at he;cases he
      | some cV=>
        rw [jW] at he
        obtain ⟨au,az⟩:=GC jW
        simp only [au,az,cond_true]
        simpa only [f_,G.run] using he
 case makeMap t x=>
  unfold wm
  cases ax:aZ P t with
  | none=>rw [ax] at he;cases he
  | some aL=>
    rw [ax] at he
    simp only at he ⊢
    cases ah:Nat.beq (e2 aL.a') 3 with
    | false=>rw [ah] at he;cases he
    | true=>rw [ah] at he;simpa only [cond_true,Hc,G.run] using he
 case extract x i=>
  simp only [f_,G.run] at he ⊢
  generalize (rx x).aV (dV cI)=q at he ⊢
  cases q<;>exact he
 case call c=>exact adx he
end
end Go.Proofs.YthemdhlheglhoaaGreatDoor.aY
namespace Go.Proofs.YthemdhlheglhoaaGreatDoor.aY
variable [Lay]
open Go Go.RowKit
def gp (P:Program) (f:FuncId) (args:List V) (h:af) (v:V) (ab:af):Prop:=
 f≠da∧(((∃fn,P.funcs[f]? =some fn∧fn.body.isSome=true)∧∀(aq:Fr) E w xs,a8 E args xs→a1 aq E h w→
  Calls P f xs.toArray w fun e aj=>∃an x,e=.returned x∧E.le an∧Rel an v x∧a1 aq an ab aj)∨
 ∀(aq:Fr) E w xs,a8 E args xs→a1 aq E h w→∃an x aj,(callFunc f xs.toArray).run P w=.ok (.value x) aj∧E.le an∧Rel an v x∧a1 aq an ab aj)
def Jc (P:Program) (args:List V) (b:aN) (h:af) (v:V) (ab:af):Prop:=
 ∀(aq:Fr) E w xs p,a8 E args xs→a1 aq E h w→E b=some p→
  ∃f tmps assign body,(Instr.yield p.bc xs.toArray).run P w=.ok (.round p.bc f tmps assign body) w∧
   RoundIn (ca none) 0 P p.bc f tmps assign body w fun e aj=>∃an x,e=.returned x∧E.le an∧Rel an v x∧a1 aq an ab aj
theorem gp.calls {P:Program} (bD:eI P) {f:FuncId} {args:List V} {h ab:af} {v:V} (H:gp P f args h v ab) (ah:∃fn,P.funcs[f]? =some fn∧fn.body.isSome=true) (aq:Fr) (E:Env) (w:World) (xs:List Value) (ak:a8 E args xs) (s:a1 aq E h w):
 Calls P f xs.toArray w fun e aj=>∃an x,e=.returned x∧E.le an∧Rel an v x∧a1 aq an ab aj:=by
 rcases H.2 with ⟨_,H⟩ | H
 · exact H aq E w xs ak s
 · obtain ⟨an,x,aj,aG,_⟩:=H aq E w xs ak s
   obtain ⟨fn,aa,ae⟩:=ah
   rw [sy bD aa ae] at aG
   cases aG
def b_ (P:Program) (f:FuncId) (args:List V) (h:af) (K:V→af→Prop):Prop:=∃v ab,gp P f args h v ab∧K v ab
def zM (P:Program) (args:List V) (b:aN) (h:af) (K:V→af→Prop):Prop:=∃v ab,Jc P args b h v ab∧K v ab
def Jd (P:Program) (xs:List V) (h:af) (K:V→af→Prop):Prop:=∃cA b,xs=cA++[.ptr b 0]∧zM P cA b h K
def ID (P:Program) (g:FuncId) (xs:List V) (h:af) (K:V→af→Prop):Prop:=if g=da then Jd P xs h K else b_ P g xs h K
def V.target (v:V) (args:List V):Option (FuncId × List V):=
 match v with
 | .func g cs=>some (g,args++cs)
 | .ob g cs=>some (g,cs++args)
 | _=>none
theorem NG {v:V} {args xs:List V} {g:FuncId} (h:v.target args=some (g,xs)) (F:FuncId→List V→aU):v.wA args F=F g xs:=by
 cases v<;>simp only [V.target] at h<;>try (cases h;done)
 all_goals (simp only [Option.some.injEq,Prod.mk.injEq] at h;obtain ⟨rfl,rfl⟩:=h;rfl)
theorem b_.mono {P:Program} {f:FuncId} {args:List V} {h:af} {K mQ:V→af→Prop} (c:b_ P f args h K) (ay:∀v ab,K v ab→mQ v ab):b_ P f args h mQ:=by
 obtain ⟨v,ab,au,az⟩:=c
 exact ⟨v,ab,au,ay v ab az⟩
def kM:dw:=fun _ _ _=>.fail
theorem BQ (P:Program):gz P kM∧gN P kM:=
 ⟨⟨fun _ f args h v ab _ he=>by simp [kM] at he,fun _ f args h v ab _ he=>by simp [kM] at he,fun _ args b h v ab he=>by simp [kM] at he,fun args h v ab he=>by simp [kM] at he⟩,fun f args h v ab he=>by simp [kM] at he⟩
open Classical in
noncomputable def mI (f:FuncId) (args:List V) (h:af) (v:V) (ab:af):dw:=
 fun f1 bE aa=>if f1=f∧bE=args∧aa=h then .val v ab else .fail
theorem NM {P:Program} {f:FuncId} {args:List V} {h ab:af} {v:V} (H:gp P f args h v ab):gz P (mI f args h v ab)∧gN P (mI f args h v ab):=by
 refine ⟨⟨fun aq f1 bE aa v1 jo _ he=>?_,fun aq f1 bE aa v1 jo _ he=>?_,fun aq bE b aa v1 jo he=>?_,fun bE aa v1 jo he=>?_⟩,fun f1 bE aa v1 jo he=>?_⟩
 · unfold mI at he
   split at he
   · rename_i aD
     obtain ⟨rfl,rfl,rfl⟩:=aD
     simp only [aU.val.injEq] at he
     obtain ⟨rfl,rfl⟩:=he
     intro E w xs ak s
     rcases H.2 with H | H
     · exact .inl ⟨H.1,H.2 aq E w xs ak s⟩
     · exact .inr (H aq E w xs ak s)
   · cases he
 · unfold mI at he
   split at he<;>cases he
 · unfold mI at he
   split at he
   · rename_i aD
     exact absurd aD.1.symm H.1
   · cases he
 · unfold mI at he
   split at he<;>cases he
 · trivial
theorem ad' {xs cA:List V} {x y:V} (h:xs++[x]=cA++[y]):xs=cA∧x=y:=by
 have:=List.append_inj' h rfl
 exact ⟨this.1,by simpa using this.2⟩
theorem acz {P:Program} {args:List V} {b:aN} {h ab:af} {v:V} (H:Jc P args b h v ab):gz P (mI da (args++[.ptr b 0]) h v ab)∧gN P (mI da (args++[.ptr b 0]) h v ab):=by
 refine ⟨⟨fun aq f1 bE aa v1 jo dJ he=>?_,fun aq f1 bE aa v1 jo _ he=>?_,fun aq bE cx aa v1 jo he=>?_,fun bE aa v1 jo he=>?_⟩,fun f1 bE aa v1 jo he=>?_⟩
 · unfold mI at he
   split at he
   · rename_i aD
     exact absurd aD.1 dJ
   · cases he
 · unfold mI at he
   split at he<;>cases he
 · unfold mI at he
   split at he
   · rename_i aD
     obtain ⟨_,aD,rfl⟩:=aD
     obtain ⟨rfl,ah⟩:=ad' aD
     simp only [V.ptr.injEq,and_true] at ah
     subst ah
     simp only [aU.val.injEq] at he
     obtain ⟨rfl,rfl⟩:=he
     exact fun E w xs p ak s ag=>H aq E w xs p ak s ag
   · cases he
 · unfold mI at he
   split at he<;>cases he
 · trivial
theorem Hd {f:FuncId} {args:List V} {h ab:af} {v:V}:mI f args h v ab f args h=.val v ab:=by
 unfold mI
 rw [if_pos ⟨rfl,rfl,rfl⟩]
def aT.set (r:aT) (d:Option Nat) (v:V):aT:=
 match d with
 | none=>r
 | some d=>fun t=>if t=d then v else r t
def aT.trim (r:aT):List Nat→aT
 | [],_=>.bad
 | u::us,t=>if t=u then r t else aT.trim r us t
def aT.bg:List V→aT
 | [],_=>.bad
 | v::ad,t=>if t=0 then v else aT.bg ad (t-1)
noncomputable def zi (r:aT):List Nat→bt
 | []=>.e
 | t::cr=>T.put .bad (r t) (ai t) (zi r cr)
theorem PH (r:aT):∀cr:List Nat,dV (zi r cr)=aT.trim r cr
 | []=>by funext t;simp [dV,zi,aT.trim]
 | u::cr=>by
   funext t
   have bj:=congrFun (PH r cr) t
   simp only [dV] at bj
   simp only [dV,zi,aT.trim,T.hM]
   by_cases h:t=u
   · subst h;simp
   · rw [if_neg (fun e=>h (dR e).symm),if_neg h]
     exact bj
theorem CE (cI:bt):∀cr:List Nat,dV (dc cI cr)=aT.trim (dV cI) cr
 | []=>by funext t;simp [dV,dc,aT.trim]
 | u::cr=>by
   funext t
   have bj:=congrFun (CE cI cr) t
   simp only [dV] at bj
   simp only [dV,dc,aT.trim,T.hM]
   by_cases h:t=u
   · subst h;simp
   · rw [if_neg (fun e=>h (dR e).symm),if_neg h]
     exact bj
theorem Ik {r:aT}:∀{cr:List Nat} {t:Nat},t ∈ cr→aT.trim r cr t=r t
 | [],t,h=>by simp at h
 | u::cr,t,h=>by
   simp only [aT.trim]
   by_cases hu:t=u
   · rw [if_pos hu]
   · rw [if_neg hu]
     simp only [List.mem_cons] at h
     exact Ik (h.resolve_left hu)
theorem PJ {r:aT}:∀{cr:List Nat} {t:Nat},t ∉ cr→aT.trim r cr t=.bad
 | [],t,_=>rfl
 | u::cr,t,h=>by
   simp only [List.mem_cons,not_or] at h
   simp only [aT.trim]
   rw [if_neg h.1]
   exact PJ h.2
theorem Ca (d:Option Nat) (cI:bt) (v:V):dV ((ft d).run cI v)=(dV cI).set d v:=by
 cases d with
 | none=>rfl
 | some d=>
   funext t
   simp only [dV,ft,aT.set,T.hM]
   by_cases h:t=d
   · subst h;simp
   · rw [if_neg (fun e=>h (dR e).symm),if_neg h]
abbrev d':Nat:=17179869185
def Out (al:Nat) (r:aT):Prop:=∀t,al≤t→t≠d'→r t=.bad
theorem As {al:Nat} {r:aT} (aQ:Out al r):∃cI,dV cI=r:=by
 refine ⟨zi r (d'::List.range al),?_⟩
 rw [PH]
 funext t
 by_cases h:t<al
 · exact Ik (List.mem_cons_of_mem _ (List.mem_range.2 h))
 · by_cases ae:t=d'
   · exact Ik (by rw [ae];exact List.mem_cons_self)
   · rw [PJ (by simp only [List.mem_cons,List.mem_range,not_or];exact ⟨ae,h⟩),aQ t (by omega) ae]
theorem Out.set {al:Nat} {r:aT} (aQ:Out al r) {d:Option Nat} (aX:fe al d=true) (v:V):Out al (r.set d v):=by
 intro t ax aO
 cases d with
 | none=>exact aQ t ax aO
 | some d=>
   simp only [fe,Bool.and_eq_true,Nat.blt_eq] at aX
   simp only [aT.set]
   rw [if_neg (by omega)]
   exact aQ t ax aO
theorem HY {al:Nat} {r:aT} {d:Option Nat} (aX:fe al d=true) (v:V):r.set d v d'=r d':=by
 cases d with
 | none=>rfl
 | some d=>
   simp only [fe,Bool.and_eq_true,Nat.blt_eq,Nat.ble_eq] at aX
   simp only [aT.set]
   rw [if_neg (by have:=aX.2;unfold top at this;unfold d';omega)]
structure j8 (E:Env) (al:Nat) (r:aT) (a:Act):Prop where
 size:a.tmps.size=al
 defers:kT E (r d') a.defers
 aJ:∀t,t≠d'→Rel E (r t) (a.tmps.getD t undef)
theorem wu {t:Nat} (h:t≤top):t≠d':=by unfold top at h;unfold d';omega
theorem j8.mono {E an:Env} (h:E.le an) {al:Nat} {r:aT} {a:Act} (k:j8 E al r a):j8 an al r a:=
 ⟨k.size,k.defers.mono h,fun t ax=>Rel.mono h _ _ (k.aJ t ax)⟩
theorem j8.put {E an:Env} (h:E.le an) {al:Nat} {r:aT} {a:Act} (k:j8 E al r a) {d:Option Nat} (aX:fe al d=true) {v:V} {x:Value} (ak:Rel an v x):j8 an al (r.set d v) (a.put d x):=by
 cases d with
 | none=>exact k.mono h
 | some d=>
   have aO:=HY (r:=r) aX v
   simp only [fe,Bool.and_eq_true,Nat.blt_eq] at aX
   refine ⟨by simp [Act.put,k.size],by rw [aO];exact k.defers.mono h,fun t fm=>?_⟩
   simp only [aT.set,Act.put]
   rw [Array.getD_eq_getD_getElem?,Array.getElem?_setIfInBounds]
   by_cases ax:t=d
   · subst ax
     rw [if_pos rfl,if_pos rfl,if_pos (by rw [k.size];exact aX.1)]
     exact ak
   · rw [if_neg ax,if_neg (fun e=>ax e.symm),←Array.getD_eq_getD_getElem?]
     exact Rel.mono h _ _ (k.aJ t fm)
noncomputable def G.wp (P:Program) (g:G) (r:aT) (h:af) (K:V→af→Prop):Prop:=
 match g with
 | .call f args=>b_ P f (aR.fI r args) h K
 | .oG f args=>∃g xs,(f.aV r).target (aR.fI r args)=some (g,xs)∧ID P g xs h K
 | g=>∃v ab,g.run P kM r h=.val v ab∧K v ab
theorem G.wX {P:Program} {g:G} {r:aT} {h:af} {K:V→af→Prop} (H:g.wp P r h K):∃call v ab,(gz P call∧gN P call)∧g.run P call r h=.val v ab∧K v ab:=by
 cases g
 case call f args=>
  obtain ⟨v,ab,au,az⟩:=H
  exact ⟨_,v,ab,NM au,Hd,az⟩
 case oG f args=>
  obtain ⟨g,xs,ar,H⟩:=H
  unfold ID at H
  split at H
  rotate_left
  · obtain ⟨v,ab,au,az⟩:=H
    refine ⟨_,v,ab,NM au,?_,az⟩
    simp only [G.run]
    rw [NG ar]
    exact Hd
  · rename_i aE
    subst aE
    obtain ⟨cA,b,rfl,v,ab,au,az⟩:=H
    refine ⟨_,v,ab,acz au,?_,az⟩
    simp only [G.run]
    rw [NG ar]
    exact Hd
 all_goals
  obtain ⟨v,ab,au,az⟩:=H
  exact ⟨kM,v,ab,BQ P,au,az⟩
structure bI where
 dst:Option Nat
 g:G
 vn:Option (Nat × Bool)
 rs:List Nat
def bI.bad:bI:=⟨none,.bad,none,[]⟩
def gate (v:V) (want:Bool) (A B:Prop):Prop:=
 match v with
 | .bool b=>(b=want→A)∧(b=!want→B)
 | .tuple _=>B
 | _=>False
noncomputable def bI.wp (P:Program) (o:bI) (r:aT) (h:af) (K:aT→V→af→Prop):Prop:=
 match o.vn with
 | none=>o.g.wp P (r.trim o.rs) h fun v ab=>K (r.set o.dst v) v ab
 | some (d,want)=>gate (r.trim o.rs d) want (o.g.wp P (r.trim o.rs) h fun v ab=>K (r.set o.dst v) v ab) (K (r.set o.dst (.tuple [])) (.tuple []) h)
def Ck (P:Program) (al:Nat) (all:Array Oper) (o:Oper):bI:=
 bif fe al o.dst&&kq (bZ all o) then
  match o.guard with
  | none=>⟨o.dst,Cj P o.op,none,bZ all o⟩
  | some (j,want)=>match all[j]? with
    | some g=>match g.dst with
      | some d=>bif Nat.blt d al&&Nat.ble d top then ⟨o.dst,Cj P o.op,some (d,want),bZ all o⟩ else bI.bad
      | none=>bI.bad
    | none=>bI.bad
 else bI.bad
def ra (P:Program) (al:Nat) (all:Array Oper):List Oper→List bI
 | []=>[]
 | o::os=>Ck P al all o::ra P al all os
theorem OR (P:Program) (al:Nat) (all:Array Oper):∀l:List Oper,ra P al all l=l.map (Ck P al all)
 | []=>rfl
 | o::os=>by simp [ra,OR P al all os]
theorem bI.zV {P:Program} {r:aT} {h:af} {K:aT→V→af→Prop}:¬bI.bad.wp P r h K:=by
 rintro ⟨v,ab,q,_⟩
 cases q
theorem bI.wX {P:Program} {al:Nat} {all:Array Oper} {o:Oper} {r:aT} {h:af} {K:aT→V→af→Prop} (H:(Ck P al all o).wp P r h K):
 ∃call v ab,(gz P call∧gN P call)∧fe al o.dst=true∧K (r.set o.dst v) v ab∧∀cI,dV cI=r→(ck P al all o).run call cI h=.val v ab:=by
 unfold Ck at H
 cases aD:(fe al o.dst&&kq (bZ all o)) with
 | false=>rw [aD] at H;exact absurd H bI.zV
 | true=>
   have aX:fe al o.dst=true:=by simp only [Bool.and_eq_true] at aD;exact aD.1
   rw [aD] at H
   simp only [cond_true] at H
   cases aE:o.guard with
   | none=>
     rw [aE] at H
     obtain ⟨call,v,ab,au,az,aM⟩:=G.wX H
     refine ⟨call,v,ab,au,aX,aM,fun cI d_=>?_⟩
     unfold ck
     rw [aD]
     simp only [cond_true,aE,iv]
     refine OQ ?_
     rw [CE,d_]
     exact az
   | some oY=>
     obtain ⟨j,want⟩:=oY
     rw [aE] at H
     simp only at H
     cases bK:all[j]? with
     | none=>rw [bK] at H;exact absurd H bI.zV
     | some g=>
       rw [bK] at H
       simp only at H
       cases kf:g.dst with
       | none=>rw [kf] at H;exact absurd H bI.zV
       | some d=>
         rw [kf] at H
         simp only at H
         cases ah:(Nat.blt d al&&Nat.ble d top) with
         | false=>rw [ah] at H;exact absurd H bI.zV
         | true=>
           rw [ah] at H
           simp only [cond_true,bI.wp] at H
           have key:ck P al all o=⟨iv (some (nL (ai d),want)) (fb P o) (bZ all o)⟩:=by
            unfold ck
            rw [aD]
            simp only [cond_true,aE,bK,kf,ah]
           have Fs:∀cI,dV cI=r→(nL (ai d)).run (dc cI (bZ all o))=r.trim (bZ all o) d:=by
            intro cI d_
            rw [←d_,←CE]
            rfl
           cases br:r.trim (bZ all o) d<;>rw [br] at H<;>simp only [gate] at H
           case bool b=>
            by_cases Lj:b=want
            · obtain ⟨call,v,ab,au,az,aM⟩:=G.wX (H.1 Lj)
              refine ⟨call,v,ab,au,aX,aM,fun cI d_=>?_⟩
              rw [key]
              simp only [iv,Fs cI d_,br]
              rw [show (bif want then b else !b)=true from by subst Lj;cases b<;>rfl]
              simp only [cond_true]
              refine OQ ?_
              rw [CE,d_]
              exact az
            · have Lh:b=!want:=by cases b<;>cases want<;>simp_all
              refine ⟨kM,.tuple [],h,BQ P,aX,H.2 Lh,fun cI d_=>?_⟩
              rw [key]
              simp only [iv,Fs cI d_,br]
              rw [show (bif want then b else !b)=false from by subst Lh;cases want<;>rfl]
              rfl
           case tuple ad=>
            refine ⟨kM,.tuple [],h,BQ P,aX,H,fun cI d_=>?_⟩
            rw [key]
            simp only [iv,Fs cI d_,br]
noncomputable def ru (P:Program):List bI→aT→af→(aT→af→Prop)→Prop
 | [],r,h,K=>K r h
 | o::os,r,h,K=>o.wp P r h fun bq _ ab=>ru P os bq ab K
structure fZ where
 r:aT
 h:af
 v:V
noncomputable def kS (P:Program):List bI→aT→af→(List fZ→aT→af→Prop)→Prop
 | [],r,h,K=>K [] r h
 | o::os,r,h,K=>o.wp P r h fun bq v ab=>kS P os bq ab fun es cL ar=>K (⟨r,h,v⟩::es) cL ar
def vD (es:List fZ) (ar:af) (i:Nat):af:=
 match es[i]? with
 | some e=>e.h
 | none=>ar
noncomputable def qt (P:Program) (o:Option bI) (e:Option fZ) (es:List fZ) (ar:af):List Nat→Prop
 | []=>True
 | s::fp=>(match o,e with
   | some o,some e=>o.wp P e.r (vD es ar s) fun _ e4 _=>e4=e.v
   | _,_=>False)∧qt P o e es ar fp
noncomputable def oD (P:Program) (ops:List bI) (es:List fZ) (ar:af):List (Nat × List Nat)→Prop
 | []=>True
 | (p,fp)::rest=>qt P ops[p]? es[p]? es ar fp∧oD P ops es ar rest
inductive bV where
 | bad
 | skip
 | aJ (ops:List bI)
 | draw (ops:List bI) (asks:List (Nat × List Nat))
 | seq (a b:bV)
 | cond (c:aR) (a b:bV)
 | block (id:Nat) (b:bV)
 | loop (b:bV)
 | exit (id:Nat)
 | ret
 | range (f:aR) (a_:List Nat) (al:Nat) (a b:bV)
def u5 (P:Program) (ops:List Oper) (dI aw ei:List Nat):Nat→List Oper→List (Nat × List Nat)
 | _,[]=>[]
 | i,o::os=>bif looks o.op&&!eP P o.op then
    (posOf aw i,ei.filter (q4 P dI ops aw i ((dI[i]?).getD 0)))::u5 P ops dI aw ei (i+1) os
   else u5 P ops dI aw ei (i+1) os
def HO (P:Program) (al:Nat) (ops:Array Oper) (order aw:List Nat):bV:=
 bif lq ops.size order aw&&vb P ops aw then
  .draw (ra P al ops (hc ops order)) (bif qq P ops.toList then u5 P ops.toList (eF [] ops.toList) aw (ht P aw 0 ops.toList) 0 ops.toList else [])
 else .bad
def cW (P:Program) (al:Nat):Code→bV
 | .skip=>.skip
 | .label _=>.skip
 | .region _ ops draw=>bif draw then HO P al ops (yR P ops) (B7 (yR P ops) 0 ops.toList) else .aJ (ra P al ops ops.toList)
 | .seq a b=>.seq (cW P al a) (cW P al b)
 | .cond c a b=>.cond (rx c) (cW P al a) (cW P al b)
 | .block id b=>.block id (cW P al b)
 | .loop b=>.loop (cW P al b)
 | .exit id=>.exit id
 | .ret=>.ret
 | .scope b=>cW P al b
 | .rangeFunc f a_ a b=>bif oi al a_.toList&&(noMark a&&noMark b) then .range (rx f) a_.toList al (cW P al a) (cW P al b) else .bad
 | _=>.bad
structure uU (P:Program) (l:j7) (al:Nat) (r:aT) (a_:List Nat) (y9 j4:bV):Prop where
 aS:l.al=al
 aG:dV l.r=r
 ag:l.a_=a_
 bd:cW P al l.assign=y9
 ah:cW P al l.body=j4
 ml:oi al a_=true
 agG:noMark l.assign=true
 eG:noMark l.body=true
 out:Out al r
def j7.go (l:j7) (st:Nat) (c6:Option c'):j7:=⟨st,c6,l.d,l.al,l.r,l.a_,l.assign,l.body⟩
def aT.so:List Nat→List V→aT→aT
 | p::a_,v::ad,r=>aT.so a_ ad (r.set (some p) v)
 | _,_,r=>r
def l0 (a_:List Nat) (ad:List V) (r:aT):aT:=(aT.so a_ ad r).set (some d') .bad
def c'.andThen:c'→Prop→Prop→Prop
 | .normal,A,_=>A
 | _,_,B=>B
def c'.leave (id:Nat):c'→c'
 | .exit i=>if i=id then .normal else .exit i
 | e=>e
noncomputable def cU (P:Program):bV→aT→af→(c'→aT→af→Prop)→Prop
 | .bad,_,_,_=>False
 | .skip,r,h,Q=>Q .normal r h
 | .aJ ops,r,h,Q=>ru P ops r h (Q .normal)
 | .draw ops asks,r,h,Q=>kS P ops r h fun es cL ar=>oD P ops es ar asks∧Q .normal cL ar
 | .seq a b,r,h,Q=>cU P a r h fun e bq ab=>e.andThen (cU P b bq ab Q) (Q e bq ab)
 | .cond c a b,r,h,Q=>match c.aV r with
   | .bool t=>(t=true→cU P a r h Q)∧(t=false→cU P b r h Q)
   | _=>False
 | .block id b,r,h,Q=>cU P b r h fun e bq ab=>Q (e.leave id) bq ab
 | .loop b,r,h,Q=>∃(I:aT→af→Prop) (μ:aT→af→Nat),I r h∧∀r h,I r h→cU P b r h fun e bq ab=>e.andThen (I bq ab∧μ bq ab<μ r h) (Q e bq ab)
 | .exit id,r,h,Q=>Q (.exit id) r h
 | .ret,r,h,Q=>Q .ret r h
 | .range f a_ al a b,r,h,Q=>∃g cs,f.aV r=.func g cs∧g≠da∧(∃fn,P.funcs[g]? =some fn∧fn.body.isSome=true)∧∀l,uU P l al r a_ a b→l.st=0→l.c6=none→
    b_ P g (.func da [.ptr (ai (h.next+1)) 0]::cs) ((h.new .eD).new (.cg l)) fun _ ab=>
     ∃cE,ab.get (ai (h.next+1))=.cg cE∧cE.st≠1∧Q (cE.c6.getD .normal) (r.set (some d') (.tuple (.ptr (ai h.next) 0::(r d').list))) (ab.set (ai (h.next+1)) .dead)
def bV.plain:bV→Bool
 | .seq a b=>a.plain&&b.plain
 | .cond _ a b=>a.plain&&b.plain
 | .block _ b=>b.plain
 | .loop b=>b.plain
 | .range _ _ _ _ _=>false
 | _=>true
def zr (P:Program) (al:Nat) (c:Code) (r:aT) (h:af) (e:c') (bq:aT) (ab:af):Prop:=
 ∀(rd:Option Nat) (aq:Fr) E a w,(rd=none∨noMark c=true)→j8 E al r a→a1 aq E h w→∀Q:Exit→Act→World→Prop,
  (∀an bh aj,E.le an→j8 an al bq bh→a1 aq an ab aj→Q (toExit e) bh aj)→CG rd P c Q a w
section
variable {P:Program} {al:Nat}
theorem P7 (bD:eI P) {all:Array Oper}:∀(l:List Oper) (i:Nat),(∀j,l[j]? =all[i+j]?)→∀(r:aT) (h:af) (K:aT→af→Prop),Out al r→ru P (ra P al all l) r h K→
 ∃bq ab,K bq ab∧(Out al bq∧bq d'=r d')∧∀(rd:Option Nat) (aq:Fr) E a w,j8 E al r a→a1 aq E h w→∀Q:Exit→Act→World→Prop,
  (∀an bh aj,E.le an→j8 an al bq bh→a1 aq an ab aj→Q .normal bh aj)→wpOpsIn (ca rd) 0 P all Q (List.range' i l.length) a w
 | [],i,_,r,h,K,aQ,H=>by
   refine ⟨r,h,H,⟨aQ,rfl⟩,fun rd aq E a w k s Q c2=>?_⟩
   simp only [List.length_nil,List.range'_zero,wpOpsIn]
   exact c2 E a w (Env.le.refl E) k s
 | o::os,i,ao,r,h,K,aQ,H=>by
   have aF:all[i]? =some o:=by have:=ao 0;simpa using this.symm
   simp only [ra,ru] at H
   obtain ⟨call,v,aa,aD,aX,H1,cK⟩:=bI.wX H
   obtain ⟨b7,ae,au,az,aM⟩:=P7 bD os (i+1) (fun j=>by
    have:=ao (j+1)
    simp only [List.getElem?_cons_succ] at this
    rw [this]
    congr 1
    omega) _ aa K (aQ.set aX v) H1
   refine ⟨b7,ae,au,⟨az.1,az.2.trans (HY aX v)⟩,fun rd aq E a w k s Q c2=>?_⟩
   obtain ⟨cI,d_⟩:=As aQ
   rw [List.length_cons,List.range'_succ,wpOpsIn_cons]
   refine pz bD aD.1 aD.2 aF (cK cI d_) k.size (fun t ax=>?_) s fun an x aj bu bB dP=>?_
   · have:=congrFun d_ t
     simp only [dV] at this
     rw [this]
     exact k.aJ t (wu (Nat.le_of_ble_eq_true (List.all_eq_true.1 (j_ (cK cI d_)).2 t ax)))
   · exact aM rd aq an _ aj (k.put bu aX bB) dP Q fun b9 a2 bP cm z2 z3=>c2 b9 a2 bP (bu.trans cm) z2 z3
noncomputable def toF (e:eM):fZ:=⟨dV e.r,e.h,e.v⟩
theorem WX (es:List eM) (ar:af) (i:Nat):vD (es.map toF) ar i=b2 es ar i:=by
 unfold vD b2
 rw [List.getElem?_map]
 cases es[i]? <;>rfl
theorem P6 {all:Array Oper}:∀(l:List Oper) (mf:bt) (h:af) (K:List fZ→aT→af→Prop),kS P (ra P al all l) (dV mf) h K→Out al (dV mf)→
 ∃es nF ar,K (es.map toF) (dV nF) ar∧(Out al (dV nF)∧dV nF d'=dV mf d')∧es.length=l.length∧b2 es ar 0=h∧dY es nF 0=mf∧
  ∀j o,l[j]? =some o→∃e call,es[j]? =some e∧(gz P call∧gN P call)∧(ck P al all o).run call e.r e.h=.val e.v (b2 es ar (j+1))∧dY es nF (j+1)=(ft o.dst).run e.r e.v
 | [],mf,h,K,H,aQ=>⟨[],mf,h,H,⟨aQ,rfl⟩,rfl,rfl,rfl,fun j o bK=>by simp at bK⟩
 | o::os,mf,h,K,H,aQ=>by
   simp only [ra,kS] at H
   obtain ⟨call,v,aa,aD,aX,H1,cK⟩:=bI.wX H
   rw [←Ca] at H1
   obtain ⟨es,nF,ar,au,az,aM,bU,ey,fP⟩:=P6 os _ aa _ H1 (by rw [Ca];exact aQ.set aX v)
   refine ⟨⟨mf,h,v⟩::es,nF,ar,au,⟨az.1,az.2.trans (by rw [Ca];exact HY aX v)⟩,by simp [aM],by simp [b2],by simp [dY],fun j b1 bK=>?_⟩
   cases j with
   | zero=>
     simp only [List.getElem?_cons_zero,Option.some.injEq] at bK
     subst bK
     exact ⟨⟨mf,h,v⟩,call,rfl,aD,by rw [vC,bU];exact cK mf rfl,by rw [wI,ey]⟩
   | succ j=>
     obtain ⟨e,c,bu,bB,dP,kP⟩:=fP j b1 (by simpa using bK)
     exact ⟨e,c,by simpa using bu,bB,by rw [vC];exact dP,by rw [wI];exact kP⟩
theorem Jo {o:Option bI} {e:Option fZ} {es:List fZ} {ar:af}:∀{fp:List Nat},qt P o e es ar fp→∀s ∈ fp,∃b1 c_,o=some b1∧e=some c_∧b1.wp P c_.r (vD es ar s) fun _ e4 _=>e4=c_.v
 | [],_,s,h=>by simp at h
 | fY::fp,H,s,hm=>by
   simp only [qt] at H
   simp only [List.mem_cons] at hm
   rcases hm with rfl | hm
   · cases o with
     | none=>exact H.1.elim
     | some o=>
       cases e with
       | none=>exact H.1.elim
       | some e=>exact ⟨o,e,rfl,rfl,H.1⟩
   · exact Jo H.2 s hm
theorem Jr {ops:List Oper} {dI aw ei:List Nat} {gs:List bI} {es:List fZ} {ar:af}:∀{l:List Oper} {i:Nat},oD P gs es ar (u5 P ops dI aw ei i l)→∀j o,l[j]? =some o→looks o.op=true→eP P o.op=false→
 qt P gs[posOf aw (i+j)]? es[posOf aw (i+j)]? es ar (ei.filter (q4 P dI ops aw (i+j) ((dI[i+j]?).getD 0)))
 | [],i,_,j,o,h,_,_=>by simp at h
 | b1::os,i,H,j,o,h,aa,ae=>by
   simp only [u5] at H
   cases j with
   | zero=>
     simp only [List.getElem?_cons_zero,Option.some.injEq] at h
     subst h
     rw [aa,ae] at H
     simp only [Bool.not_false,Bool.and_true,cond_true,oD] at H
     exact H.1
   | succ j=>
     have kV:oD P gs es ar (u5 P ops dI aw ei (i+1) os):=by
      cases aD:(looks b1.op&&!eP P b1.op) with
      | true=>rw [aD] at H;simp only [cond_true,oD] at H;exact H.2
      | false=>rw [aD] at H;exact H
     have:=Jr kV j o (by simpa using h) aa ae
     rw [show i+1+j=i + (j+1) from by omega] at this
     exact this
theorem UZ (gR:al≤top) (cO:P.follows .mixedOrders=true) (bD:eI P) {id:Nat} {ops:Array Oper} {order aw:List Nat} {r:aT} {h:af} {Q:c'→aT→af→Prop} (aQ:Out al r)
 (H:cU P (HO P al ops order aw) r h Q):∃bq ab,Q .normal bq ab∧(Out al bq∧bq d'=r d')∧zr P al (.region id ops true) r h .normal bq ab:=by
 unfold HO at H
 cases ar:(lq ops.size order aw&&vb P ops aw) with
 | false=>rw [ar] at H;exact H.elim
 | true=>
   rw [ar] at H
   simp only [cond_true,cU] at H
   simp only [Bool.and_eq_true] at ar
   obtain ⟨gF,g'⟩:=ar
   unfold lq at gF
   simp only [Bool.and_eq_true,Nat.beq_eq] at gF
   obtain ⟨nT,vL,x1,x2⟩:=gF
   have hR:∀k,k<ops.size→posOf aw k<ops.size∧order[posOf aw k]? =some k:=by
    intro k ay
    have aE:aw[k]? =some (posOf aw k):=by
     unfold posOf
     rw [List.getElem?_eq_getElem (by omega)]
     rfl
    have:=sr x1 aE
    rw [Nat.zero_add] at this
    exact ⟨by have:=(List.getElem?_eq_some_iff.1 this).1;omega,this⟩
   have kO:∀p,p<ops.size→∃i,i<ops.size∧posOf aw i=p:=by
    intro p ag
    have aE:order[p]? =some (order[p]'(by omega)):=List.getElem?_eq_getElem (by omega)
    have:=sr x2 aE
    rw [Nat.zero_add] at this
    refine ⟨order[p]'(by omega),by have:=(List.getElem?_eq_some_iff.1 this).1;omega,?_⟩
    unfold posOf
    rw [this]
    rfl
   obtain ⟨mf,vv⟩:=As aQ
   rw [←vv] at H aQ
   obtain ⟨es,nF,ba,⟨xM,c2⟩,⟨qR,L0⟩,au,az,aM,bU⟩:=P6 _ mf h _ H aQ
   refine ⟨_,ba,c2,⟨qR,by rw [←vv];exact L0⟩,fun rd aq E a w aG k s hY E'=>?_⟩
   have step:∀i:Nat,∃call,(gz P call∧gN P call)∧∀o,ops[i]? =some o→∃e,es[posOf aw i]? =some e∧(ck P al ops o).run call e.r e.h=.val e.v (b2 es ba (posOf aw i+1))∧dY es nF (posOf aw i+1)=(ft o.dst).run e.r e.v:=by
    intro i
    cases aF:ops[i]? with
    | none=>exact ⟨kM,BQ P,fun o h=>by cases h⟩
    | some o=>
      obtain ⟨e,call,bu,bB,dP,kP⟩:=bU _ o (mH (hR i (Array.getElem?_eq_some_iff.1 aF).1).2 aF)
      exact ⟨call,bB,fun b1 hn=>by cases hn;exact ⟨e,bu,dP,kP⟩⟩
   obtain ⟨calls,vy⟩:=Classical.axiomOfChoice step
   have r1:∀j o,ops[j]? =some o→looks o.op=true→eP P o.op=false→∃e,es[posOf aw j]? =some e∧∀s ∈ ht P aw 0 ops.toList,
    q4 P (eF [] ops.toList) ops.toList aw j (((eF [] ops.toList)[j]?).getD 0) s=true→∃c ab,(gz P c∧gN P c)∧(ck P al ops o).run c e.r (b2 es ba s)=.val e.v ab:=by
    intro j o pP eK W2
    have bK:=(Array.getElem?_eq_some_iff.1 pP).1
    obtain ⟨e,bu,bB,dP⟩:=(vy j).2 o pP
    refine ⟨e,bu,fun s aO hm=>?_⟩
    cases ao:qq P ops.toList with
    | true=>
      rw [ao] at xM
      simp only [cond_true] at xM
      have:=Jr xM j o (by simpa using pP) eK W2
      rw [Nat.zero_add] at this
      obtain ⟨b1,c_,cm,z2,z3⟩:=Jo this s (List.mem_filter.2 ⟨aO,hm⟩)
      rw [OR,List.getElem?_map,mH (hR j bK).2 pP] at cm
      simp only [Option.map_some,Option.some.injEq] at cm
      rw [List.getElem?_map,bu] at z2
      simp only [Option.map_some,Option.some.injEq] at z2
      subst cm;subst z2
      rw [WX] at z3
      obtain ⟨c,v,ab,eR,_,y3,y4⟩:=bI.wX z3
      have P8:=y4 e.r rfl
      rw [show v=e.v from y3] at P8
      exact ⟨c,ab,eR,P8⟩
    | false=>
      have none:∀(l:List Oper),qq P l=false→∀(j:Nat) (o:Oper),l[j]? =some o→eP P o.op=false:=by
       intro l
       induction l with
       | nil=>intro _ j o h;simp at h
       | cons x l bj=>
         intro h j o aQ
         simp only [qq,Bool.or_eq_false_iff] at h
         cases j with
         | zero=>simp only [List.getElem?_cons_zero,Option.some.injEq] at aQ;subst aQ;exact h.1
         | succ j=>exact bj h.2 j o (by simpa using aQ)
      have iQ:s=ops.size:=by
       rcases se aO with h | ⟨Bu,b1,aa,ae,aH⟩
       · simpa using h
       · have:=none _ ao Bu b1 aa
         unfold dU at ae
         rw [this] at ae
         cases ae
      have flat:∀d,d≤ops.size→b2 es ba d=b2 es ba 0:=by
       intro d
       induction d with
       | zero=>intro _;rfl
       | succ d bj=>
         intro aX
         obtain ⟨i,xU,nc⟩:=kO d (by omega)
         have cb:ops[i]? =some ops[i]:=Array.getElem?_eq_getElem xU
         obtain ⟨U0,bT,bP,_⟩:=(vy i).2 ops[i] cb
         rw [nc] at bT bP
         have dJ:eP P ops[i].op=false:=none _ ao i _ (by simp)
         rw [(tb dJ bP).1,←bj (by omega)]
         simp [b2,bT]
      have agk:=(hR j bK).1
      have:e.h=b2 es ba s:=by rw [iQ,flat ops.size (Nat.le_refl _),←flat (posOf aw j) (by omega)];simp [b2,bu]
      rw [←this]
      exact ⟨_,_,(vy j).1,bB⟩
   have hlen:es.length=ops.size:=by rw [au,o6,nT]
   have C:Cert P al ops calls es mf h nF ba (ht P aw 0 ops.toList) order aw ops.size ops.size false:=
    ⟨hlen,Nat.le_refl _,Nat.le_refl _,hR,kO,az,aM,fun i o cb _=>(vy i).2 o cb,
      fun i o cb=>by
       obtain ⟨cy,cm,z2,z3⟩:=Kj g' i o cb
       exact ⟨cy,cm,z2,fun _ k ok ay _=>by
        obtain ⟨mk,eR,fR,y3⟩:=z3 k ok ay
        exact ⟨mk,eR,fR,fun aP bl bW=>.inl (y3 aP bl bW)⟩⟩,
      by simpa using Bz (P:=P) (aw:=aw) (l:=ops.toList) (i:=0),
      fun j o aa ae=>by simpa using wj (aw:=aw) (i:=0) (j:=j) (l:=ops.toList) (by simpa using aa) ae,
      fun s aO=>by
       rcases se aO with h | ⟨j,o,aa,ae,aH⟩
       · exact .inl (.inl (by simpa using h))
       · exact .inr ⟨j,o,by simpa using aa,ae,by simpa using aH⟩,
      fun j o aa ae aH _=>r1 j o aa ae aH,fun h=>absurd h (Nat.lt_irrefl _),fun h=>absurd h (Nat.lt_irrefl _)⟩
   have ay:RegRel0 E al mf a:=⟨k.size,fun t ax=>by
    have:=congrFun vv t
    simp only [dV] at this
    rw [this]
    exact k.aJ t (wu ax)⟩
   have cZ:∀k,¬(Array.replicate ops.size false).getD k false=true:=by
    intro k
    rw [rW,Array.getElem?_replicate]
    split<;>simp
   have jV:Holds aq aq es ba aw (jK ops es ba aw (Array.replicate ops.size false) 0):=
    ⟨rfl,fun _ _=>rfl,fun k ay=>(by obtain ⟨_,_,_,_,a6⟩:=ay;omega),fun k bp ay=>(by obtain ⟨_,_,_,_,a6⟩:=ay;omega)⟩
   obtain ⟨fY,ej,g1,g2,g3,g4,g5,g6⟩:=C.advance ops.size 0 (by omega) (fun k o _ _ _=>cZ k) aq jV (E:=E) (w:={w with drawn:=w.drawn}) (by rw [az];exact s.same rfl rfl rfl rfl)
   have nV:dV nF d'=r d':=by rw [←vv];exact L0
   have fin:∀an bh aj,E.le an→RegRel0 an al nF bh→bh.defers=a.defers→a1 aq an ba aj→hY .normal bh aj:=by
    intro an bh aj cm z2 afA z3
    refine E' an bh aj cm ⟨z2.size,by rw [nV,afA];exact k.defers.mono cm,fun t fm=>?_⟩ z3
    by_cases ax:t≤top
    · exact z2.aJ t ax
    · have cc:=z2.size
      rw [qR t (by omega) fm]
      simp [Rel]
   refine P4 cO (Kl bD (fun i=>(vy i).1.1) (fun i=>(vy i).1.2) C (gA:=E) (D:=a.defers) (fun _=>fin)
    (fun _ _ _ _ _ _ _ h=>absurd h (Nat.lt_irrefl _)) (fun h=>absurd h (Nat.lt_irrefl _)) ops.size _ a _ ?_ ?_)
   · exact Nat.le_trans List.countP_le_length (by simp)
   · refine ⟨by simp,ay.size,rfl,fun bp ay=>absurd ay (cZ bp),fun bp o e ay=>absurd ay (cZ bp),E,fY,ej,Env.le.refl E,g1,g3,fun bp o aa ae=>⟨fun h=>absurd h (cZ bp),fun h=>by have:=g4 bp o aa ae (Nat.zero_le _);omega⟩,
      fun bp o _ _ h=>absurd h (cZ bp),g5,?_,fun t ax=>.inr ⟨fun bp o ay=>absurd ay (cZ bp),ay.aJ t ax⟩⟩
     exact g6.same rfl rfl rfl rfl
theorem Vi {rd:Option Nat} {e:c'} {Q:Exit→Act→World→Prop} {a:Act} {w:World} (h:Q (toExit e) a w):(ES e).wpIn (ca rd) 0 P Q a w:=by
 cases e with
 | normal=>exact wpIn_skip h
 | exit id=>exact wpIn_exit h
 | ret=>exact wpIn_ret h
theorem adp (gR:al≤top) (cO:P.follows .mixedOrders=true) (bD:eI P) {f:Operand} {a_:Array Tmp} {x y:Code} {r:aT} {h:af} {Q:c'→aT→af→Prop} (aQ:Out al r)
 (H:cU P (cW P al (.rangeFunc f a_ x y)) r h Q):∃e bq ab,Q e bq ab∧(Out al bq∧((cW P al (.rangeFunc f a_ x y)).plain=true→bq d'=r d'))∧zr P al (.rangeFunc f a_ x y) r h e bq ab:=by
 simp only [cW] at H ⊢
 cases g':(oi al a_.toList&&(noMark x&&noMark y)) with
 | false=>rw [g'] at H;exact H.elim
 | true=>
   rw [g'] at H
   simp only [cond_true,cU] at H ⊢
   simp only [Bool.and_eq_true] at g'
   obtain ⟨g,cs,br,aE,tC,H⟩:=H
   obtain ⟨cI,d_⟩:=As aQ
   obtain ⟨v,ab,cD,cE,aP,bl,c2⟩:=H ⟨0,none,ai h.next,al,cI,a_.toList,x,y⟩ ⟨rfl,d_,rfl,rfl,rfl,g'.1,g'.2.1,g'.2.2,aQ⟩ rfl rfl
   refine ⟨_,_,_,c2,⟨fun t aa ae=>by simp only [aT.set];rw [if_neg ae];exact aQ t aa ae,fun z=>by cases z⟩,fun rd aq E a w aG k s hY E'=>?_⟩
   have Bb:rd=none:=aG.resolve_right (by simp [noMark])
   subst Bb
   have ar:Rel E (.func g cs) (a.eval f):=by
    rw [←br]
    cases f with
    | tmp t=>
      simp only [rx]
      cases ah:Nat.ble t top with
      | false=>simp [aR.aV,Rel]
      | true=>
        simp only [cond_true,aR.aV]
        exact k.aJ t (wu (Nat.le_of_ble_eq_true ah))
    | const v=>exact sk E v
    | func f=>
      simp only [rx]
      cases ah:Nat.beq f da with
      | true=>simp [aR.aV,Rel]
      | false=>
        simp only [cond_false,aR.aV,Rel]
        exact .inl ⟨fun e=>by subst e;simp at ah,_,rfl,by simp [a8]⟩
    | global g=>simp [rx,aR.aV,Rel]
   simp only [Rel] at ar
   rcases ar with ⟨_,eJ,c4,ao⟩ | ⟨Fz,_⟩
   case inr=>exact absurd Fz aE
   refine (wpIn_rangeFunc fun fn _=>?_:(Code.rangeFunc f a_ x y).wpIn (ca none) 0 P hY a w)
   have f0:=s.fresh h.next (Nat.le_refl _)
   obtain ⟨eX,tr⟩:∃eX,eX=E.put (ai h.next) ⟨w.heap.size,0,0⟩:=⟨_,rfl⟩
   obtain ⟨bT,qW⟩:∃bT:World,bT={w with heap:=w.heap.push (.deferred (some []))}:=⟨_,rfl⟩
   have x7:eX (ai h.next)=some ⟨w.heap.size,0,0⟩:=by rw [tr];unfold Env.put;rw [if_pos rfl]
   have s1:a1 aq eX (h.new .eD) bT:=by
    rw [tr,qW]
    refine s.alloc 0 ⟨⟨w.heap.size,0,0⟩,by unfold Env.put;rw [if_pos rfl],s.frame.size,by simp⟩
   have n1:E.le eX:=by rw [tr];exact Env.lk f0
   have tU:bT.heap.size=w.heap.size+1:=by rw [qW];simp
   obtain ⟨o,hn⟩:∃o:Loop,o={state:=.ready,pending:=none,fn,tmps:=a.tmps,params:=a_,assign:=x,body:=y,defers:=w.heap.size}:=⟨_,rfl⟩
   obtain ⟨b9,qH⟩:∃b9,b9=eX.put (ai (h.next+1)) ⟨bT.heap.size,0,0⟩:=⟨_,rfl⟩
   obtain ⟨bP,r9⟩:∃bP:World,bP={bT with heap:=bT.heap.push (.loop o)}:=⟨_,rfl⟩
   have f1:eX (ai (h.next+1))=none:=s1.fresh (h.next+1) (Nat.le_refl _)
   have lj:eX.le b9:=by rw [qH];exact Env.lk f1
   have x8:b9 (ai (h.next+1))=some ⟨bT.heap.size,0,0⟩:=by rw [qH];unfold Env.put;rw [if_pos rfl]
   have cg:sV b9 ⟨0,none,ai h.next,al,cI,a_.toList,x,y⟩ o:=by
    subst hn
    refine ⟨rfl,rfl,rfl,rfl,rfl,k.size,fun t ax=>?_,_,lj _ _ x7,rfl⟩
    have:=congrFun d_ t
    simp only [dV] at this
    simp only [this]
    exact Rel.mono (n1.trans lj) _ _ (k.aJ t (wu ax))
   have s2:a1 aq b9 ((h.new .eD).new (.cg ⟨0,none,ai h.next,al,cI,a_.toList,x,y⟩)) bP:=by
    rw [qH,r9]
    refine s1.alloc 0 ⟨⟨bT.heap.size,0,0⟩,o,by show eX.put (ai (h.next+1)) _ (ai (h.next+1))=_;unfold Env.put;rw [if_pos rfl],by show aq.w.heap.size≤bT.heap.size;rw [tU];have:=s.frame.size;omega,by simp,?_⟩
    have:=cg
    rw [qH] at this
    exact this
   obtain ⟨hD,oR⟩:∃hD,hD=bT.heap.size:=⟨_,rfl⟩
   have a7:Rel b9 (.func da [.ptr (ai (h.next+1)) 0]) (.func (.yield hD) #[] #[]):=by
    simp only [Rel]
    exact .inr ⟨trivial,_,_,rfl,x8,by rw [oR]⟩
   have oM:a8 b9 (.func da [.ptr (ai (h.next+1)) 0]::cs) (.func (.yield hD) #[] #[]::eJ.toList):=by
    simp only [a8]
    exact ⟨_,_,rfl,a7,a8.mono (n1.trans lj) _ _ ao⟩
   have aD:Calls P g (Value.func (Fn.yield hD) #[] #[]::eJ.toList).toArray bP (rangePost (ca none) 0 P hD hY {a with defers:=[{target:=.collected w.heap.size,args:=#[]}]++a.defers}):=(cD.calls bD tC aq b9 bP _ oM s2).mono fun e aj av=>by
    obtain ⟨an,ag8,rfl,au,_,aM⟩:=av
    simp only [rangePost]
    have jv:=au _ _ x8
    have ah:=aM.at jv
    rw [aP] at ah
    obtain ⟨p',b1,fN,c9,ba,FK⟩:=ah
    rw [jv] at fN;cases fN
    obtain ⟨t1,t2,t3,t4,t5,t6,t7,t8⟩:=FK
    simp only at ba
    rw [←oR] at ba
    have FR:(b1.state == LoopState.busy)=false:=by
     rw [t1]
     match ng:cE.st with
     | 0=>rfl
     | 1=>exact absurd ng bl
     | n+2=>rfl
    have k9:=(Array.getElem?_eq_some_iff.1 ba).1
    let jd:World:={aj with heap:=aj.heap.setIfInBounds hD (.loop {b1 with state:=.exhausted})}
    have fU:(Instr.endLoop hD).run P aj=.ok b1.pending jd:=by
     have qU:(setObj hD (.loop {b1 with state:=.exhausted})).run P aj=.ok () jd:=by simp only [setObj,Sem.run,ba];rfl
     simp only [Instr.endLoop,Sem.run_bind,run_getLoop ba,Result.andThen_ok,FR,Bool.false_eq_true,if_false,qU,Sem.run_pure]
    have sz:a1 aq an (ab.set (ai (h.next+1)) .dead) jd:=by
     refine aM.gone (p:=⟨bT.heap.size,0,0⟩) (by rw [aP];rfl) jv c9 (by simp [jd]) (fun j bK=>?_) rfl rfl rfl
     simp only at bK
     simp only [jd,Array.getElem?_setIfInBounds]
     rw [if_neg (fun e=>bK (by rw [←e,oR]))]
    have g_:j8 an al (r.set (some d') (.tuple (.ptr (ai h.next) 0::(r d').list))) {a with defers:=[{target:=.collected w.heap.size,args:=#[]}]++a.defers}:=by
     refine ⟨k.size,?_,fun t ax=>?_⟩
     · simp only [aT.set,if_true,kT,mM,List.cons_append,List.nil_append]
       exact ⟨_,_,rfl,⟨_,au _ _ (lj _ _ x7),rfl⟩,(k.defers.mono (n1.trans (lj.trans au))).list⟩
     · simp only [aT.set]
       rw [if_neg ax]
       exact Rel.mono (n1.trans (lj.trans au)) _ _ (k.aJ t ax)
    refine ⟨b1.pending,jd,fU,?_⟩
    rw [t2]
    have fin:=E' an _ jd (n1.trans (lj.trans au)) g_ sz
    cases iP:cE.c6 with
    | none=>rw [iP] at fin;exact fin
    | some e=>rw [iP] at fin;exact Vi fin
   obtain ⟨af',W_,tC⟩:=tC
   refine ⟨hD,[{target:=.collected w.heap.size,args:=#[]}],bP,{target:=.fn (.func g) eJ,args:=#[]++#[.func (.yield hD) #[] #[]]},bP,g,_,bP,?_,?_,fun _ _=>trivial,?_,fun h=>by simp at h,rO.2 aD⟩
   · subst hn r9 qW
     have he:=run_enterLoop_outer (P:=P) (w:=w) fn a.tmps a_ x y
     rw [World.alloc,World.alloc] at he
     simp only [Array.size_push] at oR ⊢
     rw [oR]
     exact he
   · simp only [resolve,c4,Deferred.ofValue,Sem.run_pure]
     simp [Act.eval]
   · simp only [invoke]
     have e:(#[]++#[Value.func (.yield hD) #[] #[]]:Array Value)++eJ=(Value.func (.yield hD) #[] #[]::eJ.toList).toArray:=by apply Array.ext';simp
     rw [e]
     exact sy bD W_ tC _ bP
theorem It (gR:al≤top) (cO:P.follows .mixedOrders=true) (bD:eI P):∀(c:Code) (r:aT) (h:af) (Q:c'→aT→af→Prop),Out al r→cU P (cW P al c) r h Q→
 ∃e bq ab,Q e bq ab∧(Out al bq∧((cW P al c).plain=true→bq d'=r d'))∧zr P al c r h e bq ab:=by
 intro c
 induction c with
 | skip=>
   intro r h Q aQ H
   exact ⟨.normal,r,h,H,⟨aQ,fun _=>rfl⟩,fun rd aq E a w aG k s hY c2=>wpIn_skip (c2 E a w (Env.le.refl E) k s)⟩
 | label l=>
   intro r h Q aQ H
   exact ⟨.normal,r,h,H,⟨aQ,fun _=>rfl⟩,fun rd aq E a w aG k s hY c2=>wpIn_label (c2 E a w (Env.le.refl E) k s)⟩
 | exit id=>
   intro r h Q aQ H
   exact ⟨.exit id,r,h,H,⟨aQ,fun _=>rfl⟩,fun rd aq E a w aG k s hY c2=>wpIn_exit (c2 E a w (Env.le.refl E) k s)⟩
 | ret=>
   intro r h Q aQ H
   exact ⟨.ret,r,h,H,⟨aQ,fun _=>rfl⟩,fun rd aq E a w aG k s hY c2=>wpIn_ret (c2 E a w (Env.le.refl E) k s)⟩
 | region id ops draw=>
   intro r h Q aQ H
   cases draw with
   | true=>
     simp only [cW,cond_true] at H
     obtain ⟨bq,ab,au,az,aM⟩:=UZ gR cO bD (id:=id) aQ H
     exact ⟨.normal,bq,ab,au,⟨az.1,fun _=>az.2⟩,aM⟩
   | false=>
     simp only [cW,cond_false,cU] at H
     obtain ⟨bq,ab,au,az,aM⟩:=P7 bD ops.toList 0 (fun j=>by simp) r h _ aQ H
     refine ⟨.normal,bq,ab,au,⟨az.1,fun _=>az.2⟩,fun rd aq E a w aG k s hY c2=>?_⟩
     refine wpIn_region ?_
     have:=aM rd aq E a w k s hY c2
     rw [List.range_eq_range']
     simpa using this
 | seq x y tX tY=>
   intro r h Q aQ H
   simp only [cW,cU] at H
   obtain ⟨e,bS,aa,au,az,aM⟩:=tX r h _ aQ H
   cases e with
   | normal=>
     obtain ⟨e,b7,ae,bu,bB,dP⟩:=tY bS aa Q az.1 au
     refine ⟨e,b7,ae,bu,⟨bB.1,fun z=>by simp only [cW,bV.plain,Bool.and_eq_true] at z;exact (bB.2 z.2).trans (az.2 z.1)⟩,fun rd aq E a w aG k s hY c2=>?_⟩
     refine wpIn_seq (aM rd aq E a w (aG.imp (fun h=>h) fun h=>by simp only [noMark,Bool.and_eq_true] at h;exact h.1) k s _ fun an bh aj cm z2 z3=>?_).wp
     exact (dP rd aq an bh aj (aG.imp (fun h=>h) fun h=>by simp only [noMark,Bool.and_eq_true] at h;exact h.2) z2 z3 hY fun b9 a2 bP eR fR y3=>c2 b9 a2 bP (cm.trans eR) fR y3).wp
   | exit i=>
     refine ⟨.exit i,bS,aa,au,⟨az.1,fun z=>by simp only [cW,bV.plain,Bool.and_eq_true] at z;exact az.2 z.1⟩,fun rd aq E a w aG k s hY c2=>?_⟩
     refine wpIn_seq (aM rd aq E a w (aG.imp (fun h=>h) fun h=>by simp only [noMark,Bool.and_eq_true] at h;exact h.1) k s _ fun an bh aj cm z2 z3=>?_).wp
     exact c2 an bh aj cm z2 z3
   | ret=>
     refine ⟨.ret,bS,aa,au,⟨az.1,fun z=>by simp only [cW,bV.plain,Bool.and_eq_true] at z;exact az.2 z.1⟩,fun rd aq E a w aG k s hY c2=>?_⟩
     refine wpIn_seq (aM rd aq E a w (aG.imp (fun h=>h) fun h=>by simp only [noMark,Bool.and_eq_true] at h;exact h.1) k s _ fun an bh aj cm z2 z3=>?_).wp
     exact c2 an bh aj cm z2 z3
 | cond c x y tX tY=>
   intro r h Q aQ H
   simp only [cW,cU] at H
   cases br:(rx c).aV r<;>rw [br] at H<;>simp only at H<;>try (exact H.elim)
   rename_i t
   have aD:∀E a,j8 E al r a→a.eval c=.bool t:=by
    intro E a k
    cases c with
    | tmp d=>
      simp only [rx] at br
      cases ah:Nat.ble d top with
      | false=>rw [ah] at br;simp [aR.aV] at br
      | true=>
        rw [ah] at br
        simp only [cond_true,aR.aV] at br
        have:=k.aJ d (wu (Nat.le_of_ble_eq_true ah))
        rw [br] at this
        simp only [Rel] at this
        exact this
    | const v=>
      simp only [rx,aR.aV] at br
      have:=sk E v
      rw [br] at this
      simp only [Rel] at this
      exact this
    | func f=>
      simp only [rx] at br
      cases ah:Nat.beq f da<;>rw [ah] at br<;>simp [aR.aV] at br
    | global g=>simp [rx,aR.aV] at br
   cases t with
   | true=>
     obtain ⟨e,bS,aa,au,az,aM⟩:=tX r h Q aQ (H.1 rfl)
     exact ⟨e,bS,aa,au,⟨az.1,fun z=>by simp only [cW,bV.plain,Bool.and_eq_true] at z;exact az.2 z.1⟩,fun rd aq E a w aG k s hY c2=>wpIn_cond_true (aD E a k) (aM rd aq E a w (aG.imp (fun h=>h) fun h=>by simp only [noMark,Bool.and_eq_true] at h;exact h.1) k s hY c2).wp⟩
   | false=>
     obtain ⟨e,bS,aa,au,az,aM⟩:=tY r h Q aQ (H.2 rfl)
     exact ⟨e,bS,aa,au,⟨az.1,fun z=>by simp only [cW,bV.plain,Bool.and_eq_true] at z;exact az.2 z.2⟩,fun rd aq E a w aG k s hY c2=>wpIn_cond_false (aD E a k) (aM rd aq E a w (aG.imp (fun h=>h) fun h=>by simp only [noMark,Bool.and_eq_true] at h;exact h.2) k s hY c2).wp⟩
 | block id x bj=>
   intro r h Q aQ H
   simp only [cW,cU] at H
   obtain ⟨e,bS,aa,au,az,aM⟩:=bj r h _ aQ H
   refine ⟨e.leave id,bS,aa,au,az,fun rd aq E a w aG k s hY c2=>?_⟩
   refine wpIn_block (aM rd aq E a w (aG.imp (fun h=>h) fun h=>h) k s _ fun an bh aj cm z2 z3=>?_).wp
   cases e with
   | normal=>exact c2 an bh aj cm z2 z3
   | ret=>exact c2 an bh aj cm z2 z3
   | exit i=>
     have:=c2 an bh aj cm z2 z3
     simp only [toExit,Exit.inBlock]
     simp only [c'.leave] at this
     by_cases aF:i=id
     · rw [if_pos aF] at this ⊢;exact this
     · rw [if_neg aF] at this ⊢;exact this
 | loop x bj=>
   intro r h Q aQ H
   simp only [cW,cU] at H
   obtain ⟨I,μ,qI,XX⟩:=H
   have key:∀n r h,μ r h=n→I r h→Out al r→∃e bq ab,Q e bq ab∧(Out al bq∧((cW P al (.loop x)).plain=true→bq d'=r d'))∧zr P al (.loop x) r h e bq ab:=by
    intro n
    induction n using Nat.strongRecOn with
    | _ n Ys=>
      intro r h aS qI aQ
      obtain ⟨e,bS,aa,au,az,aM⟩:=bj r h _ aQ (XX r h qI)
      have body:∀(rd:Option Nat) (aq:Fr) E a w,(rd=none∨noMark x=true)→j8 E al r a→a1 aq E h w→∀(b:Frame) (cV:List Item) (cs:List Frame),b.roundOf=rd→∃bh aj an,E.le an∧j8 an al bS bh∧a1 aq an aa aj∧ArrivesIn (Machine.fenced P (ca rd)) P (lone (b.atR a (.code x::.inLoop x::cV)) cs w) b (.inLoop x::cV) cs (toExit e) bh aj:=by
       intro rd aq E a w aG k s b cV cs la
       have:=(aM rd aq E a w aG k s (fun c_ bh aj=>c_=toExit e∧∃an,E.le an∧j8 an al bS bh∧a1 aq an aa aj) (fun an bh aj au az aM=>⟨rfl,an,au,az,aM⟩)).wp b (.inLoop x::cV) cs la trivial (HS _)
       obtain ⟨bl,a2,bP,⟨rfl,b9,cm,z2,z3⟩,jq⟩:=this
       exact ⟨a2,bP,b9,cm,z2,z3,jq⟩
      cases e with
      | normal=>
        obtain ⟨Wn,aW⟩:=au
        obtain ⟨bl,b7,ae,bu,bB,dP⟩:=Ys (μ bS aa) (aS ▸ aW) bS aa rfl Wn az.1
        refine ⟨bl,b7,ae,bu,⟨bB.1,fun z=>(bB.2 z).trans (az.2 z)⟩,fun rd aq E a w aG k s hY c2 b cV cs la=>?_⟩
        obtain ⟨a2,bP,b9,cm,z2,z3,jq⟩:=body rd aq E a w (aG.imp (fun h=>h) fun h=>h) k s b cV cs la
        obtain ⟨bW,a3,iD,eR,fR⟩:=dP rd aq b9 a2 bP aG z2 z3 hY (fun jJ a4 jd t1 t2 t3=>c2 jJ a4 jd (cm.trans t1) t2 t3) b cV cs la
        exact ⟨bW,a3,iD,eR,.of_steps (StepsIn.trans jq (.one (pG _) stepR_inLoop)) fR⟩
      | exit i=>
        refine ⟨.exit i,bS,aa,au,az,fun rd aq E a w aG k s hY c2 b cV cs la=>?_⟩
        obtain ⟨a2,bP,b9,cm,z2,z3,jq⟩:=body rd aq E a w (aG.imp (fun h=>h) fun h=>h) k s b cV cs la
        exact ⟨.exit i,a2,bP,c2 b9 a2 bP cm z2 z3,.pass (x:=.inLoop x) rfl (fun _ _=>.inl (by simp)) jq⟩
      | ret=>
        refine ⟨.ret,bS,aa,au,az,fun rd aq E a w aG k s hY c2 b cV cs la=>?_⟩
        obtain ⟨a2,bP,b9,cm,z2,z3,jq⟩:=body rd aq E a w (aG.imp (fun h=>h) fun h=>h) k s b cV cs la
        exact ⟨.ret,a2,bP,c2 b9 a2 bP cm z2 z3,.pass (x:=.inLoop x) rfl (fun _ _=>.inl (by simp)) jq⟩
   exact key _ r h rfl qI aQ
 | scope x bj=>
   intro r h Q aQ H
   obtain ⟨e,bS,aa,au,az,aM⟩:=bj r h Q aQ H
   refine ⟨e,bS,aa,au,az,fun rd aq E a w aG k s hY c2=>?_⟩
   refine O6 (aM rd aq E a w (aG.imp (fun h=>h) fun h=>h) k s _ fun an bh aj cm z2 z3=>?_).wp
   have:=c2 an bh aj cm z2 z3
   cases e<;>exact this
 | rangeFunc f a_ x y _ _=>intro r h Q aQ H;exact adp gR cO bD aQ H
 | goto l=>intro r h Q aQ H;exact H.elim
 | refuse ae9=>intro r h Q aQ H;exact H.elim
inductive xf where
 | t (n:Nat)
 | bL (n:Nat)
 | jm (n size:Nat)
 | bad
def dZ (P:Program) (al:Nat):List ResultVar→List xf
 | []=>[]
 | .tmp t::rs=>(bif Nat.ble t top&&Nat.blt t al then .t t else .bad)::dZ P al rs
 | .cell a t::rs=>(bif Nat.ble a top&&Nat.blt a al then (match aZ P t with
   | none=>.bad
   | some aL=>bif aL.agg then .jm a aL.size else bif Nat.beq aL.size 1 then .bL a else .bad) else .bad)::dZ P al rs
noncomputable def dM (r:aT) (h:af):List xf→Option (List V)
 | []=>some []
 | x::xs=>match (match x with
   | .t n=>some (r n)
   | .bL n=>mF h (r n)
   | .jm n size=>mE size h (r n)
   | .bad=>none) with
   | none=>none
   | some v=>match dM r h xs with
     | none=>none
     | some ad=>some (v::ad)
theorem Ar {r:aT} {h:af} {cI:bt} (d_:dV cI=r):∀{l:List ResultVar} {ad:List V},dM r h (dZ P al l)=some ad→(kp P al l).run cI h=some ad
 | [],ad,he=>by simpa [dM,dZ,kp] using he
 | .tmp t::rs,ad,he=>by
   simp only [dZ,dM] at he
   unfold kp
   cases aD:(Nat.ble t top&&Nat.blt t al) with
   | false=>rw [aD] at he;simp at he
   | true=>
     rw [aD] at he
     simp only [cond_true] at he ⊢
     cases aG:dM r h (dZ P al rs) with
     | none=>rw [aG] at he;cases he
     | some uH=>
       rw [aG] at he
       rw [Ar d_ aG]
       have:=congrFun d_ t
       simp only [dV] at this
       rw [this]
       exact he
 | .cell a t::rs,ad,he=>by
   simp only [dZ,dM] at he
   unfold kp
   cases aD:(Nat.ble a top&&Nat.blt a al) with
   | false=>rw [aD] at he;simp at he
   | true=>
     rw [aD] at he
     simp only [cond_true] at he ⊢
     have LV:=congrFun d_ a
     simp only [dV] at LV
     rw [LV]
     unfold o3
     cases ax:aZ P t with
     | none=>rw [ax] at he;simp at he
     | some aL=>
       rw [ax] at he
       simp only at he ⊢
       cases Ld:aL.agg with
       | true=>
         rw [Ld] at he
         simp only [cond_true] at he ⊢
         cases ao:mE aL.size h (r a) with
         | none=>rw [ao] at he;cases he
         | some v=>
           rw [ao] at he
           simp only at he ⊢
           cases aG:dM r h (dZ P al rs) with
           | none=>rw [aG] at he;cases he
           | some uH=>rw [aG] at he;rw [Ar d_ aG];exact he
       | false=>
         rw [Ld] at he
         simp only [cond_false] at he ⊢
         cases aO:Nat.beq aL.size 1 with
         | false=>rw [aO] at he;simp at he
         | true=>
           rw [aO] at he
           simp only [cond_true] at he ⊢
           cases ao:mF h (r a) with
           | none=>rw [ao] at he;cases he
           | some v=>
             rw [ao] at he
             simp only at he ⊢
             cases aG:dM r h (dZ P al rs) with
             | none=>rw [aG] at he;cases he
             | some uH=>rw [aG] at he;rw [Ar d_ aG];exact he
theorem BT:∀(l:List V) (t:Nat),aT.bg l t=(l[t]?).getD .bad
 | [],t=>by simp [aT.bg]
 | v::ad,t=>by
   simp only [aT.bg]
   cases t with
   | zero=>simp
   | succ t=>simp [BT ad t]
def c'.ends:c'→Prop
 | .exit _=>False
 | _=>True
noncomputable def lX:List V→af→Option af
 | [],h=>some h
 | .ptr b _::ds,h=>(match h.get b with
   | .eD=>lX ds (h.set b .dead)
   | _=>none)
 | _::_,_=>none
theorem MU {j9:sP}:∀{ds:List V} {h ae:af},lX ds h=some ae→mC j9 ds none h=.go none ae
 | [],h,ae,e=>by simp only [lX,Option.some.injEq] at e;subst e;rfl
 | d::ds,h,ae,e=>by
   cases d<;>simp only [lX] at e<;>try (cases e;done)
   rename_i b o
   simp only [mC]
   cases aE:h.get b<;>rw [aE] at e<;>simp only at e<;>try (cases e;done)
   exact MU e
theorem J6 (cO:P.follows .mixedOrders=true) (bD:eI P) {f:FuncId} {fn:Func} {c:Code} {args:List V} {h:af} {K:V→af→Prop} (ar:P.funcs[f]? =some fn) (ah:fn.body=some c)
 (gR:Nat.ble fn.ntmps top=true) (a7:Nat.beq f da=false) (k3:Nat.ble args.length fn.ntmps=true) {rc:bV} {fg:List xf} (x9:cW P fn.ntmps c=rc) (kh:dZ P fn.ntmps fn.results.toList=fg) {Q:c'→aT→af→Prop} (H:cU P rc (aT.bg args) h Q)
 (c2:∀e r ab,(rc.plain=true→r d'=.bad)→Q e r ab→e.ends∧∃ae,lX (r d').list ab=some ae∧∃ad,dM r ae fg=some ad∧K (oneOf ad) ae):b_ P f args h K:=by
 subst x9 kh
 rw [Nat.ble_eq] at gR k3
 have aQ:Out fn.ntmps (aT.bg args):=by
  intro t ax _
  rw [BT,List.getElem?_eq_none (by omega)]
  rfl
 have Bd:(aT.bg args) d'=.bad:=by
  rw [BT,List.getElem?_eq_none (by unfold d';unfold top at gR;omega)]
  rfl
 obtain ⟨e,bq,ab,av,qR,WO⟩:=It gR cO bD c _ h _ aQ H
 obtain ⟨fU,ae,Xu,ad,Bi,dH⟩:=c2 e bq ab (fun z=>(qR.2 z).trans Bd) av
 have h6:f≠da:=fun e=>by subst e;simp at a7
 refine ⟨oneOf ad,ae,⟨h6,.inl ⟨⟨fn,ar,by rw [ah];rfl⟩,fun aq E w xs ak s=>?_⟩⟩,dH⟩
 have hlen:=ak.length
 have cc:xs.toArray.size≤fn.ntmps:=by simp;omega
 refine rO.1 (callsIn_of_wp_marks (F:=ca none) (n:=0) ar ah trivial ?_)
 have k:j8 E fn.ntmps (aT.bg args) {tmps:=xs.toArray++Array.replicate (fn.ntmps-xs.toArray.size) undef,defers:=[]}:=by
  refine ⟨by simp;omega,by rw [Bd];simp [kT],fun t _=>?_⟩
  rw [BT]
  cases aE:args[t]? with
  | none=>simp [Rel]
  | some v=>
    obtain ⟨y,a7,aG⟩:=ak.get t v aE
    simp only [Option.getD_some]
    have Bh:t<xs.length:=(List.getElem?_eq_some_iff.1 a7).1
    rw [Array.getD_eq_getD_getElem?,Array.getElem?_append_left (by simpa using Bh)]
    simp only [List.getElem?_toArray,a7,Option.getD_some]
    exact aG
 have k5:zt P (fun _ _ _ _=>.fail):=fun f args u h hF ab he=>by cases he
 have fin:∀an bh aj,E.le an→j8 an fn.ntmps bq bh→a1 aq an ab aj→LeavesInM (ca none) 0 P fn bh.tmps (fun e aj=>∃an x,e=.returned x∧E.le an∧Rel an (oneOf ad) x∧a1 aq an ae aj) bh.defers .returning aj:=by
  intro an bh aj au az aM
  obtain ⟨cI,d_⟩:=As qR.1
  have aX:T.get .bad eN cI=bq d':=by
   have:=congrFun d_ d'
   simp only [dV] at this
   exact this
  have ay:fh an fn.ntmps cI bh:=⟨⟨az.size,fun t ax=>by
   have:=congrFun d_ t
   simp only [dV] at this
   rw [this]
   exact az.aJ t (wu ax)⟩,by rw [aX];exact az.defers⟩
  refine ET (C:=⟨P,fun _=>none,fun _=>none⟩) (u:=none) bD k5 ay rfl aM ?_
  rw [aX,MU Xu]
  simp only [finish]
  rw [Ar d_ Bi]
  exact fun b9 x bP bu bB dP=>⟨b9,x,rfl,au.trans bu,bB,dP⟩
 refine (WO none aq E _ w (.inl rfl) k s _ fun an bh aj au az aM=>?_).wp
 have:=fin an bh aj au az aM
 cases e with
 | normal=>exact this
 | ret=>exact this
 | exit i=>exact fU.elim
theorem NQ:∀(a_:List Nat) (ad:List V) (cI:bt),dV (q_ a_ ad cI)=aT.so a_ ad (dV cI)
 | p::a_,v::ad,cI=>by
   rw [q_,aT.so,NQ a_ ad]
   congr 1
   exact Ca (some p) cI v
 | [],[],_=>rfl
 | [],_::_,_=>rfl
 | _::_,[],_=>rfl
theorem NR:∀{a_:List Nat} {ad:List V} {r:aT},oi al a_=true→Out al r→Out al (aT.so a_ ad r)
 | p::a_,v::ad,r,ag,aQ=>by
   simp only [oi,List.all_cons,Bool.and_eq_true] at ag
   exact NR (r:=r.set (some p) v) ag.2 (aQ.set (d:=some p) (by simp only [fe,Bool.and_eq_true];exact ag.1) v)
 | [],[],_,_,aQ=>aQ
 | [],_::_,_,_,aQ=>aQ
 | _::_,[],_,_,aQ=>aQ
theorem OX {a_:List Nat} {ad:List V} {r:aT} (ag:oi al a_=true) (aQ:Out al r):Out al (l0 a_ ad r):=fun t aa ae=>by
 unfold l0
 simp only [aT.set]
 rw [if_neg ae]
 exact NR ag aQ t aa ae
theorem Ix (gR:al≤top) (cO:P.follows .mixedOrders=true) (bD:eI P) {l:j7} {r:aT} {a_:List Nat} {y9 j4:bV} {xs:List V} {b:aN} {h:af} {K:V→af→Prop} (F:uU P l al r a_ y9 j4) (aE:h.get b=.cg l) (a6:l.st=0) (hlen:xs.length=a_.length)
 (H:cU P y9 (l0 a_ xs r) h fun e bS aa=>e=.normal∧aa.get b=.cg l∧cU P j4 bS (aa.set b (.cg (l.go 1 l.c6))) fun e b7 ae=>ae.get b=.cg (l.go 1 l.c6)∧(match e with
   | .normal=>K (.bool true) (ae.set b (.cg (l.go 0 none)))
   | e=>K (.bool false) (ae.set b (.cg (l.go 2 (some e)))))):zM P xs b h K:=by
 obtain ⟨IL,CN,CO,Qj,Qk,CP,Ql,Qm,IM⟩:=F
 subst Qj Qk
 obtain ⟨aP,bS,aa,⟨rfl,g1,cG⟩,bC,bL⟩:=It gR cO bD l.assign _ h _ (OX CP IM) H
 obtain ⟨bl,b7,ae,⟨g2,Qo⟩,bR,b0⟩:=It gR cO bD l.body _ _ _ bC.1 cG
 obtain ⟨v,ab,fU,dH⟩:∃v ab,ux b bl ae=.val v ab∧K v ab:=by
  unfold ux
  rw [g2]
  cases bl<;>exact ⟨_,_,rfl,Qo⟩
 refine ⟨v,ab,fun aq E w DA p ao s ag=>?_,dH⟩
 have ah:=s.at ag
 rw [aE] at ah
 obtain ⟨p',o,fN,c9,ba,aG⟩:=ah
 rw [ag] at fN;cases fN
 obtain ⟨t1,t2,t3,t4,t5,t6,t7,t8⟩:=aG
 have k7:=ao.length
 have vP:o.params.size=DA.length:=by rw [←Array.length_toList,t3,CO,←hlen,k7]
 refine ⟨o.fn,(o.params.zip DA.toArray).foldl (fun tmps (t,a)=>tmps.setIfInBounds t a) o.tmps,o.assign,o.body,?_,?_⟩
 · simp only [Instr.yield,Sem.run_bind,run_getLoop ba,Result.andThen_ok]
   rw [if_neg (by simp [vP])]
   rfl
 · rw [t4,t5]
   refine roundIn_of_wpIn (F:=ca none) trivial ?_
   have p2:RegRel0 E l.al l.r ⟨o.tmps,[]⟩:=⟨t6,t7⟩
   have S_:oi l.al o.params.toList=true:=by rw [t3,CO,IL];exact CP
   have bX:=Oi S_ ao p2
   have k:j8 E al (l0 a_ xs r) ⟨(o.params.zip DA.toArray).foldl (fun t (p:Nat × Value)=>t.setIfInBounds p.1 p.2) o.tmps,[]⟩:=by
    refine ⟨by rw [←IL];exact bX.size,by unfold l0;simp [aT.set,kT],fun t ax=>?_⟩
    by_cases X8:t≤top
    · have:=bX.aJ t X8
      rw [t3,CO] at this
      have e:=congrFun (NQ a_ xs l.r) t
      rw [CN] at e
      unfold l0
      simp only [aT.set]
      rw [if_neg ax,←e]
      exact this
    · rw [OX CP IM t (by omega) ax]
      simp [Rel]
   refine (bL (some p.bc) aq E _ w (.inr Ql) k s (Exit.then (fun qv rv=>∃zn,(Instr.beginRound p.bc).run P rv=.ok () zn∧
    l.body.wpIn (ca (some p.bc)) 0 P (roundPost P p.bc fun e aj=>∃an x,e=.returned x∧E.le an∧Rel an v x∧a1 aq an ab aj) qv zn) (fun _ _ _=>False)) fun eX bE bT au az aM=>?_).wp
   have il:=au _ _ ag
   have kH:=aM.at il
   rw [g1] at kH
   obtain ⟨bu,bk,x4,oK,pN,qT⟩:=kH
   rw [il] at x4;cases x4
   obtain ⟨eR,fR,y3,y4,Iv,y6,afv,gW⟩:=qT
   obtain ⟨cm,z2⟩:=aM.loop (P:=P) (cE:=l.go 1 l.c6) (b1:={bk with state:=.busy}) g1 il oK pN ⟨rfl,fR,y3,y4,Iv,y6,afv,gW⟩
   refine ⟨{bT with heap:=bT.heap.setIfInBounds p.bc (.loop {bk with state:=.busy})},?_,?_⟩
   · have x':bk.state=.ready:=by rw [eR,a6];rfl
     simp only [Instr.beginRound,Sem.run_bind,run_getLoop pN,Result.andThen_ok,cm,x',Sem.run_pure]
   · refine (b0 (some p.bc) aq eX _ _ (.inr Qm) az z2 _ fun b9 a2 bP bx c1 iE=>?_).wp
     exact OW iE (bx _ _ il) fU fun x aj l4 ly=>⟨b9,x,rfl,au.trans bx,l4,ly⟩
theorem fH (cO:P.follows .mixedOrders=true) (bD:eI P) {f:FuncId} {fn:Func} {c:Code} {args:List V} {h:af} {K:V→af→Prop} (ar:P.funcs[f]? =some fn) (ah:fn.body=some c)
 (gR:Nat.ble fn.ntmps top=true) (a7:Nat.beq f da=false) (k3:Nat.ble args.length fn.ntmps=true) {rc:bV} {fg:List xf} (x9:cW P fn.ntmps c=rc) (kh:dZ P fn.ntmps fn.results.toList=fg) (jv:rc.plain=true)
 (H:cU P rc (aT.bg args) h fun e r ab=>e.ends∧∃ad,dM r ab fg=some ad∧K (oneOf ad) ab):b_ P f args h K:=by
 refine J6 cO bD ar ah gR a7 k3 x9 kh H fun e r ab aO ⟨aa,ad,ae,aH⟩=>⟨aa,ab,?_,ad,ae,aH⟩
 rw [aO jv]
 rfl
theorem Ey (cO:P.follows .mixedOrders=true) (bD:eI P) {f:FuncId} {fn:Func} {c:Code} {args:List V} {h:af} {K:V→af→Prop} (ar:P.funcs[f]? =some fn) (ah:fn.body=some c)
 (gR:Nat.ble fn.ntmps top=true) (a7:Nat.beq f da=false) (k3:Nat.ble args.length fn.ntmps=true) {rc:bV} {fg:List xf} (x9:cW P fn.ntmps c=rc) (kh:dZ P fn.ntmps fn.results.toList=fg)
 (H:cU P rc (aT.bg args) h fun e r ab=>e.ends∧∃ae,lX (r d').list ab=some ae∧∃ad,dM r ae fg=some ad∧K (oneOf ad) ae):b_ P f args h K:=
 J6 cO bD ar ah gR a7 k3 x9 kh H fun e r ab _ q=>q
end
end Go.Proofs.YthemdhlheglhoaaGreatDoor.aY
namespace Go.Proofs.YthemdhlheglhoaaGreatDoor.aY
variable [Lay]
open Go Go.RowKit
theorem q8 (i j:Nat):(ai i=ai j)=(i=j):=by
 apply propext
 exact ⟨dR,fun h=>by rw [h]⟩
theorem ac' (ad:List V):∀(i off:Nat) (x:V) (t:T V),i<off→T.put .bad x (ai i) (dr t off ad)=dr (T.put .bad x (ai i) t) off ad:=by
 induction ad with
 | nil=>intro i off x t _;rfl
 | cons v ad bj=>
   intro i off x t h
   simp only [dr]
   rw [bj i (off+1) x _ (by omega),T.put_comm _ _ _ _ _ _ (fun e=>by rw [q8] at e;omega)]
def l3 (ad:List V) (off:Nat) (ws:List V):List V:=ad.take off++ws++ad.drop (off+ws.length)
theorem Oy:∀(ad:List V) (base i:Nat) (x:V) (t:T V),i<ad.length→T.put .bad x (ai (base+i)) (dr t base ad)=dr t base (ad.set i x)
 | [],_,i,_,_,h=>by simp at h
 | v::ad,base,i,x,t,h=>by
   cases i with
   | zero=>
     simp only [dr,Nat.add_zero,List.set]
     rw [ac' ad base (base+1) x _ (by omega),T.Ou]
   | succ i=>
     simp only [dr,List.set]
     have:=Oy ad (base+1) i x (T.put .bad v (ai base) t) (by simpa using h)
     rw [show base + (i+1)=base+1+i from by omega]
     exact this
theorem O9 (ad:List V) (off:Nat) (w:V) (ws:List V) (h:off<ad.length):l3 (ad.set off w) (off+1) ws=l3 ad off (w::ws):=by
 unfold l3
 have aa:(ad.set off w).take (off+1)=ad.take off++[w]:=by
  rw [List.take_succ_eq_append_getElem (by simpa using h)]
  simp [List.take_set_of_le]
 have ae:(ad.set off w).drop (off+1+ws.length)=ad.drop (off + (w::ws).length):=by
  rw [List.drop_set_of_lt (by omega)]
  congr 1
  simp
  omega
 rw [aa,ae]
 simp
theorem H7 (ad:List V) (off:Nat) (ws:List V) (h:off+ws.length≤ad.length):(l3 ad off ws).length=ad.length:=by
 unfold l3
 simp
 omega
theorem Hx:∀(ws ad:List V) (off:Nat),off+ws.length≤ad.length→dr (dr .e 0 ad) off ws=dr .e 0 (l3 ad off ws)
 | [],ad,off,h=>by simp [dr,l3]
 | w::ws,ad,off,h=>by
   simp only [List.length_cons] at h
   simp only [dr]
   have aa:=Oy ad 0 off w .e (by omega)
   rw [Nat.zero_add] at aa
   rw [aa,Hx ws (ad.set off w) (off+1) (by simp;omega),O9 ad off w ws (by omega)]
theorem E2 (ad:List V):∀(off i:Nat) (t:T V),T.get .bad (ai (off+i)) (dr t off ad)=if i<ad.length then (ad[i]?).getD .bad else T.get .bad (ai (off+i)) t:=by
 induction ad with
 | nil=>intro off i t;simp [dr]
 | cons v ad bj=>
   intro off i t
   simp only [dr]
   cases i with
   | zero=>
     have:∀(ws:List V) (o:Nat) (s:T V),off<o→T.get .bad (ai off) (dr s o ws)=T.get .bad (ai off) s:=by
      intro ws
      induction ws with
      | nil=>intro o s _;rfl
      | cons w ws Yt=>
        intro o s aQ
        simp only [dr]
        rw [Yt (o+1) _ (by omega),T.hM,if_neg (fun e=>by rw [q8] at e;omega)]
     rw [Nat.add_zero,this ad (off+1) _ (by omega),T.hM]
     simp
   | succ i=>
     have:=bj (off+1) i (T.put .bad v (ai off) t)
     rw [show off+1+i=off + (i+1) from by omega] at this
     rw [this,T.hM]
     have dJ:¬ai off=ai (off + (i+1)):=fun e=>by rw [q8] at e;omega
     rw [if_neg dJ]
     simp
theorem AK (ad:List V):∀(n i:Nat),i+n≤ad.length→kE (dr .e 0 ad) i n=(ad.drop i).take n
 | 0,i,h=>by simp [kE]
 | n+1,i,h=>by
   simp only [kE]
   have aa:=E2 ad 0 i .e
   rw [Nat.zero_add] at aa
   rw [aa,if_pos (by omega),AK ad n (i+1) (by omega)]
   have aX:ad.drop i=ad[i]::ad.drop (i+1):=List.drop_eq_getElem_cons (by omega)
   rw [aX,List.take_succ_cons]
   simp [List.getElem?_eq_getElem (by omega:i<ad.length)]
noncomputable def b4.bg (ad:List V) (cP:Nat) (st:Bool):b4:=.cells ad.length (dr .e 0 ad) cP st
noncomputable def b4.ro (ad:List V):b4:=.view ad.length (dr .e 0 ad)
def Rd (h:af) (b:aN) (ad:List V):Prop:=h.get b=.ro ad∨∃cP st,h.get b=.bg ad cP st
def Own (h:af) (b:aN) (ad:List V) (cP:Nat) (st:Bool):Prop:=h.get b=.bg ad cP st
theorem Rd.om {α:Type} {h:af} {b:aN} {ad:List V} (H:Rd h b ad) (d:α) (f:Nat→T V→α):(h.get b).om d f=f ad.length (dr .e 0 ad):=by
 rcases H with H | ⟨_,_,H⟩<;>rw [H]<;>rfl
theorem Own.lay {h:af} {b:aN} {ad:List V} {cP:Nat} {st:Bool} (H:Own h b ad cP st) {off:Nat} {ws:List V} (aQ:off+ws.length≤ad.length) (aa:gh ws=true):
 lay h b off ws=some (h.set b (.bg (l3 ad off ws) cP st)):=by
 unfold aY.lay
 rw [show h.get b=.cells ad.length (dr .e 0 ad) cP st from H]
 simp only [b4.on]
 rw [show Nat.ble (off+ws.length) ad.length=true from by rw [Nat.ble_eq];exact aQ,aa]
 simp only [Bool.and_true,cond_true,Option.some.injEq,b4.bg]
 rw [H7 ad off ws aQ,Hx ws ad off aQ]
theorem abH {h:af} {ad:List V} (ao:ad.length≤top):gg h ad=some (h.new (.bg ad 0 false)):=by
 unfold gg
 rw [show Nat.ble ad.length top=true from by rw [Nat.ble_eq];exact ao]
 rfl
theorem G2 {h:af} {ad:List V} {cP:Nat} {st:Bool} (ao:ad.length≤top) (he:1≤cP):jz h ad cP st=some (h.new (.bg ad cP st)):=by
 unfold jz
 rw [show Nat.ble ad.length top=true from by rw [Nat.ble_eq];exact ao,show Nat.ble 1 cP=true from by rw [Nat.ble_eq];exact he]
 rfl
theorem fs (h:af) (k:b4):(h.new k).next=h.next+1:=rfl
theorem nr (h:af) (b:aN) (k:b4):(h.set b k).next=h.next:=rfl
section
variable {P:Program} {r:aT} {h:af}
theorem adU (r:aT) (d:Nat) (v:V) (t:Nat):aT.set r (some d) v t=if t=d then v else r t:=(rfl)
theorem adV (r:aT) (v:V):aT.set r none v=r:=(rfl)
theorem aeN (r:aT) (u:Nat) (us:List Nat) (t:Nat):aT.trim r (u::us) t=if t=u then r t else aT.trim r us t:=(rfl)
theorem ab4 (v:V) (ad:List V):aT.bg (v::ad) 0=v:=(rfl)
theorem ab5 (v:V) (ad:List V) (t:Nat):aT.bg (v::ad) (t+1)=aT.bg ad t:=by simp [aT.bg]
theorem Vg (r:aT) (n:Nat):aR.aV r (.t n)=r n:=(rfl)
theorem Vf (r:aT) (v:V):aR.aV r (.c v)=v:=(rfl)
theorem Nx {d:Option Nat} {g:G} {rs:List Nat} {K:aT→V→af→Prop}:bI.wp P ⟨d,g,none,rs⟩ r h K=g.wp P (r.trim rs) h fun v ab=>K (r.set d v) v ab:=(rfl)
theorem Nv {d:Option Nat} {g:G} {j:Nat} {want:Bool} {rs:List Nat} {K:aT→V→af→Prop}:bI.wp P ⟨d,g,some (j,want),rs⟩ r h K=
 gate (r.trim rs j) want (g.wp P (r.trim rs) h fun v ab=>K (r.set d v) v ab) (K (r.set d (.tuple [])) (.tuple []) h):=(rfl)
variable {K:V→af→Prop}
theorem pB (k:IntKind):nJ k k=true:=by cases k<;>rfl
theorem p4 (a b:Int):Int.leB a b=decide (a≤b):=n2 a b
theorem EM (a b:Int):Int.gr a b=decide (a=b):=by rw [k0];rfl
variable (k:IntKind) (a b:Int)
theorem YR:(eW.int .add).run P (.int k a) (.int k b)=some (.int k (k.wrap (a+b))):=by simp [eW.run,lf,nZ,V.ep,pB]
theorem ZT:(eW.int .sub).run P (.int k a) (.int k b)=some (.int k (k.wrap (a-b))):=by simp [eW.run,lf,nZ,V.ep,pB]
theorem ZB:(eW.int .mul).run P (.int k a) (.int k b)=some (.int k (k.wrap (a * b))):=by simp [eW.run,lf,nZ,V.ep,pB]
theorem Za:(eW.int .eql).run P (.int k a) (.int k b)=some (.bool (decide (a=b))):=by simp [eW.run,lf,mA,V.ep,pB,EM]
theorem ZE:(eW.int .neq).run P (.int k a) (.int k b)=some (.bool (!decide (a=b))):=by simp [eW.run,lf,mA,V.ep,pB,EM]
theorem Zx:(eW.int .lss).run P (.int k a) (.int k b)=some (.bool (decide (a<b))):=by
 simp [eW.run,lf,mA,V.ep,pB,p4]
 rw [Bool.eq_iff_iff];simp
theorem Zu:(eW.int .leq).run P (.int k a) (.int k b)=some (.bool (decide (a≤b))):=by simp [eW.run,lf,mA,V.ep,pB,p4]
theorem Zi:(eW.int .gtr).run P (.int k a) (.int k b)=some (.bool (decide (b<a))):=by
 simp [eW.run,lf,mA,V.ep,pB,p4]
 rw [Bool.eq_iff_iff];simp
theorem Zh:(eW.int .geq).run P (.int k a) (.int k b)=some (.bool (decide (b≤a))):=by simp [eW.run,lf,mA,V.ep,pB,p4]
theorem YT (x y:Bool):(eW.tj false).run P (.bool x) (.bool y)=some (.bool (x == y)):=by simp [eW.run,iL,xF,pA]
theorem YX (x y:Bool):(eW.tj true).run P (.bool x) (.bool y)=some (.bool (!(x == y))):=by simp [eW.run,iL,xF,pA]
theorem aeW (x:Bool):qd .not (.bool x)=some (.bool (!x)):=(rfl)
theorem aeV:qd .neg (.int k a)=some (.int k (k.wrap (0-a))):=(rfl)
theorem wrap_i64 {n:Int} (aa:-9223372036854775808≤n) (ae:n≤9223372036854775807):IntKind.i64.wrap n=n:=by
 exact Go.IntWalk.i64_in n ⟨aa,ae⟩
end
section
variable {P:Program} {r:aT} {h:af} {Q:c'→aT→af→Prop}
theorem T0 {ops:List bI}:cU P (.aJ ops) r h Q=ru P ops r h (Q .normal):=(rfl)
theorem T1 {a b:bV}:cU P (.seq a b) r h Q=cU P a r h fun e bq ab=>e.andThen (cU P b bq ab Q) (Q e bq ab):=(rfl)
theorem aeG {A B:Prop}:c'.andThen .normal A B=A:=(rfl)
theorem aeH {A B:Prop}:c'.andThen .ret A B=B:=(rfl)
theorem aeF {A B:Prop} {i:Nat}:c'.andThen (.exit i) A B=B:=(rfl)
theorem aaX {id:Nat}:c'.leave id .normal=.normal:=(rfl)
theorem aaY {id:Nat}:c'.leave id .ret=.ret:=(rfl)
theorem aaW {id i:Nat}:c'.leave id (.exit i)=if i=id then .normal else .exit i:=(rfl)
end
end Go.Proofs.YthemdhlheglhoaaGreatDoor.aY
namespace Go.Proofs.YthemdhlheglhoaaGreatDoor.aY
variable [Lay]
open Go Go.RowKit
def uJ {α:Type} (o:Option α) (k:α→Prop):Prop:=
 match o with
 | some v=>k v
 | none=>False
@[congr] theorem ag0 {α:Type} {o b1:Option α} {k:α→Prop} (h:o=b1):uJ o k=uJ b1 k:=by rw [h]
def V.opt (c:Bool) (v:V):V:=bif c then v else .tuple []
theorem acx (v:V):V.opt true v=v:=(rfl)
theorem acu (v:V):V.opt false v=.tuple []:=(rfl)
@[congr] theorem agP {c hi:Bool} {v e4:V} (h:c=hi) (br:hi=true→v=e4):V.opt c v=V.opt hi e4:=by
 subst h
 cases c with
 | true=>rw [br rfl]
 | false=>rfl
def V.bif (t:Bool) (a b:V):V:=bif t then a else b
theorem ae6 (a b:V):V.bif true a b=a:=(rfl)
theorem ae5 (a b:V):V.bif false a b=b:=(rfl)
theorem RS (t a b:Bool):V.bif t (.bool a) (.bool b)=.bool (bif t then a else b):=by cases t<;>rfl
theorem RT (t:Bool) (k:IntKind) (a b:Int):V.bif t (.int k a) (.int k b)=.int k (if t=true then a else b):=by cases t<;>rfl
theorem RV (t x:Bool):(bif t then true else x)=(t||x):=by cases t<;>rfl
theorem RR (t x:Bool):(bif t then x else false)=(t&&x):=by cases t<;>rfl
@[congr] theorem afO {t rn:Bool} {a bh b bH:V} (h:t=rn) (bd:rn=true→a=bh) (ah:rn=false→b=bH):V.bif t a b=V.bif rn bh bH:=by
 subst h
 cases t with
 | true=>rw [V.bif,V.bif,bd rfl];rfl
 | false=>rw [V.bif,V.bif,ah rfl];rfl
def fa (c:Bool) (A:Prop):Prop:=c=true→A
@[congr] theorem afH {c hi:Bool} {A jG:Prop} (h:c=hi) (bd:hi=true→A=jG):fa c A=fa hi jG:=by
 subst h
 exact propext ⟨fun q e=>(bd e) ▸ q e,fun q e=>(bd e) ▸ q e⟩
theorem Qp (c:Bool):fa c True=True:=propext ⟨fun _=>trivial,fun _ _=>trivial⟩
theorem Qr (A:Prop):fa true A=A:=propext ⟨fun q=>q rfl,fun q _=>q⟩
theorem Qq (A:Prop):fa false A=True:=propext ⟨fun _=>trivial,fun _ e=>by cases e⟩
def took (v:V) (want:Bool):Bool:=
 match v with
 | .bool b=>b == want
 | _=>false
theorem aeK (b w:Bool):took (.bool b) w=(b == w):=(rfl)
theorem aeM (ad:List V) (w:Bool):took (.tuple ad) w=false:=(rfl)
theorem aeL (c:Bool) (v:V) (w:Bool):took (.opt c v) w=(c&&took v w):=by cases c<;>rfl
def fA (v:V):Prop:=
 match v with
 | .bool _=>True
 | .tuple _=>True
 | _=>False
theorem YI (b:Bool):fA (.bool b)=True:=(rfl)
theorem YK (ad:List V):fA (.tuple ad)=True:=(rfl)
theorem YJ (c b:Bool):fA (.opt c (.bool b))=True:=by cases c<;>rfl
def G.n0:G→Bool
 | .gH _ | .pick .. | .build .. | .jy _ | .ki .. | .sj _ | .bin .. | .un .. | .fn .. | .yG .. | .zT .. | .tW .. | .qb .. | .hf .. | .jR .. | .tm .. | .tn .. | .fz .. | .wa .. | .lg .. | .jx .. | .look .. | .ext .. | .wq _ | .dO _=>true
 | .jQ (.int _) _=>true
 | .len .map _=>false
 | .len _ _=>true
 | _=>false
def V.q7 {α:Type} (v:V) (d:α) (f:List V→α):α:=
 match v with
 | .agg cs=>f cs
 | _=>d
def V.yO {α:Type} (v:V) (d:α) (f:List V→α):α:=
 match v with
 | .tuple cs=>f cs
 | _=>d
def yY (c a b:V):Option V:=
 match c with
 | .bool t=>some (V.bif t a b)
 | _=>none
theorem acQ (t:Bool) (a b:V):yY (.bool t) a b=some (V.bif t a b):=(rfl)
def ze (n:Nat) (x:V) (bG aF m3:Option V):Option V:=
 match x with
 | .cq=>Cs bG aF m3
 | .slice b off ug cap=>wR n b off ug cap bG aF m3
 | .e8 b off ug idx=>wQ n b off ug idx bG aF m3
 | .hS b off nu idx=>Ct b off nu idx bG aF m3
 | _=>none
noncomputable def G.lu (P:Program) (g:G) (r:aT) (h:af):Option V:=
 match g with
 | .gH x=>some (x.aV r)
 | .pick c a b=>yY (c.aV r) (a.aV r) (b.aV r)
 | .build z a_=>(match iw z (kb r a_) with
   | some cs=>some (.agg cs)
   | none=>none)
 | .jy x=>mF h (x.aV r)
 | .ki n x=>mE n h (x.aV r)
 | .sj x=>si (x.aV r)
 | .bin k x y=>k.run P (x.aV r) (y.aV r)
 | .un op x=>qd op (x.aV r)
 | .jQ (.int k) x=>(x.aV r).ep none fun _ n=>some (.int k (k.wrap n))
 | .fn f eJ=>some (.func f (aR.fI r eJ))
 | .yG f first=>some (.ob f (aR.fI r first))
 | .zT t z ok x=>xo t z ok (x.aV r)
 | .tW t x=>some (.iface t (x.aV r))
 | .qb x bG aF m3=>l2 (x.aV r) (aR.opt r bG) (aR.opt r aF) (aR.opt r m3)
 | .hf n x bG aF m3=>ze n (x.aV r) (aR.opt r bG) (aR.opt r aF) (aR.opt r m3)
 | .jR off x=>(x.aV r).iY none fun b o=>some (.ptr b (o+off))
 | .tm off x=>(x.aV r).q7 none fun cs=>cs[off]?
 | .tn off n x=>(x.aV r).q7 none fun cs=>some (.agg ((cs.drop off).take n))
 | .fz n x i=>(t' n).run (x.aV r) (i.aV r)
 | .wa n s x i=>(tZ n s).run (x.aV r) (i.aV r)
 | .lg x i=>qZ.run (x.aV r) (i.aV r)
 | .jx t x i=>(qY P t).run (x.aV r) (i.aV r)
 | .look k z ok x i=>oa k.eq z ok h (x.aV r) (i.aV r)
 | .ext x i=>(x.aV r).yO none fun ad=>ad[i]?
 | .len (.arr n) _=>some (.int .i64 n)
 | .len .str x=>(n' .string).run (x.aV r)
 | .len .slice x=>(n' (.slice 0)).run (x.aV r)
 | .wq args=>km (fun b a=>!Int.leB a b) (aR.fI r args)
 | .dO args=>km (fun b a=>!Int.leB b a) (aR.fI r args)
 | _=>none
section
variable {P:Program} {r:aT} {h:af}
theorem pure_run {g:G} (ag:g.n0=true) (call:dw):g.run P call r h=aU.of h (g.lu P r h):=by
 cases g<;>simp only [G.n0] at ag<;>try (cases ag;done)
 all_goals simp only [G.run,G.lu]
 case gH x=>rfl
 case pick c a b=>
  generalize c.aV r=q
  cases q<;>rfl
 case build z a_=>
  generalize iw z (kb r a_)=q
  cases q<;>rfl
 case jQ k x=>
  cases k<;>simp only at ag<;>try (cases ag;done)
  simp only [ry.run]
  generalize x.aV r=q
  cases q<;>rfl
 case fn f eJ=>rfl
 case yG f first=>rfl
 case tW t x=>rfl
 case hf n x bG aF m3=>
  unfold ze
  generalize x.aV r=q
  cases q<;>rfl
 case tm off x=>
  generalize x.aV r=q
  cases q<;>rfl
 case tn off n x=>
  generalize x.aV r=q
  cases q<;>rfl
 case ext x i=>
  generalize x.aV r=q
  cases q<;>rfl
 case len k x=>
  cases k<;>simp only at ag<;>first | rfl | (cases ag;done)
theorem KW {g:G} (ag:g.n0=true) {K:V→af→Prop}:g.wp P r h K=uJ (g.lu P r h) fun v=>K v h:=by
 have e:g.wp P r h K=∃v ab,g.run P kM r h=.val v ab∧K v ab:=by
  cases g<;>first | rfl | (simp [G.n0] at ag;done)
 rw [e,pure_run ag]
 apply propext
 cases br:g.lu P r h with
 | none=>exact ⟨fun ⟨v,ab,q,_⟩=>(by cases q),fun q=>q.elim⟩
 | some v=>
   constructor
   · rintro ⟨v1,aa,q,k⟩
     simp only [aU.of,aU.val.injEq] at q
     obtain ⟨rfl,rfl⟩:=q
     exact k
   · intro k
     exact ⟨v,h,rfl,k⟩
theorem Ny {d:Option Nat} {g:G} {rs:List Nat} {K:aT→V→af→Prop} (ag:g.n0=true):bI.wp P ⟨d,g,none,rs⟩ r h K=uJ (g.lu P (r.trim rs) h) fun v=>K (r.set d v) v h:=by
 rw [Nx,KW ag]
theorem Nw {d:Option Nat} {g:G} {j:Nat} {want:Bool} {rs:List Nat} {K:aT→V→af→Prop} (ag:g.n0=true):bI.wp P ⟨d,g,some (j,want),rs⟩ r h K=
 (fA (r.trim rs j)∧fa (took (r.trim rs j) want) ((g.lu P (r.trim rs) h).isSome=true)∧
   K (r.set d (V.opt (took (r.trim rs j) want) ((g.lu P (r.trim rs) h).getD .bad))) (V.opt (took (r.trim rs j) want) ((g.lu P (r.trim rs) h).getD .bad)) h):=by
 rw [Nv,KW ag]
 generalize r.trim rs j=q
 generalize g.lu P (r.trim rs) h=o
 apply propext
 cases q<;>simp only [gate,fA,took,false_and,true_and]
 case bool b=>
  cases b<;>cases want<;>cases o<;>simp [uJ,fa,V.opt]
 case tuple ad=>simp [fa,V.opt]
@[congr] theorem ag4 {os:List bI} {r bq:aT} {h ab:af} {K:aT→af→Prop} (aP:r=bq) (bl:h=ab):ru P os r h K=ru P os bq ab K:=by rw [aP,bl]
@[congr] theorem ag2 {os:List bI} {r bq:aT} {h ab:af} {K:List fZ→aT→af→Prop} (aP:r=bq) (bl:h=ab):kS P os r h K=kS P os bq ab K:=by rw [aP,bl]
@[congr] theorem afF {o:bI} {r bq:aT} {h ab:af} {K:aT→V→af→Prop} (aP:r=bq) (bl:h=ab):o.wp P r h K=o.wp P bq ab K:=by rw [aP,bl]
@[congr] theorem afG {g:G} {r bq:aT} {h ab:af} {K:V→af→Prop} (aP:r=bq) (bl:h=ab):g.wp P r h K=g.wp P bq ab K:=by rw [aP,bl]
@[congr] theorem ag1 {c:bV} {r bq:aT} {h ab:af} {Q:c'→aT→af→Prop} (aP:r=bq) (bl:h=ab):cU P c r h Q=cU P c bq ab Q:=by rw [aP,bl]
@[congr] theorem afD {f:FuncId} {a bh:List V} {h ab:af} {K:V→af→Prop} (aP:a=bh) (bl:h=ab):b_ P f a h K=b_ P f bh ab K:=by rw [aP,bl]
noncomputable def j0 (k:b4) (off:Nat):Option V:=k.om none fun n cs=>bif Nat.blt off n then some (T.get .bad (ai off) cs) else none
noncomputable def mB (n:Nat) (k:b4) (off:Nat):Option V:=k.om none fun m cs=>bif Nat.ble (off+n) m then some (.agg (kE cs off n)) else none
theorem abf (b:aN) (off:Nat):mF h (.ptr b off)=j0 (h.get b) off:=(rfl)
theorem abh (n:Nat) (b:aN) (off:Nat):mE n h (.ptr b off)=mB n (h.get b) off:=(rfl)
theorem MQ {ad:List V} {off:Nat}:(bif Nat.blt off ad.length then some (T.get .bad (ai off) (dr .e 0 ad)) else none)=ad[off]? :=by
 have:=E2 ad 0 off .e
 rw [Nat.zero_add] at this
 rw [this]
 by_cases aQ:off<ad.length
 · rw [show Nat.blt off ad.length=true from by rw [Nat.blt_eq];exact aQ,if_pos aQ]
   simp [List.getElem?_eq_getElem aQ]
 · rw [show Nat.blt off ad.length=false from by rw [←Bool.not_eq_true,Nat.blt_eq];exact aQ]
   rw [List.getElem?_eq_none (by omega)]
   rfl
theorem MO (ad:List V) (cP:Nat) (st:Bool) (off:Nat):j0 (.bg ad cP st) off=ad[off]? :=MQ
theorem MP (ad:List V) (off:Nat):j0 (.ro ad) off=ad[off]? :=MQ
theorem MT {ad:List V} {off n:Nat}:(bif Nat.ble (off+n) ad.length then some (V.agg (kE (dr .e 0 ad) off n)) else none)=if off+n≤ad.length then some (.agg ((ad.drop off).take n)) else none:=by
 by_cases aQ:off+n≤ad.length
 · rw [show Nat.ble (off+n) ad.length=true from by rw [Nat.ble_eq];exact aQ,if_pos aQ,AK ad n off aQ]
   rfl
 · rw [show Nat.ble (off+n) ad.length=false from by rw [←Bool.not_eq_true,Nat.ble_eq];exact aQ,if_neg aQ]
   rfl
theorem yx (n:Nat) (ad:List V) (cP:Nat) (st:Bool) (off:Nat):mB n (.bg ad cP st) off=if off+n≤ad.length then some (.agg ((ad.drop off).take n)) else none:=MT
theorem MS (n:Nat) (ad:List V) (off:Nat):mB n (.ro ad) off=if off+n≤ad.length then some (.agg ((ad.drop off).take n)) else none:=MT
theorem Rd.jy {b:aN} {ad:List V} (H:Rd h b ad) (off:Nat):j0 (h.get b) off=ad[off]? :=by
 rcases H with H | ⟨_,_,H⟩<;>rw [H]
 · exact MP ad off
 · exact MO ad _ _ off
theorem Rd.ki {b:aN} {ad:List V} (H:Rd h b ad) (n off:Nat):mB n (h.get b) off=if off+n≤ad.length then some (.agg ((ad.drop off).take n)) else none:=by
 rcases H with H | ⟨_,_,H⟩<;>rw [H]
 · exact MS n ad off
 · exact yx n ad _ _ off
def over:List V→List V→List V
 | ad,[]=>ad
 | [],_::_=>[]
 | _::ad,w::ws=>w::over ad ws
def oq:List V→Nat→List V→List V
 | ad,0,ws=>over ad ws
 | [],_+1,_=>[]
 | v::ad,n+1,ws=>v::oq ad n ws
theorem NP:∀(ad ws:List V),ws.length≤ad.length→over ad ws=ws++ad.drop ws.length
 | ad,[],_=>by cases ad<;>rfl
 | [],_::_,h=>by simp at h
 | v::ad,w::ws,h=>by
   simp only [over,List.cons_append,List.length_cons,List.drop_succ_cons]
   rw [NP ad ws (by simpa using h)]
theorem Cv:∀(ad:List V) (off:Nat) (ws:List V),off+ws.length≤ad.length→oq ad off ws=l3 ad off ws
 | ad,0,ws,h=>by
   cases ad<;>simp only [oq,l3,List.take_zero,List.nil_append,Nat.zero_add]<;>exact NP _ ws (by omega)
 | [],n+1,ws,h=>by simp at h
 | v::ad,n+1,ws,h=>by
   simp only [List.length_cons] at h
   simp only [oq,l3]
   rw [Cv ad n ws (by omega)]
   simp only [l3,List.take_succ_cons,List.cons_append]
   rw [show n+1+ws.length=n+ws.length+1 from by omega,List.drop_succ_cons]
theorem aeg (ad:List V) (off:Nat) (ws:List V) (h:off+ws.length≤ad.length):(oq ad off ws).length=ad.length:=by
 rw [Cv ad off ws h,H7 ad off ws h]
noncomputable def yv (n:Nat) (h:af) (b:aN) (off:Nat) (y:V) (k:b4):Option af:=
 bif Nat.beq y.cells.length n then k.on none fun m cs cP st=>
  bif Nat.ble (off+y.cells.length) m&&gh y.cells then some (h.set b (.cells m (dr cs off y.cells) cP st)) else none else none
theorem aem (n:Nat) (b:aN) (off:Nat) (y:V):uC n h (.ptr b off) y=yv n h b off y (h.get b):=(rfl)
theorem aaJ {n:Nat} {b:aN} {off:Nat} {y:V} {ad:List V} {cP:Nat} {st:Bool} (aa:y.cells.length=n) (ae:gh y.cells=true) (aH:off+n≤ad.length):
 yv n h b off y (.bg ad cP st)=some (h.set b (.bg (oq ad off y.cells) cP st)):=by
 unfold yv
 rw [show Nat.beq y.cells.length n=true from by rw [Nat.beq_eq];exact aa]
 simp only [cond_true,b4.bg,b4.on]
 rw [show Nat.ble (off+y.cells.length) ad.length=true from by rw [Nat.ble_eq,aa];exact aH,ae]
 simp only [Bool.and_true,cond_true,Option.some.injEq]
 rw [aeg ad off _ (by rw [aa];exact aH),Cv ad off _ (by rw [aa];exact aH),Hx _ ad off (by rw [aa];exact aH)]
theorem m' (k:b4):(h.new k).get (ai h.next)=k:=by rw [af.h1,if_pos rfl]
theorem h1 (b:aN) (k:b4):(h.new k).get b=if ai h.next=b then k else h.get b:=af.h1 h b k
theorem c0 (b bH:aN) (k:b4):(h.set b k).get bH=if b=bH then k else h.get bH:=af.c0 h b bH k
def Old (h:af) (b:aN):Prop:=e9 b<h.next
theorem Ha {b:aN} {i:Nat} (ah:Old h b) (aF:h.next≤i):(ai i=b)=False:=by
 apply propext
 constructor
 · intro e
   unfold Old at ah
   rw [←e,c8] at ah
   omega
 · exact False.elim
theorem NF {k:b4}:Old (h.new k) (ai h.next):=by unfold Old;rw [c8];exact Nat.lt_succ_self _
def Au (off:Nat) (x:V):Option V:=x.iY none fun b o=>some (.ptr b (o+off))
theorem Vl (off:Nat) (b:aN) (o:Nat):Au off (.ptr b o)=some (.ptr b (o+off)):=(rfl)
theorem ab' {α:Type} (ad:List V) (d:α) (f:List V→α):V.yO (.tuple ad) d f=f ad:=(rfl)
theorem ab9 {α:Type} (ad:List V) (d:α) (f:List V→α):V.q7 (.agg ad) d f=f ad:=(rfl)
def mD (x:V):Option V:=(n' (.slice 0)).run x
theorem aa4 (b:aN) (off n c:Nat):mD (.slice b off n c)=some (.int .i64 n):=(rfl)
theorem aa2 (b:aN) (off n c:Nat):mD (.e8 b off n c)=some (.int .i64 n):=(rfl)
theorem aa5 (b:aN) (off n c:Nat):mD (.hS b off n c)=some (.int .i64 0):=(rfl)
theorem aa3:mD .cq=some (.int .i64 0):=(rfl)
def By (x:V):Option V:=(n' .string).run x
theorem aa6 (s:List UInt8):By (.str s)=some (.int .i64 s.length):=(rfl)
def lU (n:Nat) (x i:V):Option V:=(t' n).run x i
theorem Mh (n:Nat) (b:aN) (off len cap:Nat) (k:IntKind) (i:Int):lU n (.slice b off len cap) (.int k i)=if 0≤i∧i<len then some (.ptr b (off+i.toNat * n)) else none:=by
 simp only [lU,t',V.ep,sa,p4]
 by_cases aa:0≤i<;>by_cases ae:(len:Int)≤i<;>simp [aa,ae]<;>omega
theorem Mg (n:Nat) (b:aN) (off len cap:Nat) (k:IntKind) (i:Int):lU n (.e8 b off len cap) (.int k i)=if 0≤i∧i<len then some (.ptr b (off+i.toNat * n)) else none:=by
 simp only [lU,t',V.ep,sa,p4]
 by_cases aa:0≤i<;>by_cases ae:(len:Int)≤i<;>simp [aa,ae]<;>omega
def Af (k:IntKind) (x:V):Option V:=x.ep none fun _ n=>some (.int k (k.wrap n))
theorem UJ (k bp:IntKind) (n:Int):Af k (.int bp n)=some (.int k (k.wrap n)):=(rfl)
end
end Go.Proofs.YthemdhlheglhoaaGreatDoor.aY
namespace Go.Proofs.YthemdhlheglhoaaGreatDoor.aY
variable [Lay]
open Go Go.RowKit
structure ie where
 all:List bI
 asks:List (Nat × List Nat)
 es:List fZ
def iy (D:Option ie) (r:aT) (h:af) (v:V):Option ie:=
 match D with
 | none=>none
 | some d=>some ⟨d.all,d.asks,d.es++[⟨r,h,v⟩]⟩
inductive hW where
 | os (D:Option ie) (os:List bI)
 | c (b:bV)
 | bc (id:Nat)
section
variable (P:Program)
noncomputable def s3 (D:Option ie) (es:List fZ) (ar:af):Prop:=
 match D with
 | none=>True
 | some d=>oD P d.all (d.es++es) ar d.asks
noncomputable def bm:List hW→c'→aT→af→(c'→aT→af→Prop)→Prop
 | [],e,r,h,Q=>Q e r h
 | .os D os::aK,e,r,h,Q=>match e with
   | .normal=>kS P os r h fun es bq ab=>s3 P D es ab∧bm aK .normal bq ab Q
   | e=>bm aK e r h Q
 | .c b::aK,e,r,h,Q=>match e with
   | .normal=>cU P b r h fun e bq ab=>bm aK e bq ab Q
   | e=>bm aK e r h Q
 | .bc id::aK,e,r,h,Q=>bm aK (e.leave id) r h Q
noncomputable def df (o:Option V) (d:Option Nat) (D:Option ie) (os:List bI) (aK:List hW) (r:aT) (h:af) (Q:c'→aT→af→Prop):Prop:=
 uJ o fun v=>bm P (.os (iy D r h v) os::aK) .normal (r.set d v) h Q
noncomputable def jE (o:aU) (d:Option Nat) (D:Option ie) (os:List bI) (aK:List hW) (r:aT) (a6:af) (Q:c'→aT→af→Prop):Prop:=
 match o with
 | .val v h=>bm P (.os (iy D r a6 v) os::aK) .normal (r.set d v) h Q
 | _=>False
noncomputable def ga (v:V) (want:Bool) (d:Option Nat) (g:G) (rs:List Nat) (D:Option ie) (os:List bI) (aK:List hW) (r:aT) (h:af) (Q:c'→aT→af→Prop):Prop:=
 gate v want (bm P (.os D (⟨d,g,none,rs⟩::os)::aK) .normal r h Q) (bm P (.os (iy D r h (.tuple [])) os::aK) .normal (r.set d (.tuple [])) h Q)
noncomputable def u_ (v:V) (a b:bV) (aK:List hW) (r:aT) (h:af) (Q:c'→aT→af→Prop):Prop:=
 match v with
 | .bool t=>(t=true→bm P (.c a::aK) .normal r h Q)∧(t=false→bm P (.c b::aK) .normal r h Q)
 | _=>False
noncomputable def px (f:FuncId) (args:List V) (d:Option Nat) (D:Option ie) (os:List bI) (aK:List hW) (r:aT) (h:af) (Q:c'→aT→af→Prop):Prop:=
 b_ P f args h fun v ab=>bm P (.os (iy D r h v) os::aK) .normal (r.set d v) ab Q
noncomputable def CJ (xs:List V) (d:Option Nat) (D:Option ie) (os:List bI) (aK:List hW) (r:aT) (h:af) (Q:c'→aT→af→Prop):Prop:=
 Jd P xs h fun v ab=>bm P (.os (iy D r h v) os::aK) .normal (r.set d v) ab Q
noncomputable def Ep (g:FuncId) (xs:List V) (d:Option Nat) (D:Option ie) (os:List bI) (aK:List hW) (r:aT) (h:af) (Q:c'→aT→af→Prop):Prop:=
 if g=4294967296 then CJ P xs d D os aK r h Q else px P g xs d D os aK r h Q
noncomputable def u' (f:V) (args:List V) (d:Option Nat) (D:Option ie) (os:List bI) (aK:List hW) (r:aT) (h:af) (Q:c'→aT→af→Prop):Prop:=
 ∃g xs,f.target args=some (g,xs)∧Ep P g xs d D os aK r h Q
noncomputable def yC (b:bV) (aK:List hW) (r:aT) (h:af) (Q:c'→aT→af→Prop):Prop:=cU P (.loop b) r h fun e bq ab=>bm P aK e bq ab Q
end
section
variable {P:Program} {r:aT} {h:af} {Q:c'→aT→af→Prop} {aK:List hW} {os:List bI} {D:Option ie}
theorem ac5 (r:aT) (h:af) (v:V):iy none r h v=none:=(rfl)
theorem ac6 (all:List bI) (asks:List (Nat × List Nat)) (es:List fZ) (r:aT) (h:af) (v:V):iy (some ⟨all,asks,es⟩) r h v=some ⟨all,asks,es++[⟨r,h,v⟩]⟩:=(rfl)
theorem eA {c:bV} (H:bm P [.c c] .normal r h Q):cU P c r h Q:=H
theorem ZG {e:c'}:bm P [] e r h Q=Q e r h:=(rfl)
theorem YV {e:c'} {id:Nat}:bm P (.bc id::aK) e r h Q=bm P aK (e.leave id) r h Q:=(rfl)
theorem ZO {a b:bV}:bm P (.c (.seq a b)::aK) .normal r h Q=bm P (.c a::.c b::aK) .normal r h Q:=by
 simp only [bm]
 rw [T1]
 congr 1
 funext e bq ab
 cases e<;>rfl
theorem YW {id:Nat} {b:bV}:bm P (.c (.block id b)::aK) .normal r h Q=bm P (.c b::.bc id::aK) .normal r h Q:=(rfl)
theorem P5:∀(os:List bI) (r:aT) (h:af) (K:aT→af→Prop),kS P os r h (fun _ r h=>K r h)=ru P os r h K
 | [],_,_,_=>rfl
 | o::os,r,h,K=>by
   simp only [kS,ru]
   congr 1
   funext bq v ab
   exact P5 os bq ab K
theorem ZL {ops:List bI}:bm P (.c (.aJ ops)::aK) .normal r h Q=bm P (.os none ops::aK) .normal r h Q:=by
 simp only [bm,s3,true_and]
 rw [P5,T0]
theorem ZP:bm P (.c .skip::aK) .normal r h Q=bm P aK .normal r h Q:=(rfl)
theorem ZM:bm P (.c .ret::aK) .normal r h Q=bm P aK .ret r h Q:=(rfl)
theorem Zb {i:Nat}:bm P (.c (.exit i)::aK) .normal r h Q=bm P aK (.exit i) r h Q:=(rfl)
theorem Y5 {b:bV}:bm P (.c b::aK) .ret r h Q=bm P aK .ret r h Q:=(rfl)
theorem Y2 {b:bV} {i:Nat}:bm P (.c b::aK) (.exit i) r h Q=bm P aK (.exit i) r h Q:=(rfl)
theorem Y3 {c:aR} {a b:bV}:bm P (.c (.cond c a b)::aK) .normal r h Q=u_ P (c.aV r) a b aK r h Q:=by
 simp only [bm,cU]
 cases c.aV r<;>rfl
theorem HE {f:aR} {a_:List Nat} {al:Nat} {a b:bV} {g:FuncId} {cs:List V} (br:f.aV r=.func g cs) (aE:g≠da) (ah:∃fn,P.funcs[g]? =some fn∧fn.body.isSome=true)
 (H:∀l,uU P l al r a_ a b→l.st=0→l.c6=none→b_ P g (.func da [.ptr (ai (h.next+1)) 0]::cs) ((h.new .eD).new (.cg l)) fun _ ab=>
   ∃cE,ab.get (ai (h.next+1))=.cg cE∧cE.st≠1∧bm P aK (cE.c6.getD .normal) (r.set (some d') (.tuple (.ptr (ai h.next) 0::(r d').list))) (ab.set (ai (h.next+1)) .dead) Q):
 bm P (.c (.range f a_ al a b)::aK) .normal r h Q:=by
 simp only [bm,cU]
 exact ⟨g,cs,br,aE,ah,H⟩
theorem Zw {b:bV}:bm P (.c (.loop b)::aK) .normal r h Q=yC P b aK r h Q:=(rfl)
theorem Y_ {ops:List bI} {asks:List (Nat × List Nat)}:bm P (.c (.draw ops asks)::aK) .normal r h Q=bm P (.os (some ⟨ops,asks,[]⟩) ops::aK) .normal r h Q:=(rfl)
theorem ZJ:bm P (.os none []::aK) .normal r h Q=bm P aK .normal r h Q:=by
 simp only [bm,kS,s3,true_and]
theorem Y' {all:List bI} {asks:List (Nat × List Nat)} {es:List fZ}:bm P (.os (some ⟨all,asks,es⟩) []::aK) .normal r h Q=(oD P all es h asks∧bm P aK .normal r h Q):=by
 simp only [bm,kS,s3,List.append_nil]
theorem u4 (D:Option ie) (r:aT) (h:af) (v:V) (es:List fZ) (ar:af):s3 P (iy D r h v) es ar=s3 P D (⟨r,h,v⟩::es) ar:=by
 cases D with
 | none=>rfl
 | some d=>simp only [iy,s3,List.append_assoc,List.cons_append,List.nil_append]
theorem hr {d:Option Nat} {g:G} {rs:List Nat} (ag:g.n0=true):bm P (.os D (⟨d,g,none,rs⟩::os)::aK) .normal r h Q=df P (g.lu P (r.trim rs) h) d D os aK r h Q:=by
 simp only [bm,kS,df]
 rw [Ny ag]
 simp only [u4]
theorem hq {d:Option Nat} {g:G} {j:Nat} {want:Bool} {rs:List Nat} (ag:g.n0=true):bm P (.os D (⟨d,g,some (j,want),rs⟩::os)::aK) .normal r h Q=
 (fA (r.trim rs j)∧fa (took (r.trim rs j) want) ((g.lu P (r.trim rs) h).isSome=true)∧
   df P (some (V.opt (took (r.trim rs j) want) ((g.lu P (r.trim rs) h).getD .bad))) d D os aK r h Q):=by
 simp only [bm,kS,df,uJ]
 rw [Nw ag]
 simp only [u4]
def G.Mw:G→Bool
 | .call .. | .oG .. =>true
 | _=>false
theorem lW {d:Option Nat} {g:G} {rs:List Nat} (ag:g.n0=false) (aD:g.Mw=false):bm P (.os D (⟨d,g,none,rs⟩::os)::aK) .normal r h Q=jE P (g.run P kM (r.trim rs) h) d D os aK r h Q:=by
 simp only [bm,kS]
 rw [Nx]
 have e:∀K:V→af→Prop,g.wp P (r.trim rs) h K=∃v ab,g.run P kM (r.trim rs) h=.val v ab∧K v ab:=by
  intro K
  cases g<;>first | rfl | (simp [G.Mw] at aD;done)
 rw [e]
 unfold jE
 simp only [bm,u4]
 cases g.run P kM (r.trim rs) h with
 | fail=>exact propext ⟨fun ⟨v,ab,q,_⟩=>(by cases q),fun q=>q.elim⟩
 | cv v1 aa=>exact propext ⟨fun ⟨v,ab,q,_⟩=>(by cases q),fun q=>q.elim⟩
 | val v1 aa=>
   apply propext
   constructor
   · rintro ⟨v,ab,q,k⟩
     simp only [aU.val.injEq] at q
     obtain ⟨rfl,rfl⟩:=q
     exact k
   · intro k
     exact ⟨_,_,rfl,k⟩
theorem kK {d:Option Nat} {g:G} {j:Nat} {want:Bool} {rs:List Nat} (ag:g.n0=false):bm P (.os D (⟨d,g,some (j,want),rs⟩::os)::aK) .normal r h Q=ga P (r.trim rs j) want d g rs D os aK r h Q:=by
 simp only [ga,bm,kS,u4]
 rw [Nv]
 rfl
theorem MC {d:Option Nat} {f:FuncId} {args:List aR} {rs:List Nat}:bm P (.os D (⟨d,.call f args,none,rs⟩::os)::aK) .normal r h Q=px P f (aR.fI (r.trim rs) args) d D os aK r h Q:=by
 simp only [px,bm,kS,u4]
 rfl
theorem Y1 {d:Option Nat} {f:aR} {args:List aR} {rs:List Nat}:bm P (.os D (⟨d,.oG f args,none,rs⟩::os)::aK) .normal r h Q=u' P (f.aV (r.trim rs)) (aR.fI (r.trim rs) args) d D os aK r h Q:=by
 simp only [u',Ep,CJ,px,bm,kS,u4]
 rfl
theorem T6 {f:V} {g:FuncId} {xs args:List V} {d:Option Nat} (ar:f.target args=some (g,xs)):u' P f args d D os aK r h Q=Ep P g xs d D os aK r h Q:=by
 apply propext
 constructor
 · rintro ⟨tp,ag7,q,k⟩
   rw [ar] at q
   simp only [Option.some.injEq,Prod.mk.injEq] at q
   obtain ⟨rfl,rfl⟩:=q
   exact k
 · intro k
   exact ⟨_,_,ar,k⟩
theorem s8 {g:FuncId} {cs args:List V} {d:Option Nat}:u' P (.func g cs) args d D os aK r h Q=if g=4294967296 then CJ P (args++cs) d D os aK r h Q else px P g (args++cs) d D os aK r h Q:=T6 rfl
@[congr] theorem agV {o b1:Option V} {d:Option Nat} (e:o=b1):df P o d D os aK r h Q=df P b1 d D os aK r h Q:=by rw [e]
@[congr] theorem agU {o b1:aU} {d:Option Nat} (e:o=b1):jE P o d D os aK r h Q=jE P b1 d D os aK r h Q:=by rw [e]
@[congr] theorem afV {v e4:V} {a b:bV} (e:v=e4):u_ P v a b aK r h Q=u_ P e4 a b aK r h Q:=by rw [e]
@[congr] theorem af5 {v e4:V} {want:Bool} {d:Option Nat} {g:G} {rs:List Nat} (e:v=e4):ga P v want d g rs D os aK r h Q=ga P e4 want d g rs D os aK r h Q:=by rw [e]
@[congr] theorem afT {f vh:V} {args xn:List V} {d:Option Nat} (aP:f=vh) (bl:args=xn):u' P f args d D os aK r h Q=u' P vh xn d D os aK r h Q:=by rw [aP,bl]
@[congr] theorem afS {f:FuncId} {args xn:List V} {d:Option Nat} (bl:args=xn):px P f args d D os aK r h Q=px P f xn d D os aK r h Q:=by rw [bl]
@[congr] theorem ag3 {e c_:c'} {bq:aT} {ab:af} (cR:e=c_) (aP:r=bq) (bl:h=ab):bm P aK e r h Q=bm P aK c_ bq ab Q:=by rw [cR,aP,bl]
@[congr] theorem agB {b:bV} {bq:aT} {ab:af} (aP:r=bq) (bl:h=ab):yC P b aK r h Q=yC P b aK bq ab Q:=by rw [aP,bl]
theorem aes {v:V} {d:Option Nat}:df P (some v) d D os aK r h Q=bm P (.os (iy D r h v) os::aK) .normal (r.set d v) h Q:=(rfl)
theorem ad_ {v:V} {ab:af} {d:Option Nat}:jE P (.val v ab) d D os aK r h Q=bm P (.os (iy D r h v) os::aK) .normal (r.set d v) ab Q:=(rfl)
theorem JZ {t:Bool} {a b:bV}:u_ P (.bool t) a b aK r h Q=((t=true→bm P (.c a::aK) .normal r h Q)∧(t=false→bm P (.c b::aK) .normal r h Q)):=(rfl)
theorem KZ {b:Bool} {d:Option Nat} {g:G} {rs:List Nat}:ga P (.bool b) true d g rs D os aK r h Q=((b=true→bm P (.os D (⟨d,g,none,rs⟩::os)::aK) .normal r h Q)∧(b=false→bm P (.os (iy D r h (.tuple [])) os::aK) .normal (r.set d (.tuple [])) h Q)):=(rfl)
theorem KY {b:Bool} {d:Option Nat} {g:G} {rs:List Nat}:ga P (.bool b) false d g rs D os aK r h Q=((b=false→bm P (.os D (⟨d,g,none,rs⟩::os)::aK) .normal r h Q)∧(b=true→bm P (.os (iy D r h (.tuple [])) os::aK) .normal (r.set d (.tuple [])) h Q)):=(rfl)
theorem VS {ad:List V} {want:Bool} {d:Option Nat} {g:G} {rs:List Nat}:ga P (.tuple ad) want d g rs D os aK r h Q=bm P (.os (iy D r h (.tuple [])) os::aK) .normal (r.set d (.tuple [])) h Q:=(rfl)
theorem VM {c b:Bool} {want:Bool} {d:Option Nat} {f:FuncId} {args:List aR} {rs:List Nat} (v:V)
 (br:(c&&(b == want))=true→gp P f (aR.fI (r.trim rs) args) h v h)
 (H:bm P (.os (iy D r h (V.opt (c&&(b == want)) v)) os::aK) .normal (r.set d (V.opt (c&&(b == want)) v)) h Q):ga P (V.opt c (.bool b)) want d (.call f args) rs D os aK r h Q:=by
 unfold ga
 rw [MC]
 cases c with
 | false=>exact H
 | true=>
   simp only [V.opt,cond_true,Bool.true_and] at br H ⊢
   cases b<;>cases want<;>simp only [gate]
   · exact ⟨fun _=>⟨v,h,br rfl,H⟩,fun e=>by cases e⟩
   · exact ⟨fun e=>(by cases e),fun _=>H⟩
   · exact ⟨fun e=>(by cases e),fun _=>H⟩
   · exact ⟨fun _=>⟨v,h,br rfl,H⟩,fun e=>by cases e⟩
def sl (v:V) (o:Option af):aU:=gI v o
theorem acy (v:V) (ab:af):sl v (some ab)=.val v ab:=(rfl)
def JC (b:Bool) (o:aU):aU:=bif b then o else .fail
theorem R0 (o:aU):JC true o=o:=(rfl)
noncomputable def zY (n:Nat) (h:af) (o:Option (List V)):aU:=
 match o with
 | some cs=>sl (.slice (ai h.next) 0 n n) (gg h cs)
 | none=>.fail
theorem R1 (n:Nat) (cs:List V):zY n h (some cs)=sl (.slice (ai h.next) 0 n n) (gg h cs):=(rfl)
theorem adJ {n size:Nat} {z:List V} {a_:List (Nat × Nat × aR)}:(G.kA n size z a_).run P kM r h=zY n h (iw (i_ z n) (kb r a_)):=by
 simp only [G.run]
 cases iw (i_ z n) (kb r a_) with
 | none=>rfl
 | some cs=>
   simp only [zY,sl,gI]
   cases gg h cs<;>rfl
theorem Vq (cells:List V):iw cells []=some cells:=(rfl)
theorem Vo {cells:List V} {off size:Nat} {v:V} {rest:List (Nat × Nat × V)} (aa:v.gb=true) (ae:v.cells.length=size) (aH:off+size≤cells.length):
 iw cells ((off,size,v)::rest)=iw (oq cells off v.cells) rest:=by
 simp only [iw]
 rw [aa,show Nat.beq v.cells.length size=true from by rw [Nat.beq_eq];exact ae,show Nat.ble (off+v.cells.length) cells.length=true from by rw [Nat.ble_eq,ae];exact aH]
 simp only [Bool.and_true,cond_true]
 congr 1
 have jR:∀(ws cs:List V) (o:Nat),o+ws.length≤cs.length→qE cs o ws=l3 cs o ws:=by
  intro ws
  induction ws with
  | nil=>intro cs o _;simp [qE,l3]
  | cons w ws bj=>
    intro cs o aQ
    simp only [List.length_cons] at aQ
    simp only [qE]
    rw [bj (cs.set o w) (o+1) (by simp;omega),O9 cs o w ws (by omega)]
 rw [jR _ _ _ (by rw [ae];exact aH),Cv _ _ _ (by rw [ae];exact aH)]
def z1 (o:Option (List V)):Option V:=
 match o with
 | some cs=>some (.agg cs)
 | none=>none
theorem R3 (cs:List V):z1 (some cs)=some (.agg cs):=(rfl)
theorem Ve:kb r []=[]:=(rfl)
theorem Vd {o s:Nat} {x:aR} {a_:List (Nat × Nat × aR)}:kb r ((o,s,x)::a_)=(o,s,x.aV r)::kb r a_:=(rfl)
noncomputable def qs (P:Program) (o:bI) (e:fZ) (H:af):Prop:=o.wp P e.r H fun _ e4 _=>e4=e.v
theorem RE {ops:List bI} {es:List fZ} {ar:af}:oD P ops es ar []=True:=(rfl)
theorem RD {ops:List bI} {es:List fZ} {ar:af} {p:Nat} {fp:List Nat} {rest:List (Nat × List Nat)}:oD P ops es ar ((p,fp)::rest)=(qt P ops[p]? es[p]? es ar fp∧oD P ops es ar rest):=(rfl)
theorem RA {o:Option bI} {e:Option fZ} {es:List fZ} {ar:af}:qt P o e es ar []=True:=(rfl)
theorem Rx {o:bI} {e:fZ} {es:List fZ} {ar:af} {s:Nat} {fp:List Nat}:qt P (some o) (some e) es ar (s::fp)=(qs P o e (vD es ar s)∧qt P (some o) (some e) es ar fp):=(rfl)
def Fo (o:Option fZ) (ar:af):af:=
 match o with
 | some e=>e.h
 | none=>ar
theorem WY (es:List fZ) (ar:af) (s:Nat):vD es ar s=Fo es[s]? ar:=(rfl)
theorem W0 (e:fZ) (ar:af):Fo (some e) ar=e.h:=(rfl)
theorem WZ (ar:af):Fo none ar=ar:=(rfl)
theorem Jq {d:Option Nat} {g:G} {rs:List Nat} {e:fZ} {H:af} (ag:g.n0=true):qs P ⟨d,g,none,rs⟩ e H=(g.lu P (e.r.trim rs) H=some e.v):=by
 unfold qs
 rw [Ny ag]
 apply propext
 cases g.lu P (e.r.trim rs) H with
 | none=>exact ⟨fun q=>q.elim,fun q=>(by cases q)⟩
 | some v=>exact ⟨fun q=>by rw [show v=e.v from q],fun q=>by cases q;rfl⟩
theorem Jp {d:Option Nat} {g:G} {j:Nat} {want:Bool} {rs:List Nat} {e:fZ} {H:af} (ag:g.n0=true):qs P ⟨d,g,some (j,want),rs⟩ e H=
 (fA (e.r.trim rs j)∧fa (took (e.r.trim rs j) want) ((g.lu P (e.r.trim rs) H).isSome=true)∧V.opt (took (e.r.trim rs j) want) ((g.lu P (e.r.trim rs) H).getD .bad)=e.v):=by
 unfold qs
 rw [Nw ag]
theorem Ry {d:Option Nat} {x:aR} {rs:List Nat} {e:fZ} {H:af}:qs P ⟨d,.jy x,none,rs⟩ e H=(mF H (x.aV (e.r.trim rs))=some e.v):=Jq rfl
theorem Rz {d:Option Nat} {n:Nat} {x:aR} {rs:List Nat} {e:fZ} {H:af}:qs P ⟨d,.ki n x,none,rs⟩ e H=(mE n H (x.aV (e.r.trim rs))=some e.v):=Jq rfl
theorem RB {d:Option Nat} {x:aR} {j:Nat} {want:Bool} {rs:List Nat} {e:fZ} {H:af}:qs P ⟨d,.jy x,some (j,want),rs⟩ e H=
 (fA (e.r.trim rs j)∧fa (took (e.r.trim rs j) want) ((mF H (x.aV (e.r.trim rs))).isSome=true)∧V.opt (took (e.r.trim rs j) want) ((mF H (x.aV (e.r.trim rs))).getD .bad)=e.v):=Jp rfl
theorem RC {d:Option Nat} {n:Nat} {x:aR} {j:Nat} {want:Bool} {rs:List Nat} {e:fZ} {H:af}:qs P ⟨d,.ki n x,some (j,want),rs⟩ e H=
 (fA (e.r.trim rs j)∧fa (took (e.r.trim rs j) want) ((mE n H (x.aV (e.r.trim rs))).isSome=true)∧V.opt (took (e.r.trim rs j) want) ((mE n H (x.aV (e.r.trim rs))).getD .bad)=e.v):=Jp rfl
end
end Go.Proofs.YthemdhlheglhoaaGreatDoor.aY
namespace Go.Proofs.YthemdhlheglhoaaGreatDoor.aY
variable [Lay]
open Go Go.RowKit
noncomputable def Cl (x:V) (h:af):aU:=
 match x with
 | .str s=>.val (.ptr (ai h.next) 0) (h.new (.iter s 0))
 | _=>.fail
theorem adE (s:List UInt8) (h:af):Cl (.str s) h=.val (.ptr (ai h.next) 0) (h.new (.iter s 0)):=(rfl)
section
variable {P:Program} {r:aT} {h:af} {Q:c'→aT→af→Prop} {aK:List hW} {os:List bI} {D:Option ie} {d:Option Nat} {rs:List Nat}
theorem ZC {x:aR}:bm P (.os D (⟨d,(.gH x),none,rs⟩::os)::aK) .normal r h Q=df P (some (x.aV (r.trim rs))) d D os aK r h Q:=hr rfl
theorem aar {x:aR} {j:Nat} {want:Bool}:bm P (.os D (⟨d,(.gH x),some (j,want),rs⟩::os)::aK) .normal r h Q=(fA (r.trim rs j)∧fa (took (r.trim rs j) want) ((some (x.aV (r.trim rs))).isSome=true)∧df P (some (V.opt (took (r.trim rs j) want) ((some (x.aV (r.trim rs))).getD .bad))) d D os aK r h Q):=hq rfl
theorem ZK {c a b:aR}:bm P (.os D (⟨d,(.pick c a b),none,rs⟩::os)::aK) .normal r h Q=df P (yY (c.aV (r.trim rs)) (a.aV (r.trim rs)) (b.aV (r.trim rs))) d D os aK r h Q:=hr rfl
theorem aaw {c a b:aR} {j:Nat} {want:Bool}:bm P (.os D (⟨d,(.pick c a b),some (j,want),rs⟩::os)::aK) .normal r h Q=(fA (r.trim rs j)∧fa (took (r.trim rs j) want) ((yY (c.aV (r.trim rs)) (a.aV (r.trim rs)) (b.aV (r.trim rs))).isSome=true)∧df P (some (V.opt (took (r.trim rs j) want) ((yY (c.aV (r.trim rs)) (a.aV (r.trim rs)) (b.aV (r.trim rs))).getD .bad))) d D os aK r h Q):=hq rfl
theorem Y0 {z:List V} {a_:List (Nat × Nat × aR)}:bm P (.os D (⟨d,(.build z a_),none,rs⟩::os)::aK) .normal r h Q=df P (z1 (iw z (kb (r.trim rs) a_))) d D os aK r h Q:=hr rfl
theorem Z1 {z:List V} {a_:List (Nat × Nat × aR)} {j:Nat} {want:Bool}:bm P (.os D (⟨d,(.build z a_),some (j,want),rs⟩::os)::aK) .normal r h Q=(fA (r.trim rs j)∧fa (took (r.trim rs j) want) ((z1 (iw z (kb (r.trim rs) a_))).isSome=true)∧df P (some (V.opt (took (r.trim rs j) want) ((z1 (iw z (kb (r.trim rs) a_))).getD .bad))) d D os aK r h Q):=hq rfl
theorem Zo {x:aR}:bm P (.os D (⟨d,(.jy x),none,rs⟩::os)::aK) .normal r h Q=df P (mF h (x.aV (r.trim rs))) d D os aK r h Q:=hr rfl
theorem aah {x:aR} {j:Nat} {want:Bool}:bm P (.os D (⟨d,(.jy x),some (j,want),rs⟩::os)::aK) .normal r h Q=(fA (r.trim rs j)∧fa (took (r.trim rs j) want) ((mF h (x.aV (r.trim rs))).isSome=true)∧df P (some (V.opt (took (r.trim rs j) want) ((mF h (x.aV (r.trim rs))).getD .bad))) d D os aK r h Q):=hq rfl
theorem Zp {n:Nat} {x:aR}:bm P (.os D (⟨d,(.ki n x),none,rs⟩::os)::aK) .normal r h Q=df P (mE n h (x.aV (r.trim rs))) d D os aK r h Q:=hr rfl
theorem aai {n:Nat} {x:aR} {j:Nat} {want:Bool}:bm P (.os D (⟨d,(.ki n x),some (j,want),rs⟩::os)::aK) .normal r h Q=(fA (r.trim rs j)∧fa (took (r.trim rs j) want) ((mE n h (x.aV (r.trim rs))).isSome=true)∧df P (some (V.opt (took (r.trim rs j) want) ((mE n h (x.aV (r.trim rs))).getD .bad))) d D os aK r h Q):=hq rfl
theorem ZH {x:aR}:bm P (.os D (⟨d,(.sj x),none,rs⟩::os)::aK) .normal r h Q=df P (si (x.aV (r.trim rs))) d D os aK r h Q:=hr rfl
theorem aau {x:aR} {j:Nat} {want:Bool}:bm P (.os D (⟨d,(.sj x),some (j,want),rs⟩::os)::aK) .normal r h Q=(fA (r.trim rs j)∧fa (took (r.trim rs j) want) ((si (x.aV (r.trim rs))).isSome=true)∧df P (some (V.opt (took (r.trim rs j) want) ((si (x.aV (r.trim rs))).getD .bad))) d D os aK r h Q):=hq rfl
theorem YU {k:eW} {x y:aR}:bm P (.os D (⟨d,(.bin k x y),none,rs⟩::os)::aK) .normal r h Q=df P (k.run P (x.aV (r.trim rs)) (y.aV (r.trim rs))) d D os aK r h Q:=hr rfl
theorem ZY {k:eW} {x y:aR} {j:Nat} {want:Bool}:bm P (.os D (⟨d,(.bin k x y),some (j,want),rs⟩::os)::aK) .normal r h Q=(fA (r.trim rs j)∧fa (took (r.trim rs j) want) ((k.run P (x.aV (r.trim rs)) (y.aV (r.trim rs))).isSome=true)∧df P (some (V.opt (took (r.trim rs j) want) ((k.run P (x.aV (r.trim rs)) (y.aV (r.trim rs))).getD .bad))) d D os aK r h Q):=hq rfl
theorem ZU {o:UnOp} {x:aR}:bm P (.os D (⟨d,(.un o x),none,rs⟩::os)::aK) .normal r h Q=df P (qd o (x.aV (r.trim rs))) d D os aK r h Q:=hr rfl
theorem aaB {o:UnOp} {x:aR} {j:Nat} {want:Bool}:bm P (.os D (⟨d,(.un o x),some (j,want),rs⟩::os)::aK) .normal r h Q=(fA (r.trim rs j)∧fa (took (r.trim rs j) want) ((qd o (x.aV (r.trim rs))).isSome=true)∧df P (some (V.opt (took (r.trim rs j) want) ((qd o (x.aV (r.trim rs))).getD .bad))) d D os aK r h Q):=hq rfl
theorem Zg {f:FuncId} {cs:List aR}:bm P (.os D (⟨d,(.fn f cs),none,rs⟩::os)::aK) .normal r h Q=df P (some (V.func f (aR.fI (r.trim rs) cs))) d D os aK r h Q:=hr rfl
theorem aab {f:FuncId} {cs:List aR} {j:Nat} {want:Bool}:bm P (.os D (⟨d,(.fn f cs),some (j,want),rs⟩::os)::aK) .normal r h Q=(fA (r.trim rs j)∧fa (took (r.trim rs j) want) ((some (V.func f (aR.fI (r.trim rs) cs))).isSome=true)∧df P (some (V.opt (took (r.trim rs j) want) ((some (V.func f (aR.fI (r.trim rs) cs))).getD .bad))) d D os aK r h Q):=hq rfl
theorem Zl {t:TypeId} {x:aR}:bm P (.os D (⟨d,(.tW t x),none,rs⟩::os)::aK) .normal r h Q=df P (some (V.iface t (x.aV (r.trim rs)))) d D os aK r h Q:=hr rfl
theorem aae {t:TypeId} {x:aR} {j:Nat} {want:Bool}:bm P (.os D (⟨d,(.tW t x),some (j,want),rs⟩::os)::aK) .normal r h Q=(fA (r.trim rs j)∧fa (took (r.trim rs j) want) ((some (V.iface t (x.aV (r.trim rs)))).isSome=true)∧df P (some (V.opt (took (r.trim rs j) want) ((some (V.iface t (x.aV (r.trim rs)))).getD .bad))) d D os aK r h Q):=hq rfl
theorem ZR {x:aR} {bG aF m3:Option aR}:bm P (.os D (⟨d,(.qb x bG aF m3),none,rs⟩::os)::aK) .normal r h Q=df P (l2 (x.aV (r.trim rs)) (aR.opt (r.trim rs) bG) (aR.opt (r.trim rs) aF) (aR.opt (r.trim rs) m3)) d D os aK r h Q:=hr rfl
theorem aaz {x:aR} {bG aF m3:Option aR} {j:Nat} {want:Bool}:bm P (.os D (⟨d,(.qb x bG aF m3),some (j,want),rs⟩::os)::aK) .normal r h Q=(fA (r.trim rs j)∧fa (took (r.trim rs j) want) ((l2 (x.aV (r.trim rs)) (aR.opt (r.trim rs) bG) (aR.opt (r.trim rs) aF) (aR.opt (r.trim rs) m3)).isSome=true)∧df P (some (V.opt (took (r.trim rs j) want) ((l2 (x.aV (r.trim rs)) (aR.opt (r.trim rs) bG) (aR.opt (r.trim rs) aF) (aR.opt (r.trim rs) m3)).getD .bad))) d D os aK r h Q):=hq rfl
theorem ZQ {n:Nat} {x:aR} {bG aF m3:Option aR}:bm P (.os D (⟨d,(.hf n x bG aF m3),none,rs⟩::os)::aK) .normal r h Q=df P (ze n (x.aV (r.trim rs)) (aR.opt (r.trim rs) bG) (aR.opt (r.trim rs) aF) (aR.opt (r.trim rs) m3)) d D os aK r h Q:=hr rfl
theorem aay {n:Nat} {x:aR} {bG aF m3:Option aR} {j:Nat} {want:Bool}:bm P (.os D (⟨d,(.hf n x bG aF m3),some (j,want),rs⟩::os)::aK) .normal r h Q=(fA (r.trim rs j)∧fa (took (r.trim rs j) want) ((ze n (x.aV (r.trim rs)) (aR.opt (r.trim rs) bG) (aR.opt (r.trim rs) aF) (aR.opt (r.trim rs) m3)).isSome=true)∧df P (some (V.opt (took (r.trim rs j) want) ((ze n (x.aV (r.trim rs)) (aR.opt (r.trim rs) bG) (aR.opt (r.trim rs) aF) (aR.opt (r.trim rs) m3)).getD .bad))) d D os aK r h Q):=hq rfl
theorem Zd {o:Nat} {x:aR}:bm P (.os D (⟨d,(.jR o x),none,rs⟩::os)::aK) .normal r h Q=df P (Au o (x.aV (r.trim rs))) d D os aK r h Q:=hr rfl
theorem Z' {o:Nat} {x:aR} {j:Nat} {want:Bool}:bm P (.os D (⟨d,(.jR o x),some (j,want),rs⟩::os)::aK) .normal r h Q=(fA (r.trim rs j)∧fa (took (r.trim rs j) want) ((Au o (x.aV (r.trim rs))).isSome=true)∧df P (some (V.opt (took (r.trim rs j) want) ((Au o (x.aV (r.trim rs))).getD .bad))) d D os aK r h Q):=hq rfl
theorem Ze {o:Nat} {x:aR}:bm P (.os D (⟨d,(.tm o x),none,rs⟩::os)::aK) .normal r h Q=df P ((x.aV (r.trim rs)).q7 none fun cs=>cs[o]?) d D os aK r h Q:=hr rfl
theorem Z_ {o:Nat} {x:aR} {j:Nat} {want:Bool}:bm P (.os D (⟨d,(.tm o x),some (j,want),rs⟩::os)::aK) .normal r h Q=(fA (r.trim rs j)∧fa (took (r.trim rs j) want) (((x.aV (r.trim rs)).q7 none fun cs=>cs[o]?).isSome=true)∧df P (some (V.opt (took (r.trim rs j) want) (((x.aV (r.trim rs)).q7 none fun cs=>cs[o]?).getD .bad))) d D os aK r h Q):=hq rfl
theorem Zf {o n:Nat} {x:aR}:bm P (.os D (⟨d,(.tn o n x),none,rs⟩::os)::aK) .normal r h Q=df P ((x.aV (r.trim rs)).q7 none fun cs=>some (V.agg ((cs.drop o).take n))) d D os aK r h Q:=hr rfl
theorem aaa {o n:Nat} {x:aR} {j:Nat} {want:Bool}:bm P (.os D (⟨d,(.tn o n x),some (j,want),rs⟩::os)::aK) .normal r h Q=(fA (r.trim rs j)∧fa (took (r.trim rs j) want) (((x.aV (r.trim rs)).q7 none fun cs=>some (V.agg ((cs.drop o).take n))).isSome=true)∧df P (some (V.opt (took (r.trim rs j) want) (((x.aV (r.trim rs)).q7 none fun cs=>some (V.agg ((cs.drop o).take n))).getD .bad))) d D os aK r h Q):=hq rfl
theorem Zj {n:Nat} {x i:aR}:bm P (.os D (⟨d,(.fz n x i),none,rs⟩::os)::aK) .normal r h Q=df P (lU n (x.aV (r.trim rs)) (i.aV (r.trim rs))) d D os aK r h Q:=hr rfl
theorem aac {n:Nat} {x i:aR} {j:Nat} {want:Bool}:bm P (.os D (⟨d,(.fz n x i),some (j,want),rs⟩::os)::aK) .normal r h Q=(fA (r.trim rs j)∧fa (took (r.trim rs j) want) ((lU n (x.aV (r.trim rs)) (i.aV (r.trim rs))).isSome=true)∧df P (some (V.opt (took (r.trim rs j) want) ((lU n (x.aV (r.trim rs)) (i.aV (r.trim rs))).getD .bad))) d D os aK r h Q):=hq rfl
theorem Zk {m n:Nat} {x i:aR}:bm P (.os D (⟨d,(.wa m n x i),none,rs⟩::os)::aK) .normal r h Q=df P ((tZ m n).run (x.aV (r.trim rs)) (i.aV (r.trim rs))) d D os aK r h Q:=hr rfl
theorem aad {m n:Nat} {x i:aR} {j:Nat} {want:Bool}:bm P (.os D (⟨d,(.wa m n x i),some (j,want),rs⟩::os)::aK) .normal r h Q=(fA (r.trim rs j)∧fa (took (r.trim rs j) want) (((tZ m n).run (x.aV (r.trim rs)) (i.aV (r.trim rs))).isSome=true)∧df P (some (V.opt (took (r.trim rs j) want) (((tZ m n).run (x.aV (r.trim rs)) (i.aV (r.trim rs))).getD .bad))) d D os aK r h Q):=hq rfl
theorem Zn {x i:aR}:bm P (.os D (⟨d,(.lg x i),none,rs⟩::os)::aK) .normal r h Q=df P (qZ.run (x.aV (r.trim rs)) (i.aV (r.trim rs))) d D os aK r h Q:=hr rfl
theorem aag {x i:aR} {j:Nat} {want:Bool}:bm P (.os D (⟨d,(.lg x i),some (j,want),rs⟩::os)::aK) .normal r h Q=(fA (r.trim rs j)∧fa (took (r.trim rs j) want) ((qZ.run (x.aV (r.trim rs)) (i.aV (r.trim rs))).isSome=true)∧df P (some (V.opt (took (r.trim rs j) want) ((qZ.run (x.aV (r.trim rs)) (i.aV (r.trim rs))).getD .bad))) d D os aK r h Q):=hq rfl
theorem Zm {t:TypeId} {x i:aR}:bm P (.os D (⟨d,(.jx t x i),none,rs⟩::os)::aK) .normal r h Q=df P ((qY P t).run (x.aV (r.trim rs)) (i.aV (r.trim rs))) d D os aK r h Q:=hr rfl
theorem aaf {t:TypeId} {x i:aR} {j:Nat} {want:Bool}:bm P (.os D (⟨d,(.jx t x i),some (j,want),rs⟩::os)::aK) .normal r h Q=(fA (r.trim rs j)∧fa (took (r.trim rs j) want) (((qY P t).run (x.aV (r.trim rs)) (i.aV (r.trim rs))).isSome=true)∧df P (some (V.opt (took (r.trim rs j) want) (((qY P t).run (x.aV (r.trim rs)) (i.aV (r.trim rs))).getD .bad))) d D os aK r h Q):=hq rfl
theorem Zv {k:jO} {z:V} {ok:Bool} {x i:aR}:bm P (.os D (⟨d,(.look k z ok x i),none,rs⟩::os)::aK) .normal r h Q=df P (oa k.eq z ok h (x.aV (r.trim rs)) (i.aV (r.trim rs))) d D os aK r h Q:=hr rfl
theorem aan {k:jO} {z:V} {ok:Bool} {x i:aR} {j:Nat} {want:Bool}:bm P (.os D (⟨d,(.look k z ok x i),some (j,want),rs⟩::os)::aK) .normal r h Q=(fA (r.trim rs j)∧fa (took (r.trim rs j) want) ((oa k.eq z ok h (x.aV (r.trim rs)) (i.aV (r.trim rs))).isSome=true)∧df P (some (V.opt (took (r.trim rs j) want) ((oa k.eq z ok h (x.aV (r.trim rs)) (i.aV (r.trim rs))).getD .bad))) d D os aK r h Q):=hq rfl
theorem Zc {x:aR} {i:Nat}:bm P (.os D (⟨d,(.ext x i),none,rs⟩::os)::aK) .normal r h Q=df P ((x.aV (r.trim rs)).yO none fun ad=>ad[i]?) d D os aK r h Q:=hr rfl
theorem Z9 {x:aR} {i:Nat} {j:Nat} {want:Bool}:bm P (.os D (⟨d,(.ext x i),some (j,want),rs⟩::os)::aK) .normal r h Q=(fA (r.trim rs j)∧fa (took (r.trim rs j) want) (((x.aV (r.trim rs)).yO none fun ad=>ad[i]?).isSome=true)∧df P (some (V.opt (took (r.trim rs j) want) (((x.aV (r.trim rs)).yO none fun ad=>ad[i]?).getD .bad))) d D os aK r h Q):=hq rfl
theorem ZA {args:List aR}:bm P (.os D (⟨d,(.wq args),none,rs⟩::os)::aK) .normal r h Q=df P (km (fun b a=>!Int.leB a b) (aR.fI (r.trim rs) args)) d D os aK r h Q:=hr rfl
theorem aaq {args:List aR} {j:Nat} {want:Bool}:bm P (.os D (⟨d,(.wq args),some (j,want),rs⟩::os)::aK) .normal r h Q=(fA (r.trim rs j)∧fa (took (r.trim rs j) want) ((km (fun b a=>!Int.leB a b) (aR.fI (r.trim rs) args)).isSome=true)∧df P (some (V.opt (took (r.trim rs j) want) ((km (fun b a=>!Int.leB a b) (aR.fI (r.trim rs) args)).getD .bad))) d D os aK r h Q):=hq rfl
theorem ZD {args:List aR}:bm P (.os D (⟨d,(.dO args),none,rs⟩::os)::aK) .normal r h Q=df P (km (fun b a=>!Int.leB b a) (aR.fI (r.trim rs) args)) d D os aK r h Q:=hr rfl
theorem aas {args:List aR} {j:Nat} {want:Bool}:bm P (.os D (⟨d,(.dO args),some (j,want),rs⟩::os)::aK) .normal r h Q=(fA (r.trim rs j)∧fa (took (r.trim rs j) want) ((km (fun b a=>!Int.leB b a) (aR.fI (r.trim rs) args)).isSome=true)∧df P (some (V.opt (took (r.trim rs j) want) ((km (fun b a=>!Int.leB b a) (aR.fI (r.trim rs) args)).getD .bad))) d D os aK r h Q):=hq rfl
theorem Y7 {k:IntKind} {x:aR}:bm P (.os D (⟨d,(.jQ (.int k) x),none,rs⟩::os)::aK) .normal r h Q=df P (Af k (x.aV (r.trim rs))) d D os aK r h Q:=hr rfl
theorem Z6 {k:IntKind} {x:aR} {j:Nat} {want:Bool}:bm P (.os D (⟨d,(.jQ (.int k) x),some (j,want),rs⟩::os)::aK) .normal r h Q=(fA (r.trim rs j)∧fa (took (r.trim rs j) want) ((Af k (x.aV (r.trim rs))).isSome=true)∧df P (some (V.opt (took (r.trim rs j) want) ((Af k (x.aV (r.trim rs))).getD .bad))) d D os aK r h Q):=hq rfl
theorem Zs {x:aR}:bm P (.os D (⟨d,(.len .slice x),none,rs⟩::os)::aK) .normal r h Q=df P (mD (x.aV (r.trim rs))) d D os aK r h Q:=hr rfl
theorem aal {x:aR} {j:Nat} {want:Bool}:bm P (.os D (⟨d,(.len .slice x),some (j,want),rs⟩::os)::aK) .normal r h Q=(fA (r.trim rs j)∧fa (took (r.trim rs j) want) ((mD (x.aV (r.trim rs))).isSome=true)∧df P (some (V.opt (took (r.trim rs j) want) ((mD (x.aV (r.trim rs))).getD .bad))) d D os aK r h Q):=hq rfl
theorem Zt {x:aR}:bm P (.os D (⟨d,(.len .str x),none,rs⟩::os)::aK) .normal r h Q=df P (By (x.aV (r.trim rs))) d D os aK r h Q:=hr rfl
theorem aam {x:aR} {j:Nat} {want:Bool}:bm P (.os D (⟨d,(.len .str x),some (j,want),rs⟩::os)::aK) .normal r h Q=(fA (r.trim rs j)∧fa (took (r.trim rs j) want) ((By (x.aV (r.trim rs))).isSome=true)∧df P (some (V.opt (took (r.trim rs j) want) ((By (x.aV (r.trim rs))).getD .bad))) d D os aK r h Q):=hq rfl
theorem Zq {n:Nat} {x:aR}:bm P (.os D (⟨d,(.len (.arr n) x),none,rs⟩::os)::aK) .normal r h Q=df P (some (V.int .i64 n)) d D os aK r h Q:=hr rfl
theorem aaj {n:Nat} {x:aR} {j:Nat} {want:Bool}:bm P (.os D (⟨d,(.len (.arr n) x),some (j,want),rs⟩::os)::aK) .normal r h Q=(fA (r.trim rs j)∧fa (took (r.trim rs j) want) ((some (V.int .i64 n)).isSome=true)∧df P (some (V.opt (took (r.trim rs j) want) ((some (V.int .i64 n)).getD .bad))) d D os aK r h Q):=hq rfl
theorem ZF {z:List V}:bm P (.os D (⟨d,(.new z),none,rs⟩::os)::aK) .normal r h Q=jE P (sl (.ptr (ai h.next) 0) (gg h z)) d D os aK r h Q:=lW rfl rfl
theorem aat {z:List V} {j:Nat} {want:Bool}:bm P (.os D (⟨d,(.new z),some (j,want),rs⟩::os)::aK) .normal r h Q=ga P (r.trim rs j) want d (.new z) rs D os aK r h Q:=kK rfl
theorem YY {x:aR}:bm P (.os D (⟨d,(.box x),none,rs⟩::os)::aK) .normal r h Q=jE P (JC (x.aV (r.trim rs)).gb (sl (.ptr (ai h.next) 0) (gg h (x.aV (r.trim rs)).cells))) d D os aK r h Q:=lW rfl rfl
theorem ZZ {x:aR} {j:Nat} {want:Bool}:bm P (.os D (⟨d,(.box x),some (j,want),rs⟩::os)::aK) .normal r h Q=ga P (r.trim rs j) want d (.box x) rs D os aK r h Q:=kK rfl
theorem YZ {n m:Nat} {z:List V} {a_:List (Nat × Nat × aR)}:bm P (.os D (⟨d,(.kA n m z a_),none,rs⟩::os)::aK) .normal r h Q=jE P (zY n h (iw (i_ z n) (kb (r.trim rs) a_))) d D os aK r h Q:=by rw [lW rfl rfl,adJ]
theorem Z0 {n m:Nat} {z:List V} {a_:List (Nat × Nat × aR)} {j:Nat} {want:Bool}:bm P (.os D (⟨d,(.kA n m z a_),some (j,want),rs⟩::os)::aK) .normal r h Q=ga P (r.trim rs j) want d (.kA n m z a_) rs D os aK r h Q:=kK rfl
theorem ZS {n:Nat} {x y:aR}:bm P (.os D (⟨d,(.st n x y),none,rs⟩::os)::aK) .normal r h Q=jE P (sl .bad (uC n h (x.aV (r.trim rs)) (y.aV (r.trim rs)))) d D os aK r h Q:=lW rfl rfl
theorem aaA {n:Nat} {x y:aR} {j:Nat} {want:Bool}:bm P (.os D (⟨d,(.st n x y),some (j,want),rs⟩::os)::aK) .normal r h Q=ga P (r.trim rs j) want d (.st n x y) rs D os aK r h Q:=kK rfl
theorem Zz {n:Nat} {z:List V} {l c:aR}:bm P (.os D (⟨d,(.yE n z l c),none,rs⟩::os)::aK) .normal r h Q=jE P (BH n z (l.aV (r.trim rs)) (c.aV (r.trim rs)) h) d D os aK r h Q:=lW rfl rfl
theorem aap {n:Nat} {z:List V} {l c:aR} {j:Nat} {want:Bool}:bm P (.os D (⟨d,(.yE n z l c),some (j,want),rs⟩::os)::aK) .normal r h Q=ga P (r.trim rs j) want d (.yE n z l c) rs D os aK r h Q:=kK rfl
theorem ZV {k:jO} {m i x:aR}:bm P (.os D (⟨d,(.lz k m i x),none,rs⟩::os)::aK) .normal r h Q=jE P (sl .bad (nz k.eq h (m.aV (r.trim rs)) (i.aV (r.trim rs)) (x.aV (r.trim rs)))) d D os aK r h Q:=lW rfl rfl
theorem aaC {k:jO} {m i x:aR} {j:Nat} {want:Bool}:bm P (.os D (⟨d,(.lz k m i x),some (j,want),rs⟩::os)::aK) .normal r h Q=ga P (r.trim rs j) want d (.lz k m i x) rs D os aK r h Q:=kK rfl
theorem Zy {x:Option aR}:bm P (.os D (⟨d,(.q5 x),none,rs⟩::os)::aK) .normal r h Q=jE P (o4 (aR.opt (r.trim rs) x) h) d D os aK r h Q:=lW rfl rfl
theorem aao {x:Option aR} {j:Nat} {want:Bool}:bm P (.os D (⟨d,(.q5 x),some (j,want),rs⟩::os)::aK) .normal r h Q=ga P (r.trim rs j) want d (.q5 x) rs D os aK r h Q:=kK rfl
theorem ZN {x:aR}:bm P (.os D (⟨d,(.wK x),none,rs⟩::os)::aK) .normal r h Q=jE P (Cl (x.aV (r.trim rs)) h) d D os aK r h Q:=(lW rfl rfl).trans (by first | rfl | (unfold Cl;simp only [G.run];cases x.aV (r.trim rs)<;>rfl) | (unfold Cl;cases x.aV (r.trim rs)<;>rfl))
theorem aax {x:aR} {j:Nat} {want:Bool}:bm P (.os D (⟨d,(.wK x),some (j,want),rs⟩::os)::aK) .normal r h Q=ga P (r.trim rs j) want d (.wK x) rs D os aK r h Q:=kK rfl
theorem ZI {x:aR}:bm P (.os D (⟨d,(.wz x),none,rs⟩::os)::aK) .normal r h Q=jE P (uk (x.aV (r.trim rs)) h) d D os aK r h Q:=lW rfl rfl
theorem aav {x:aR} {j:Nat} {want:Bool}:bm P (.os D (⟨d,(.wz x),some (j,want),rs⟩::os)::aK) .normal r h Q=ga P (r.trim rs j) want d (.wz x) rs D os aK r h Q:=kK rfl
theorem YS {n:Nat} {s x:aR}:bm P (.os D (⟨d,(.app n s x),none,rs⟩::os)::aK) .normal r h Q=jE P (mY n (s.aV (r.trim rs)) (x.aV (r.trim rs)) h) d D os aK r h Q:=lW rfl rfl
theorem ZX {n:Nat} {s x:aR} {j:Nat} {want:Bool}:bm P (.os D (⟨d,(.app n s x),some (j,want),rs⟩::os)::aK) .normal r h Q=ga P (r.trim rs j) want d (.app n s x) rs D os aK r h Q:=kK rfl
theorem Y4 {n:Nat} {ig s:aR}:bm P (.os D (⟨d,(.copy n ig s),none,rs⟩::os)::aK) .normal r h Q=jE P (copyV n (ig.aV (r.trim rs)) (s.aV (r.trim rs)) h) d D os aK r h Q:=lW rfl rfl
theorem Z4 {n:Nat} {ig s:aR} {j:Nat} {want:Bool}:bm P (.os D (⟨d,(.copy n ig s),some (j,want),rs⟩::os)::aK) .normal r h Q=ga P (r.trim rs j) want d (.copy n ig s) rs D os aK r h Q:=kK rfl
theorem Zr {x:aR}:bm P (.os D (⟨d,(.len .map x),none,rs⟩::os)::aK) .normal r h Q=jE P (yy [x.aV (r.trim rs)] h) d D os aK r h Q:=lW rfl rfl
theorem aak {x:aR} {j:Nat} {want:Bool}:bm P (.os D (⟨d,(.len .map x),some (j,want),rs⟩::os)::aK) .normal r h Q=ga P (r.trim rs j) want d (.len .map x) rs D os aK r h Q:=kK rfl
theorem Y6 {x:aR}:bm P (.os D (⟨d,(.jQ .bytes x),none,rs⟩::os)::aK) .normal r h Q=jE P (xC.run (x.aV (r.trim rs)) h) d D os aK r h Q:=lW rfl rfl
theorem Z5 {x:aR} {j:Nat} {want:Bool}:bm P (.os D (⟨d,(.jQ .bytes x),some (j,want),rs⟩::os)::aK) .normal r h Q=ga P (r.trim rs j) want d (.jQ .bytes x) rs D os aK r h Q:=kK rfl
theorem Y9 {x:aR}:bm P (.os D (⟨d,(.jQ .str x),none,rs⟩::os)::aK) .normal r h Q=jE P (rP.run (x.aV (r.trim rs)) h) d D os aK r h Q:=lW rfl rfl
theorem Z8 {x:aR} {j:Nat} {want:Bool}:bm P (.os D (⟨d,(.jQ .str x),some (j,want),rs⟩::os)::aK) .normal r h Q=ga P (r.trim rs j) want d (.jQ .str x) rs D os aK r h Q:=kK rfl
theorem Y8 {s ig:TypeId} {x:aR}:bm P (.os D (⟨d,(.jQ (.other s ig) x),none,rs⟩::os)::aK) .normal r h Q=jE P ((py P s ig).run (x.aV (r.trim rs)) h) d D os aK r h Q:=lW rfl rfl
theorem Z7 {s ig:TypeId} {x:aR} {j:Nat} {want:Bool}:bm P (.os D (⟨d,(.jQ (.other s ig) x),some (j,want),rs⟩::os)::aK) .normal r h Q=ga P (r.trim rs j) want d (.jQ (.other s ig) x) rs D os aK r h Q:=kK rfl
theorem Z2 {f:FuncId} {args:List aR} {j:Nat} {want:Bool}:bm P (.os D (⟨d,(.call f args),some (j,want),rs⟩::os)::aK) .normal r h Q=ga P (r.trim rs j) want d (.call f args) rs D os aK r h Q:=kK rfl
theorem Z3 {f:aR} {args:List aR} {j:Nat} {want:Bool}:bm P (.os D (⟨d,(.oG f args),some (j,want),rs⟩::os)::aK) .normal r h Q=ga P (r.trim rs j) want d (.oG f args) rs D os aK r h Q:=kK rfl
end
end Go.Proofs.YthemdhlheglhoaaGreatDoor.aY
namespace Go.Proofs.YthemdhlheglhoaaGreatDoor.aY
variable [Lay]
open Go Go.RowKit
theorem abI (h:af) (ad:List V):gg h ad=if ad.length≤top then some (h.new (.bg ad 0 false)) else none:=by
 by_cases ao:ad.length≤top
 · rw [if_pos ao,abH ao]
 · rw [if_neg ao]
   unfold gg
   rw [show Nat.ble ad.length top=false from by rw [←Bool.not_eq_true,Nat.ble_eq];exact ao]
   rfl
theorem aaI (h:af) (n:Nat) (b:aN) (off:Nat) (y:V) (ad:List V) (cP:Nat) (st:Bool):
 yv n h b off y (.bg ad cP st)=if y.cells.length=n∧gh y.cells=true∧off+n≤ad.length then some (h.set b (.bg (oq ad off y.cells) cP st)) else none:=by
 by_cases aD:y.cells.length=n∧gh y.cells=true∧off+n≤ad.length
 · rw [if_pos aD,aaJ aD.1 aD.2.1 aD.2.2]
 · rw [if_neg aD]
   unfold yv
   by_cases aa:y.cells.length=n
   · rw [show Nat.beq y.cells.length n=true from by rw [Nat.beq_eq];exact aa]
     simp only [cond_true,b4.bg,b4.on]
     by_cases ae:gh y.cells=true
     · have aH:¬off+y.cells.length≤ad.length:=fun q=>aD ⟨aa,ae,by omega⟩
       rw [show Nat.ble (off+y.cells.length) ad.length=false from by rw [←Bool.not_eq_true,Nat.ble_eq];exact aH]
       rfl
     · rw [show gh y.cells=false from by simpa using ae,Bool.and_false]
       rfl
   · rw [show Nat.beq y.cells.length n=false from by rw [←Bool.not_eq_true,Nat.beq_eq];exact aa]
     rfl
theorem Vp (cells:List V) (off size:Nat) (v:V) (rest:List (Nat × Nat × V)):
 iw cells ((off,size,v)::rest)=if v.gb=true∧v.cells.length=size∧off+size≤cells.length then iw (oq cells off v.cells) rest else none:=by
 by_cases aD:v.gb=true∧v.cells.length=size∧off+size≤cells.length
 · rw [if_pos aD,Vo aD.1 aD.2.1 aD.2.2]
 · rw [if_neg aD]
   simp only [iw]
   cases ah:(v.gb&&(Nat.beq v.cells.length size&&Nat.ble (off+v.cells.length) cells.length)) with
   | false=>rfl
   | true=>
     simp only [Bool.and_eq_true,Nat.beq_eq,Nat.ble_eq] at ah
     exact absurd ⟨ah.1,ah.2.1,by omega⟩ aD
theorem T_ (b:Bool):V.cells (.bool b:V)=[.bool b]:=rfl
theorem aca (b:Bool):V.one (.bool b:V)=true:=rfl
theorem VX (b:Bool):V.gb (.bool b:V)=true:=rfl
theorem Ud (k:IntKind) (n:Int):V.cells (.int k n:V)=[.int k n]:=rfl
theorem NI (k:IntKind) (n:Int):V.one (.int k n:V)=true:=rfl
theorem V1 (k:IntKind) (n:Int):V.gb (.int k n:V)=true:=rfl
theorem Um (s:List UInt8):V.cells (.str s:V)=[.str s]:=rfl
theorem NJ (s:List UInt8):V.one (.str s:V)=true:=rfl
theorem V' (s:List UInt8):V.gb (.str s:V)=true:=rfl
theorem Ui:V.cells (.ns:V)=[.ns]:=rfl
theorem acj:V.one (.ns:V)=true:=rfl
theorem V6:V.gb (.ns:V)=true:=rfl
theorem Uk (b:aN) (o:Nat):V.cells (.ptr b o:V)=[.ptr b o]:=rfl
theorem acm (b:aN) (o:Nat):V.one (.ptr b o:V)=true:=rfl
theorem V8 (b:aN) (o:Nat):V.gb (.ptr b o:V)=true:=rfl
theorem Ul (b:aN) (o l c:Nat):V.cells (.slice b o l c:V)=[.slice b o l c]:=rfl
theorem acn (b:aN) (o l c:Nat):V.one (.slice b o l c:V)=true:=rfl
theorem V9 (b:aN) (o l c:Nat):V.gb (.slice b o l c:V)=true:=rfl
theorem Ub (b:aN) (o l c:Nat):V.cells (.e8 b o l c:V)=[.e8 b o l c]:=rfl
theorem acd (b:aN) (o l c:Nat):V.one (.e8 b o l c:V)=true:=rfl
theorem VZ (b:aN) (o l c:Nat):V.gb (.e8 b o l c:V)=true:=rfl
theorem Un (b:aN) (o l c:Nat):V.cells (.hS b o l c:V)=[.hS b o l c]:=rfl
theorem aco (b:aN) (o l c:Nat):V.one (.hS b o l c:V)=true:=rfl
theorem V_ (b:aN) (o l c:Nat):V.gb (.hS b o l c:V)=true:=rfl
theorem Uj:V.cells (.cq:V)=[.cq]:=rfl
theorem ack:V.one (.cq:V)=true:=rfl
theorem V7:V.gb (.cq:V)=true:=rfl
theorem Uh:V.cells (.kk:V)=[.kk]:=rfl
theorem aci:V.one (.kk:V)=true:=rfl
theorem V5:V.gb (.kk:V)=true:=rfl
theorem Ue (b:aN):V.cells (.map b:V)=[.map b]:=rfl
theorem acf (b:aN):V.one (.map b:V)=true:=rfl
theorem V2 (b:aN):V.gb (.map b:V)=true:=rfl
theorem Ua (f:FuncId) (cs:List V):V.cells (.func f cs:V)=[.func f cs]:=rfl
theorem acb (f:FuncId) (cs:List V):V.one (.func f cs:V)=true:=rfl
theorem VY (f:FuncId) (cs:List V):V.gb (.func f cs:V)=true:=rfl
theorem Ug:V.cells (.lp:V)=[.lp]:=rfl
theorem ach:V.one (.lp:V)=true:=rfl
theorem V4:V.gb (.lp:V)=true:=rfl
theorem Uc (t:TypeId) (v:V):V.cells (.iface t v:V)=[.iface t v]:=rfl
theorem ace (t:TypeId) (v:V):V.one (.iface t v:V)=true:=rfl
theorem V0 (t:TypeId) (v:V):V.gb (.iface t v:V)=true:=rfl
theorem Uf:V.cells (.nilIface:V)=[.nilIface]:=rfl
theorem acg:V.one (.nilIface:V)=true:=rfl
theorem V3:V.gb (.nilIface:V)=true:=rfl
theorem T' (cs:List V):V.cells (.agg cs)=cs:=rfl
theorem VW (cs:List V):V.gb (.agg cs)=true:=rfl
theorem Wa (cs:List V):V.gb (.tuple cs)=true:=rfl
theorem Q6 (n:Nat):n+1+1=n+2:=rfl
theorem Ra (n:Nat):n+2+1=n+3:=rfl
theorem Rb (n:Nat):n+3+1=n+4:=rfl
theorem Rc (n:Nat):n+4+1=n+5:=rfl
theorem Re (n:Nat):n+5+1=n+6:=rfl
theorem Rf (n:Nat):n+6+1=n+7:=rfl
theorem Rh (n:Nat):n+7+1=n+8:=rfl
theorem Ri (n:Nat):n+8+1=n+9:=rfl
theorem Rj (n:Nat):n+9+1=n+10:=rfl
theorem Q5 (n:Nat):n+10+1=n+11:=rfl
theorem Q7 (n:Nat):n+11+1=n+12:=rfl
theorem Q8 (n:Nat):n+12+1=n+13:=rfl
theorem Q9 (n:Nat):n+13+1=n+14:=rfl
theorem Q' (n:Nat):n+14+1=n+15:=rfl
theorem Q_ (n:Nat):n+15+1=n+16:=rfl
theorem q6 (n:Nat):(n+1=n)=False:=eq_false (by omega)
theorem afm (n:Nat):(n=n+1)=False:=eq_false (by omega)
theorem o5 (n:Nat):(n+2=n)=False:=eq_false (by omega)
theorem afn (n:Nat):(n=n+2)=False:=eq_false (by omega)
theorem yL (n:Nat):(n+3=n)=False:=eq_false (by omega)
theorem afo (n:Nat):(n=n+3)=False:=eq_false (by omega)
theorem Nu (n:Nat):(n+4=n)=False:=eq_false (by omega)
theorem afp (n:Nat):(n=n+4)=False:=eq_false (by omega)
theorem G_ (n:Nat):(n+5=n)=False:=eq_false (by omega)
theorem afq (n:Nat):(n=n+5)=False:=eq_false (by omega)
theorem abY (n:Nat):(n+6=n)=False:=eq_false (by omega)
theorem afr (n:Nat):(n=n+6)=False:=eq_false (by omega)
theorem abZ (n:Nat):(n+7=n)=False:=eq_false (by omega)
theorem afs (n:Nat):(n=n+7)=False:=eq_false (by omega)
theorem ab0 (n:Nat):(n+8=n)=False:=eq_false (by omega)
theorem aft (n:Nat):(n=n+8)=False:=eq_false (by omega)
theorem VR {P:Program} {r:aT} {h:af} {Q:c'→aT→af→Prop} {aK:List hW} {os:List bI} {D:Option ie} {d:Option Nat} {g:G} {rs:List Nat}:ga P (.bool true) true d g rs D os aK r h Q=bm P (.os D (⟨d,g,none,rs⟩::os)::aK) .normal r h Q:=by
 rw [KZ];simp
theorem VO {P:Program} {r:aT} {h:af} {Q:c'→aT→af→Prop} {aK:List hW} {os:List bI} {D:Option ie} {d:Option Nat} {g:G} {rs:List Nat}:ga P (.bool false) false d g rs D os aK r h Q=bm P (.os D (⟨d,g,none,rs⟩::os)::aK) .normal r h Q:=by
 rw [KY];simp
theorem VQ {P:Program} {r:aT} {h:af} {Q:c'→aT→af→Prop} {aK:List hW} {os:List bI} {D:Option ie} {d:Option Nat} {g:G} {rs:List Nat}:ga P (.bool true) false d g rs D os aK r h Q=bm P (.os (iy D r h (.tuple [])) os::aK) .normal (r.set d (.tuple [])) h Q:=by
 rw [KY];simp
theorem VP {P:Program} {r:aT} {h:af} {Q:c'→aT→af→Prop} {aK:List hW} {os:List bI} {D:Option ie} {d:Option Nat} {g:G} {rs:List Nat}:ga P (.bool false) true d g rs D os aK r h Q=bm P (.os (iy D r h (.tuple [])) os::aK) .normal (r.set d (.tuple [])) h Q:=by
 rw [KZ];simp
theorem RU (c:Bool) (a b:V):V.bif (!c) a (V.opt c b)=V.bif (!c) a b:=by cases c<;>rfl
theorem Yv (A:Prop):(True→A)=A:=propext ⟨fun q=>q trivial,fun q _=>q⟩
theorem Yu (A:Prop):(False→A)=True:=propext ⟨fun _=>trivial,fun _ q=>q.elim⟩
section
variable {P:Program}
theorem ll {b:bV} {aK:List hW} {r:aT} {h:af} {Q:c'→aT→af→Prop} (I:aT→af→Prop) (μ:aT→af→Nat) (a6:I r h)
 (step:∀r h,I r h→bm P [.c b] .normal r h fun e bq ab=>e.andThen (I bq ab∧μ bq ab<μ r h) (bm P aK e bq ab Q)):yC P b aK r h Q:=
 ⟨I,μ,a6,step⟩
theorem VN {b want:Bool} {d:Option Nat} {f:FuncId} {args:List aR} {rs:List Nat} {os:List bI} {D:Option ie} {aK:List hW} {r:aT} {h:af} {Q:c'→aT→af→Prop} (v:V)
 (br:(b == want)=true→gp P f (aR.fI (r.trim rs) args) h v h)
 (H:bm P (.os (iy D r h (V.opt (b == want) v)) os::aK) .normal (r.set d (V.opt (b == want) v)) h Q):ga P (.bool b) want d (.call f args) rs D os aK r h Q:=by
 have:=VM (P:=P) (c:=true) (b:=b) (want:=want) (d:=d) (f:=f) (args:=args) (rs:=rs) (D:=D) (os:=os) (aK:=aK) (r:=r) (h:=h) (Q:=Q) v
 simp only [V.opt,cond_true,Bool.true_and] at this
 exact this br H
theorem KX {b:Bool} {d:Option Nat} {f:FuncId} {args:List aR} {rs:List Nat} {os:List bI} {D:Option ie} {aK:List hW} {r:aT} {h:af} {Q:c'→aT→af→Prop} (v:V)
 (br:(!b)=true→gp P f (aR.fI (r.trim rs) args) h v h)
 (H:bm P (.os (iy D r h (V.opt (!b) v)) os::aK) .normal (r.set d (V.opt (!b) v)) h Q):ga P (.bool b) false d (.call f args) rs D os aK r h Q:=by
 refine VN v ?_ ?_<;>rw [beq_false]<;>assumption
def V.toN:V→Nat
 | .int _ n=>n.toNat
 | _=>0
theorem aeJ (k:IntKind) (n:Int):V.toN (.int k n)=n.toNat:=rfl
theorem hK {f:FuncId} {args:List V} {d:Option Nat} {os:List bI} {D:Option ie} {aK:List hW} {r:aT} {h:af} {Q:c'→aT→af→Prop} {v:V}
 (c:gp P f args h v h) (H:bm P (.os (iy D r h v) os::aK) .normal (r.set d v) h Q):px P f args d D os aK r h Q:=⟨v,h,c,H⟩
theorem bM {f:FuncId} {args:List V} {d:Option Nat} {os:List bI} {D:Option ie} {aK:List hW} {r:aT} {h:af} {Q:c'→aT→af→Prop} {K:V→af→Prop}
 (c:b_ P f args h K) (H:∀v ab,K v ab→bm P (.os (iy D r h v) os::aK) .normal (r.set d v) ab Q):px P f args d D os aK r h Q:=c.mono H
structure Ext (h ab:af):Prop where
 next:h.next≤ab.next
 get:∀b,Old h b→ab.get b=h.get b
theorem Ext.refl (h:af):Ext h h:=⟨Nat.le_refl _,fun _ _=>rfl⟩
theorem Ext.bY {h ab:af} (e:Ext h ab) {b:aN} (ah:Old h b):Old ab b:=Nat.lt_of_lt_of_le ah e.next
theorem Ext.trans {h ab lI:af} (e:Ext h ab) (c_:Ext ab lI):Ext h lI:=
 ⟨Nat.le_trans e.next c_.next,fun b ah=>(c_.get b (e.bY ah)).trans (e.get b ah)⟩
theorem Ext.new {h ab:af} (e:Ext h ab) (k:b4):Ext h (ab.new k):=
 ⟨Nat.le_succ_of_le e.next,fun b ah=>by
   rw [h1,if_neg (fun q=>(Ha (h:=h) ah e.next) ▸ q)]
   exact e.get b ah⟩
theorem Ext.set {h ab:af} (e:Ext h ab) {i:Nat} (aF:h.next≤i) (k:b4):Ext h (ab.set (ai i) k):=
 ⟨e.next,fun b ah=>by
   rw [c0,if_neg (fun q=>(Ha (h:=h) ah aF) ▸ q)]
   exact e.get b ah⟩
theorem Ext.rd {h ab:af} (e:Ext h ab) {b:aN} (ah:Old h b) {ad:List V} (H:Rd h b ad):Rd ab b ad:=by
 unfold Rd at H ⊢
 rw [e.get b ah]
 exact H
def lB (h:af) (b:aN) (off:Nat) (ad:List V):Prop:=Old h b∧∃us,Rd h b us∧off+ad.length≤us.length∧(us.drop off).take ad.length=ad
theorem lB.ext {h ab:af} (e:Ext h ab) {b:aN} {off:Nat} {ad:List V} (H:lB h b off ad):lB ab b off ad:=by
 obtain ⟨a6,us,aa,ae,aH⟩:=H
 exact ⟨e.bY a6,us,e.rd a6 aa,ae,aH⟩
theorem lB.jy {h:af} {b:aN} {off:Nat} {ad:List V} (H:lB h b off ad) {i:Nat} (aF:i<ad.length):j0 (h.get b) (off+i)=some ad[i]:=by
 obtain ⟨_,us,aa,ae,aH⟩:=H
 rw [aa.jy,List.getElem?_eq_getElem (by omega)]
 congr 1
 have:((us.drop off).take ad.length)[i]? =ad[i]? :=by rw [aH]
 rw [List.getElem?_take_of_lt aF,List.getElem?_drop,List.getElem?_eq_getElem (by omega),List.getElem?_eq_getElem aF] at this
 simpa using this
theorem lB.ki {h:af} {b:aN} {off:Nat} {ad:List V} (H:lB h b off ad) {i n:Nat} (aF:i+n≤ad.length):mB n (h.get b) (off+i)=some (.agg ((ad.drop i).take n)):=by
 obtain ⟨_,us,aa,ae,aH⟩:=H
 rw [aa.ki,if_pos (by omega)]
 congr 2
 have:(((us.drop off).take ad.length).drop i).take n=(ad.drop i).take n:=by rw [aH]
 rw [←this,List.drop_take,List.drop_drop,List.take_take]
 congr 1
 omega
def hJ (h:af) (size:Nat) (v:V) (n:Nat) (ad:List V):Prop:=
 ad.length=n * size∧match v with
  | .cq=>n=0
  | .slice b off len _=>len=n∧lB h b off ad
  | .e8 b off len _=>len=n∧lB h b off ad
  | .hS _ _ _ _=>n=0
  | _=>False
theorem hJ.ext {h ab:af} (e:Ext h ab) {size:Nat} {v:V} {n:Nat} {ad:List V} (H:hJ h size v n ad):hJ ab size v n ad:=by
 refine ⟨H.1,?_⟩
 have cG:=H.2
 cases v<;>simp only at cG ⊢<;>first | exact cG | exact ⟨cG.1,cG.2.ext e⟩
theorem hJ.len {h:af} {size:Nat} {v:V} {n:Nat} {ad:List V} (H:hJ h size v n ad):mD v=some (.int .i64 n):=by
 have cG:=H.2
 cases v<;>simp only at cG<;>first
  | (rw [←cG.1];rfl)
  | (subst cG;rfl)
  | (exact cG.elim)
theorem hJ.fz {h:af} {size:Nat} {v:V} {n:Nat} {ad:List V} (H:hJ h size v n ad) {k:IntKind} {i:Nat} (aF:i<n):
 ∃b off,lU size v (.int k i)=some (.ptr b (off+i * size))∧lB h b off ad:=by
 have cG:=H.2
 cases v<;>simp only at cG<;>first
  | omega
  | (exact cG.elim)
  | skip
 · rename_i b off len cap
   obtain ⟨rfl,aa⟩:=cG
   refine ⟨b,off,?_,aa⟩
   rw [Mh,if_pos (by omega)]
   simp
 · rename_i b off len cap
   obtain ⟨rfl,aa⟩:=cG
   refine ⟨b,off,?_,aa⟩
   rw [Mg,if_pos (by omega)]
   simp
end
end Go.Proofs.YthemdhlheglhoaaGreatDoor.aY
namespace Go.Proofs.YthemdhlheglhoaaGreatDoor.aY
variable [Lay]
open Go Go.RowKit
structure Mod (M:aN→Prop) (h ab:af):Prop where
 next:h.next≤ab.next
 get:∀b,Old h b→¬M b→ab.get b=h.get b
theorem Mod.refl (M:aN→Prop) (h:af):Mod M h h:=⟨Nat.le_refl _,fun _ _ _=>rfl⟩
theorem Mod.bY {M:aN→Prop} {h ab:af} (e:Mod M h ab) {b:aN} (ah:Old h b):Old ab b:=Nat.lt_of_lt_of_le ah e.next
theorem Mod.trans {M:aN→Prop} {h ab lI:af} (e:Mod M h ab) (c_:Mod M ab lI):Mod M h lI:=
 ⟨Nat.le_trans e.next c_.next,fun b ah hm=>(c_.get b (e.bY ah) hm).trans (e.get b ah hm)⟩
theorem Mod.mono {M IZ:aN→Prop} {h ab:af} (e:Mod M h ab) (hm:∀b,Old h b→M b→IZ b):Mod IZ h ab:=
 ⟨e.next,fun b ah aS=>e.get b ah fun q=>aS (hm b ah q)⟩
theorem Mod.new {M:aN→Prop} {h ab:af} (e:Mod M h ab) (k:b4):Mod M h (ab.new k):=
 ⟨Nat.le_succ_of_le e.next,fun b ah hm=>by
   rw [h1,if_neg (fun q=>(Ha (h:=h) ah e.next) ▸ q)]
   exact e.get b ah hm⟩
theorem Mod.set {M:aN→Prop} {h ab:af} (e:Mod M h ab) {b:aN} (ah:Old h b→M b) (k:b4):Mod M h (ab.set b k):=
 ⟨e.next,fun bH gZ hm=>by
   rw [c0]
   by_cases q:b=bH
   · subst q
     exact absurd (ah gZ) hm
   · rw [if_neg q]
     exact e.get bH gZ hm⟩
theorem Ext.mod {h ab:af} (e:Ext h ab) (M:aN→Prop):Mod M h ab:=⟨e.next,fun b ah _=>e.get b ah⟩
theorem Ext.od {h ab lI:af} (e:Ext h ab) {M:aN→Prop} (m:Mod M ab lI) (hm:∀b,M b→h.next≤e9 b):Ext h lI:=
 ⟨Nat.le_trans e.next m.next,fun b ah=>by
   have mx:¬M b:=fun q=>by have:=hm b q;unfold Old at ah;omega
   exact (m.get b (e.bY ah) mx).trans (e.get b ah)⟩
theorem Mod.at {M:aN→Prop} {h ab:af} (e:Mod M h ab) {b:aN} {off:Nat} {ad:List V} (H:lB h b off ad) (hm:¬M b):lB ab b off ad:=by
 obtain ⟨a6,us,aa,ae,aH⟩:=H
 refine ⟨e.bY a6,us,?_,ae,aH⟩
 unfold Rd at aa ⊢
 rw [e.get b a6 hm]
 exact aa
theorem e3 {h:af} {i:Nat} (aF:i<h.next):Old h (ai i):=by unfold Old;rw [c8];exact aF
theorem yI {h:af} {b:aN} {i:Nat} (ah:Old h b) (aF:h.next≤i):(b=ai i)=False:=by
 apply eq_false
 intro e
 unfold Old at ah
 rw [e,c8] at ah
 omega
def V.bc:V→aN→Prop
 | .slice b _ _ _,bH=>bH=b
 | .e8 b _ _ _,bH=>bH=b
 | _,_=>False
theorem hJ.one {h:af} {size:Nat} {v:V} {n:Nat} {ad:List V} (H:hJ h size v n ad):v.one=true∧v.cells=[v]∧v.gb=true:=by
 have q:=H.2
 cases v<;>simp only at q<;>first | exact ⟨rfl,rfl,rfl⟩ | exact q.elim
theorem hJ.mod {M:aN→Prop} {h ab:af} (e:Mod M h ab) {size:Nat} {v:V} {n:Nat} {ad:List V} (H:hJ h size v n ad) (hm:∀b,v.bc b→¬M b):hJ ab size v n ad:=by
 refine ⟨H.1,?_⟩
 have cG:=H.2
 cases v<;>simp only at cG ⊢<;>first | exact cG | exact ⟨cG.1,e.at cG.2 (hm _ rfl)⟩
theorem hJ.bY {h:af} {size:Nat} {v:V} {n:Nat} {ad:List V} (H:hJ h size v n ad) {b:aN} (ah:v.bc b):Old h b:=by
 have cG:=H.2
 cases v<;>simp only [V.bc] at cG ah<;>first | (exact ah.elim) | (subst ah;exact cG.2.1)
def dL (B:Nat) (h:af) (size:Nat) (v:V) (n:Nat) (ad:List V):Prop:=
 ad.length=n * size∧match v with
  | .cq=>n=0
  | .slice b off len cap=>len=n∧B≤e9 b∧Old h b∧n≤cap∧cap≤top∧∃us cP st,h.get b=.bg us cP st∧off+cap * size≤us.length∧(us.drop off).take ad.length=ad
  | .e8 b off len idx=>len=n∧B≤e9 b∧Old h b∧off=0∧idx=0∧∃us st,h.get b=.bg us size st∧ad.length≤us.length∧us.take ad.length=ad
  | _=>False
theorem dL.v {B:Nat} {h:af} {size:Nat} {v:V} {n:Nat} {ad:List V} (H:dL B h size v n ad):hJ h size v n ad:=by
 obtain ⟨aa,ae⟩:=H
 refine ⟨aa,?_⟩
 cases v<;>simp only at ae ⊢<;>first | exact ae | skip
 · obtain ⟨au,_,az,aM,_,us,cP,st,bU,ey,fP⟩:=ae
   refine ⟨au,az,us,.inr ⟨cP,st,bU⟩,?_,fP⟩
   rw [aa]
   have:=Nat.mul_le_mul_right size aM
   omega
 · obtain ⟨au,_,az,aM,_,us,st,bU,ey,fP⟩:=ae
   subst aM
   exact ⟨au,az,us,.inr ⟨size,st,bU⟩,by omega,by simpa using fP⟩
theorem dL.base {B:Nat} {h:af} {size:Nat} {v:V} {n:Nat} {ad:List V} (H:dL B h size v n ad) {b:aN} (ah:v.bc b):B≤e9 b:=by
 have cG:=H.2
 cases v<;>simp only [V.bc] at cG ah<;>first | (exact ah.elim) | (subst ah;exact cG.2.1)
theorem dL.mono {B IB:Nat} {h:af} {size:Nat} {v:V} {n:Nat} {ad:List V} (H:dL B h size v n ad) (c9:IB≤B):dL IB h size v n ad:=by
 refine ⟨H.1,?_⟩
 have cG:=H.2
 cases v<;>simp only at cG ⊢<;>first | exact cG | exact ⟨cG.1,Nat.le_trans c9 cG.2.1,cG.2.2⟩
theorem dL.mod {M:aN→Prop} {h ab:af} (e:Mod M h ab) {B size:Nat} {v:V} {n:Nat} {ad:List V} (H:dL B h size v n ad) (hm:∀b,v.bc b→¬M b):dL B ab size v n ad:=by
 refine ⟨H.1,?_⟩
 have cG:=H.2
 cases v<;>simp only at cG ⊢<;>first | exact cG | skip
 · obtain ⟨au,az,aM,bU,ey,us,cP,st,fP,j3⟩:=cG
   exact ⟨au,az,e.bY aM,bU,ey,us,cP,st,by rw [e.get _ aM (hm _ rfl)];exact fP,j3⟩
 · obtain ⟨au,az,aM,bU,ey,us,st,fP,j3⟩:=cG
   exact ⟨au,az,e.bY aM,bU,ey,us,st,by rw [e.get _ aM (hm _ rfl)];exact fP,j3⟩
theorem dL.ext {h ab:af} (e:Ext h ab) {B size:Nat} {v:V} {n:Nat} {ad:List V} (H:dL B h size v n ad):dL B ab size v n ad:=
 H.mod (e.mod fun _=>False) fun _ _ q=>q
theorem aa1 {h:af} {size:Nat} {v:V} {n:Nat} {ad:List V} (H:hJ h size v n ad):n_ v=some n:=by
 have cG:=H.2
 cases v<;>simp only at cG<;>first
  | (rw [←cG.1];rfl)
  | (subst cG;rfl)
  | (exact cG.elim)
theorem H8 {h:af} {b:aN} {off size n:Nat} {ad:List V} (H:lB h b off ad) (ao:ad.length=n * size):ot h size b off n=some ad:=by
 obtain ⟨_,us,aa,ae,aH⟩:=H
 unfold ot
 rw [aa.om,show Nat.ble (off+n * size) us.length=true from by rw [Nat.ble_eq];omega,AK us _ off (by omega),←ao,aH]
 rfl
theorem aeh {h:af} {size:Nat} {v:V} {n:Nat} {ad:List V} (H:hJ h size v n ad):uB h size v n=some ad:=by
 obtain ⟨aa,ae⟩:=H
 cases v<;>simp only at ae<;>first
  | (exact ae.elim)
  | (obtain ⟨_,aH⟩:=ae;exact H8 aH aa)
  | (subst ae
     have:ad=[]:=List.eq_nil_of_length_eq_zero (by omega)
     subst this
     rfl)
theorem dL.grown {B:Nat} {h:af} {size:Nat} {ad:List V} {n:Nat} {st:Bool} (ao:ad.length=n * size) (c9:B≤h.next):dL B (h.new (.bg ad size st)) size (.e8 (ai h.next) 0 n 0) n ad:=
 ⟨ao,rfl,by rw [c8];exact c9,NF,rfl,rfl,ad,st,m' _,Nat.le_refl _,List.take_length⟩
theorem Rq {h:af} {size:Nat} {s x:V} {m:Nat} {ad:List V} (cG:hJ h size x m ad) (hm:m≤top):mY size s x h=(match s with
 | .cq=>u2 size m ad h
 | .slice b off len cap=>u1 size b off len cap m ad h
 | .e8 b off len idx=>u0 size b off len idx m ad h
 | _=>.fail):=by
 unfold mY
 rw [aa1 cG]
 simp only
 rw [aeh cG]
 simp only
 rw [show Nat.ble m top=true from by rw [Nat.ble_eq];exact hm]
 rfl
theorem Rt {B:Nat} {h:af} {size:Nat} {s x:V} {n m:Nat} {us ad:List V} (cc:1≤size) (H1:dL B h size s n us) (cG:hJ h size x m ad) (c9:B≤h.next) (hlen:(n+m) * size≤top) (aQ:gh ad=true):
 ∃v ab,mY size s x h=.val v ab∧dL B ab size v (n+m) (us++ad)∧Mod s.bc h ab∧∀b,v.bc b→s.bc b∨h.next≤e9 b:=by
 have mx:n+m≤top:=Nat.le_trans (Nat.le_mul_of_pos_right _ cc) hlen
 have lL:=H1.1
 have mq:=cG.1
 have k7:(us++ad).length=(n+m) * size:=by rw [List.length_append,lL,mq,Nat.add_mul]
 rw [Rq cG (by omega)]
 have ae:=H1.2
 cases s<;>simp only at ae ⊢<;>try (exact ae.elim)
 case cq=>
  subst ae
  have:us=[]:=List.eq_nil_of_length_eq_zero (by omega)
  subst this
  unfold u2
  by_cases hm:m=0
  · subst hm
    have:ad=[]:=List.eq_nil_of_length_eq_zero (by omega)
    subst this
    exact ⟨.cq,h,rfl,⟨by simp,rfl⟩,Mod.refl _ _,fun b ah=>.inl ah⟩
  · rw [show Nat.beq m 0=false from by rw [←Bool.not_eq_true,Nat.beq_eq];exact hm]
    simp only [cond_false]
    rw [G2 (by rw [mq];simpa using hlen) cc]
    refine ⟨_,_,rfl,?_,(Mod.refl _ _).new _,fun b ah=>.inr (by rw [show b=ai h.next from ah,c8];exact Nat.le_refl _)⟩
    have:=dL.grown (B:=B) (h:=h) (size:=size) (ad:=ad) (n:=m) (st:=false) mq c9
    simpa using this
 case slice b off len cap=>
  obtain ⟨rfl,az,aM,bU,ey,qe,cP,st,fP,j3,o_⟩:=ae
  unfold u1
  by_cases aD:len+m≤cap
  · rw [show Nat.ble (len+m) cap=true from by rw [Nat.ble_eq];exact aD]
    simp only [cond_true]
    have gd:off+len * size+ad.length≤qe.length:=by
     have:=Nat.mul_le_mul_right size aD
     rw [Nat.add_mul] at this
     rw [mq]
     omega
    rw [Own.lay (ad:=qe) (cP:=cP) (st:=st) fP gd aQ]
    refine ⟨_,_,rfl,⟨k7,rfl,az,aM,aD,ey,_,cP,st,c0 _ _ _ |>.trans (if_pos rfl),?_,?_⟩,(Mod.refl (V.bc (.slice b off len cap)) h).set (fun _=>rfl) _,fun bH ah=>.inl ah⟩
    · rw [H7 _ _ _ gd];exact j3
    · rw [List.length_append]
      unfold l3
      have eK:off+us.length≤qe.length:=by rw [lL];omega
      have aP:qe.take (off+len * size)=qe.take off++us:=by
       rw [←lL,List.take_add,o_]
      rw [aP,List.append_assoc,List.append_assoc,List.drop_append,List.drop_eq_nil_of_le (by rw [List.length_take];omega),List.nil_append]
      rw [show off - (qe.take off).length=0 from by rw [List.length_take];omega,List.drop_zero]
      rw [←List.append_assoc,List.take_left' (by rw [List.length_append])]
  · rw [show Nat.ble (len+m) cap=false from by rw [←Bool.not_eq_true,Nat.ble_eq];exact aD]
    simp only [cond_false]
    rw [show (Nat.ble (len+m) top&&Nat.ble cap top)=true from by simp only [Bool.and_eq_true,Nat.ble_eq];exact ⟨mx,ey⟩]
    simp only [cond_true]
    have Fa:lB h b off us:=⟨aM,qe,.inr ⟨cP,st,fP⟩,by rw [lL];have:=Nat.mul_le_mul_right size bU;omega,o_⟩
    rw [H8 Fa lL]
    simp only
    rw [G2 (by rw [k7];exact hlen) cc]
    exact ⟨_,_,rfl,dL.grown k7 c9,(Mod.refl _ _).new _,fun b ah=>.inr (by rw [show b=ai h.next from ah,c8];exact Nat.le_refl _)⟩
 case e8 b off len idx=>
  obtain ⟨rfl,az,aM,rfl,rfl,qe,st,fP,j3,o_⟩:=ae
  unfold u0
  by_cases hm:m=0
  · subst hm
    have:ad=[]:=List.eq_nil_of_length_eq_zero (by omega)
    subst this
    exact ⟨_,h,rfl,⟨k7,rfl,az,aM,rfl,rfl,qe,st,fP,by simpa using j3,by simpa using o_⟩,Mod.refl _ _,fun b ah=>.inl ah⟩
  · rw [show Nat.beq m 0=false from by rw [←Bool.not_eq_true,Nat.beq_eq];exact hm]
    simp only [cond_false]
    rw [fP]
    simp only [b4.bg,b4.on]
    rw [show (Nat.beq size size&&(Nat.ble (len+m) top&&gh ad)&&Nat.beq 0 (0 * size))=true from by
     simp only [Bool.and_eq_true,Nat.beq_eq,Nat.ble_eq]
     exact ⟨⟨trivial,mx,aQ⟩,by omega⟩]
    simp only [cond_true]
    have Fa:lB h b 0 us:=⟨aM,qe,.inr ⟨size,st,fP⟩,by omega,by simpa using o_⟩
    rw [H8 Fa lL]
    simp only
    rw [G2 (by rw [k7];exact hlen) cc]
    exact ⟨_,_,rfl,dL.grown (h:=h.set b .dead) k7 c9,((Mod.refl (V.bc (.e8 b 0 len 0)) h).set (fun _=>rfl) _).new _,fun bH ah=>.inr (by rw [show bH=ai h.next from ah,c8];exact Nat.le_refl _)⟩
theorem acv (r:aT):aR.opt r none=none:=(rfl)
theorem acw (r:aT) (x:aR):aR.opt r (some x)=some (x.aV r):=(rfl)
theorem JB (d y:Nat):bound none d y=some d:=rfl
theorem abP (b:aN) (o:Nat):si (.ptr b o)=some (.ptr b o):=rfl
theorem abt (k bp:IntKind) (a b:Int):km (fun b a=>!Int.leB a b) [.int k a,.int bp b]=some (.int k (if b<a then b else a)):=by
 simp only [km,uq,V.ep,p4]
 by_cases h:b<a
 · rw [if_pos h]
   have:¬a≤b:=by omega
   simp [this]
 · rw [if_neg h]
   have:a≤b:=by omega
   simp [this]
theorem abz (k bp:IntKind) (a b:Int):km (fun b a=>!Int.leB b a) [.int k a,.int bp b]=some (.int k (if a<b then b else a)):=by
 simp only [km,uq,V.ep,p4]
 by_cases h:a<b
 · rw [if_pos h]
   have:¬b≤a:=by omega
   simp [this]
 · rw [if_neg h]
   have:b≤a:=by omega
   simp [this]
end Go.Proofs.YthemdhlheglhoaaGreatDoor.aY
namespace Go.Proofs.YthemdhlheglhoaaGreatDoor.aY
variable [Lay]
open Go Go.RowKit Go.ChangeShapes Go.WideShapes
section
variable {H:Type} {enc:TypeId × Value→H} {P:Program}
end
end Go.Proofs.YthemdhlheglhoaaGreatDoor.aY
namespace Go.Proofs.YthemdhlheglhoaaGreatDoor.aY
variable [Lay]
open Go Go.RowKit
theorem a1.below {aq:Fr} {E:Env} {h:af} {w aj:World} (s:a1 aq E h w) (ah:Below w.heap.size w aj):a1 aq E h aj:=by
 have cc:aq.w.heap.size≤w.heap.size:=s.frame.size
 have gS:∀(k:Nat) (o:Obj),w.heap[k]? =some o→aj.heap[k]? =some o:=by
  intro k o ay
  rw [ah.block k,ay]
  by_cases aW:k<w.heap.size
  · exact aW
  · rw [Array.getElem?_eq_none (by omega)] at ay
    cases ay
 refine ⟨fun b ag=>?_,s.o9,s.inj,s.fresh,s.frame.trans (ah.mono cc),s.laid,s.base⟩
 have:=s.bc b ag
 cases ay:h.get b<;>rw [ay] at this<;>simp only [hg] at this ⊢
 · obtain ⟨au,p,c,el,bN,az,aM,bU,ey⟩:=this
   exact ⟨au,p,c,el,bN,az,aM,gS _ _ bU,ey⟩
 · obtain ⟨au,p,c,el,bN,az,aM,bU,ey⟩:=this
   exact ⟨au,p,c,el,bN,az,aM,gS _ _ bU,ey⟩
 · obtain ⟨p,au,az,aM,bU⟩:=this
   exact ⟨p,au,az,aM,gS _ _ bU⟩
 · obtain ⟨p,a,au,az,aM,bU⟩:=this
   exact ⟨p,a,au,az,gS _ _ aM,bU⟩
 · obtain ⟨p,o,au,az,aM,bU⟩:=this
   exact ⟨p,o,au,az,gS _ _ aM,bU⟩
 · obtain ⟨p,au,az,aM⟩:=this
   exact ⟨p,au,az,gS _ _ aM⟩
 · obtain ⟨p,a,c,l,au,az,aM,bU⟩:=this
   exact ⟨p,a,c,l,au,az,gS _ _ aM,bU⟩
 · obtain ⟨p,m,a,au,az,aM,bU,ey⟩:=this
   exact ⟨p,m,a,au,az,aM,gS _ _ bU,ey⟩
theorem aaE {P:Program} {f:FuncId} {args:List V} {v:V} {h:af} (H:∀E xs w,Lay.ok w→a8 E args xs→Calls P f xs.toArray w fun e aj=>∃x,e=.returned x∧Rel E v x∧Below w.heap.size w aj)
 (aq:Fr) (E:Env) (w:World) (xs:List Value) (ak:a8 E args xs) (s:a1 aq E h w):Calls P f xs.toArray w fun e aj=>∃an x,e=.returned x∧E.le an∧Rel an v x∧a1 aq an h aj:=by
 refine (H E xs w (Lay.gS s.laid s.frame) ak).mono fun e aj q=>?_
 obtain ⟨x,rfl,br,ah⟩:=q
 exact ⟨E,x,rfl,Env.le.refl E,br,s.below ah⟩
theorem Vj {P:Program} {f:FuncId} {fn:Func} {e:Array Value→Sem Value} (ar:P.funcs[f]? =some fn) (aS:(fn.name == "runtime.NumGoroutine")=false) (ah:fn.body.isNone=true) (aa:Extern.findNext fn=none) (ae:Extern.find fn=some e)
 {xs:Array Value} {x:Value} {w:World} (aG:(e xs).run P w=.ok x w):(callFunc f xs).run P w=.ok (.value x) w:=by
 simp only [callFunc,Sem.run_bind,run_program,Result.andThen_ok,ar]
 rw [if_neg (by rw [aS];simp),if_pos ah]
 simp only [Sem.run_bind,aa,ae]
 have hm:(mark (.extern f)).run P w=.ok () w:=rfl
 rw [hm]
 simp only [Result.andThen_ok,aG,Sem.run_pure]
def yp (c:Nat):List UInt8→Nat→Int
 | [],_=>-1
 | b::l,i=>bif Nat.beq b.toNat c then .ofNat i else yp c l (i+1)
theorem Mz (c:Nat) (aD:c<256):∀(l:List UInt8) (i:Nat),yp c l i=if Lib.indexByte l c.toUInt8=-1 then -1 else Lib.indexByte l c.toUInt8+i
 | [],i=>by simp [yp,Lib.indexByte]
 | b::l,i=>by
   have js:=Lib.indexByte_ge l c.toUInt8
   have pI:(b.toNat=c)↔(b == c.toUInt8)=true:=by
    rw [beq_iff_eq,←UInt8.toNat_inj]
    have:c.toUInt8.toNat=c:=by
     show c % 256=c
     omega
    rw [this]
   have e:Lib.indexByte (b::l) c.toUInt8=if (b == c.toUInt8)=true then 0 else if (Lib.indexByte l c.toUInt8 == -1)=true then -1 else Lib.indexByte l c.toUInt8+1:=rfl
   simp only [yp,Mz c aD l (i+1),hL]
   by_cases h:b.toNat=c
   · rw [if_pos (pI.1 h)] at e
     rw [if_pos h,e]
     simp
   · rw [if_neg (fun e=>h (pI.2 e))] at e
     rw [if_neg h]
     by_cases ae:Lib.indexByte l c.toUInt8=-1
     · rw [ae] at e
       simp only [beq_self_eq_true,if_true] at e
       simp [ae,e]
     · have aH:(Lib.indexByte l c.toUInt8 == -1)=false:=by simpa using ae
       rw [aH] at e
       simp only [Bool.false_eq_true,if_false] at e
       rw [if_neg ae,e,if_neg (by omega)]
       omega
def preB:List UInt8→List UInt8→Bool
 | [],_=>true
 | _::_,[]=>false
 | a::x,b::y=>bif Nat.beq a.toNat b.toNat then preB x y else false
theorem Hm:∀(x y:List UInt8),preB x y=x.isPrefixOf y
 | [],y=>by cases y<;>rfl
 | _::_,[]=>rfl
 | a::x,b::y=>by
   simp only [preB,List.isPrefixOf,hL,Hm x y]
   by_cases h:a.toNat=b.toNat
   · have:a=b:=UInt8.toNat_inj.1 h
     subst this
     simp
   · have:(a == b)=false:=by
      rw [beq_eq_false_iff_ne]
      exact fun e=>h (by rw [e])
     rw [if_neg h,this]
     rfl
def hasB:List UInt8→List UInt8→Bool
 | [],sub=>preB sub []
 | b::l,sub=>bif preB sub (b::l) then true else hasB l sub
theorem Le:∀(s sub:List UInt8),hasB s sub=Lib.contains s sub
 | [],sub=>by
   simp only [hasB,Hm,Lib.contains,Lib.index]
   cases sub<;>simp
 | b::l,sub=>by
   simp only [hasB,Hm]
   have bj:=Le l sub
   unfold Lib.contains at bj ⊢
   unfold Lib.index
   cases h:sub.isPrefixOf (b::l) with
   | true=>simp
   | false=>
     simp only [cond_false,Bool.false_eq_true,if_false,bj]
     have js:=Lib.index_ge l sub
     cases ae:(Lib.index l sub == -1) with
     | true=>
       have:Lib.index l sub=-1:=by simpa using ae
       simp [this]
     | false=>
       have:Lib.index l sub≠-1:=by simpa using ae
       simp only [Bool.false_eq_true,if_false]
       rw [Bool.eq_iff_iff,decide_eq_true_eq,decide_eq_true_eq]
       omega
def Ex:uX:=⟨fun args h=>match args with
 | [x,y]=>(match x with
   | .str s=>(match y with
     | .str sub=>bif Nat.ble s.length 100000 then .val (.bool (hasB s sub)) h else .fail
     | _=>.fail)
   | _=>.fail)
 | _=>.fail⟩
theorem Uy {args:List V} {h ab:af} {v:V} (he:Ex.run args h=.val v ab):∃s sub,args=[.str s,.str sub]∧s.length≤100000∧v=.bool (Lib.contains s sub)∧ab=h:=by
 simp only [Ex] at he
 split at he
 case h_2=>cases he
 split at he
 case h_2=>cases he
 split at he
 case h_2=>cases he
 obtain ⟨aD,aa⟩:=jP he
 simp only [aU.val.injEq] at aa
 obtain ⟨rfl,rfl⟩:=aa
 exact ⟨_,_,rfl,Nat.le_of_ble_eq_true aD,by rw [Le],rfl⟩
def Bp:uX:=⟨fun args h=>match args with
 | [x,y]=>(match x with
   | .str s=>(match y with
     | .int k c=>bif nJ k .u8&&(Int.leB 0 c&&Nat.blt c.toNat 256) then .val (.int .i64 (yp c.toNat s 0)) h else .fail
     | _=>.fail)
   | _=>.fail)
 | _=>.fail⟩
theorem YC {args:List V} {h ab:af} {v:V} (he:Bp.run args h=.val v ab):∃s c,args=[.str s,.int .u8 c]∧v=.int .i64 (Lib.indexByte s c.toNat.toUInt8)∧ab=h:=by
 simp only [Bp] at he
 split at he
 case h_2=>cases he
 split at he
 case h_2=>cases he
 split at he
 case h_2=>cases he
 rename_i s _ k c
 obtain ⟨aD,aa⟩:=jP he
 simp only [Bool.and_eq_true,Nat.blt_eq] at aD
 have ay:=rS aD.1
 subst ay
 simp only [aU.val.injEq] at aa
 obtain ⟨rfl,rfl⟩:=aa
 refine ⟨s,c,rfl,?_,rfl⟩
 rw [Mz _ aD.2.2]
 by_cases h:Lib.indexByte s c.toNat.toUInt8=-1
 · rw [if_pos h,h]
 · rw [if_neg h]
   simp
theorem YB {P:Program} {f:FuncId} {fn:Func} (ar:P.funcs[f]? =some fn) (aS:(fn.name == "runtime.NumGoroutine")=false) (ah:fn.body.isNone=true) (aa:Extern.findNext fn=none) (ae:Extern.find fn=some Extern.BytealgIndexByte.indexByte)
 {args:List V} {h ab:af} {v:V} (he:Bp.run args h=.val v ab) (aq:Fr) (E:Env) (w:World) (xs:List Value) (ak:a8 E args xs) (s:a1 aq E h w):
 ∃an x aj,(callFunc f xs.toArray).run P w=.ok (.value x) aj∧E.le an∧Rel an v x∧a1 aq an ab aj:=by
 obtain ⟨t,c,rfl,rfl,rfl⟩:=YC he
 obtain ⟨y,cA,rfl,au,z,jg,rfl,az,rfl⟩:=ak
 simp only [Rel] at au az
 subst au az
 exact ⟨E,_,w,Vj ar aS ah aa ae (Lib.run_indexByteString _ _ _),Env.le.refl E,by simp [Rel],s⟩
theorem Us {P:Program} {f:FuncId} (a7:Nat.beq f da=false) {v:V} (br:∀E x,x=.bool true→Rel E v x) (jU:∃fn,P.funcs[f]? =some fn∧fn.body.isSome=true) (H:∀w,Lay.ok w→Calls P f #[] w fun e aj=>e=.returned (.bool true)∧Below w.heap.size w aj) (h:af):
 gp P f [] h v h:=by
 refine ⟨fun e=>by subst e;simp at a7,.inl ⟨jU,fun aq E w xs ak s=>?_⟩⟩
 simp only [a8] at ak
 subst ak
 refine (H w (Lay.gS s.laid s.frame)).mono fun e aj q=>?_
 obtain ⟨rfl,ah⟩:=q
 exact ⟨E,_,rfl,fun _ _ q=>q,br E _ rfl,s.below ah⟩
noncomputable def qf (E:Env) (h:af) (p:iJ):Env:=fun b=>if b=ai h.next then some p else E b
theorem PZ (E:Env) (h:af) (p:iJ):qf E h p (ai h.next)=some p:=if_pos rfl
theorem Im {aq:Fr} {E:Env} {h:af} {w:World} (s:a1 aq E h w) (p:iJ):E.le (qf E h p):=fun b q av=>by
 unfold qf
 rw [if_neg (fun e=>by rw [e,s.fresh _ (Nat.le_refl _)] at av;cases av)]
 exact av
theorem ad1 {W:World} {E:Env} {h:af} (s:a1 ⟨W,fun _=>none⟩ E h W) (p:iJ) (k:b4) (aQ:k.own=false) (ay:hg W.heap.size (qf E h p) W (ai h.next) k):
 a1 ⟨W,fun _=>none⟩ (qf E h p) (h.new k) W:=by
 refine ⟨fun b _=>?_,fun _ _ h=>(by cases h),fun b bH q ew aa ae aP bl av=>?_,fun i aF=>?_,s.frame,s.laid,fun b q n cs st aa aP=>by
  rw [h1] at aa
  by_cases bL:ai h.next=b
  · rw [if_pos bL] at aa;rw [aa] at aQ;cases aQ
  · rw [if_neg bL] at aa
    unfold qf at aP
    rw [if_neg (fun e=>bL e.symm)] at aP
    exact s.base _ _ _ _ _ aa aP⟩
 · rw [h1]
   by_cases e:ai h.next=b
   · subst e
     rw [if_pos rfl]
     exact ay
   · rw [if_neg e]
     exact (s.bc b rfl).mono (Im s p)
 · rw [h1] at aa ae
   by_cases bL:ai h.next=b
   · rw [if_pos bL,aQ] at aa;cases aa
   · by_cases b0:ai h.next=bH
     · rw [if_pos b0,aQ] at ae;cases ae
     · rw [if_neg bL] at aa
       rw [if_neg b0] at ae
       unfold qf at aP bl
       rw [if_neg (fun e=>bL e.symm)] at aP
       rw [if_neg (fun e=>b0 e.symm)] at bl
       exact s.inj b bH q ew aa ae aP bl av
 · rw [fs] at aF
   unfold qf
   rw [if_neg (fun e=>by have:=dR e;omega)]
   exact s.fresh i (by omega)
theorem ad2 {W:World} {E:Env} {h:af} (s:a1 ⟨W,fun _=>none⟩ E h W) {k base cap:Nat} {c:Array Value} {el:TypeId} {bN:Nat × Nat} (ay:W.heap[k]? =some (.cells c el bN)) {ad:List V}
 (aD:base+ad.length≤c.size) (aG:∀i v y,ad[i]? =some v→c[base+i]? =some y→Rel E v y):
 a1 ⟨W,fun _=>none⟩ (qf E h ⟨k,base,cap⟩) (h.new (.ro ad)) W:=by
 refine ad1 s _ _ rfl ?_
 have aW:k<W.heap.size:=by
  by_cases aW:k<W.heap.size
  · exact aW
  · rw [Array.getElem?_eq_none (by omega)] at ay
    cases ay
 refine ⟨trivial,⟨k,base,cap⟩,c,el,bN,PZ _ _ _,aW,ay,aD,fun i y aF a7=>?_⟩
 have:T.get .bad (ai i) (dr .e 0 ad)=ad[i]:=by
  have:=E2 ad 0 i .e
  rw [Nat.zero_add] at this
  rw [this,if_pos aF,List.getElem?_eq_getElem aF]
  rfl
 rw [this]
 exact Rel.mono (Im s _) _ _ (aG i _ y (List.getElem?_eq_getElem aF) a7)
section
variable (P:Program)
def wU:List Field→Nat→Option Nat
 | [],o=>some o
 | f::b6,o=>if f.offset=o then wU b6 (o+P.cellsOf f.type) else none
def uF:Bool:=(List.range P.types.size).all fun t=>match P.underlying t with
 | some (.struct b6)=>decide (wU P b6.toList 0=some (P.cellsOf t))
 | _=>true
def dB (h:af):Nat→Nat→TypeId→List V→Prop
 | 0,_,_,_=>False
 | n+1,m,t,ad=>match P.underlying t with
   | some .bool=>∃b,ad=[.bool b]
   | some (.int k)=>∃i,ad=[.int k i]∧(Lit.int k i).wf=true
   | some .string=>∃s:List UInt8,ad=[.str s]∧s.length+1≤m
   | some (.slice e)=>1≤m∧(ad=[.cq]∨(∃b i j k,ad=[.hS b i j k])∨P.cellsOf e=0∨
      ∃b len cap,ad=[.slice b 0 len cap]∧0<len∧len≤cap∧Old h b∧∃us,Rd h b us∧us.length=len * P.cellsOf e∧∃ms:List Nat,ms.length=len∧ms.sum+1≤m∧
       ∀(i k:Nat),ms[i]? =some k→1≤k∧dB h n k e ((us.drop (i * P.cellsOf e)).take (P.cellsOf e)))
   | some (.struct b6)=>ad.length=P.cellsOf t∧∃ms:List Nat,ms.length=b6.toList.length∧ms.sum+1≤m∧∀(i:Nat) (f:Field) (k:Nat),b6.toList[i]? =some f→ms[i]? =some k→1≤k∧dB h n k f.type ((ad.drop f.offset).take (P.cellsOf f.type))
   | some (.pointer e)=>1≤m∧(ad=[.ns]∨P.cellsOf e=0∨∃b,ad=[.ptr b 0]∧Old h b∧∃us,Rd h b us∧us.length=P.cellsOf e∧∃k,k+1≤m∧dB h n k e us)
   | some (.map _ _)=>ad=[.kk]∨ad=[.bad]
   | some (.interface _)=>ad=[.nilIface]∨ad=[.bad]
   | _=>True
end
theorem dB.ext {P:Program} {h ab:af} (e:Ext h ab):∀(n m:Nat) (t:TypeId) (ad:List V),dB P h n m t ad→dB P ab n m t ad
 | 0,_,_,_,H=>H
 | n+1,m,t,ad,H=>by
   unfold dB at H ⊢
   split at H<;>try exact H
   · refine ⟨H.1,?_⟩
     rcases H.2 with H | H | H | ⟨b,len,cap,aa,ae,aH,cB,us,bX,b',ms,gG,g_,lh⟩
     · exact .inl H
     · exact .inr (.inl H)
     · exact .inr (.inr (.inl H))
     · exact .inr (.inr (.inr ⟨b,len,cap,aa,ae,aH,e.bY cB,us,e.rd cB bX,b',ms,gG,g_,fun i k ay=>⟨(lh i k ay).1,dB.ext e n _ _ _ (lh i k ay).2⟩⟩))
   · obtain ⟨aa,ms,ae,aH,bf⟩:=H
     exact ⟨aa,ms,ae,aH,fun i f k ar ay=>⟨(bf i f k ar ay).1,dB.ext e n _ _ _ (bf i f k ar ay).2⟩⟩
   · refine ⟨H.1,?_⟩
     rcases H.2 with H | H | ⟨b,aa,cB,us,bX,b',k,gG,g_⟩
     · exact .inl H
     · exact .inr (.inl H)
     · exact .inr (.inr ⟨b,aa,e.bY cB,us,e.rd cB bX,b',k,gG,dB.ext e n _ _ _ g_⟩)
mutual
def fG {H:Type}:DataW H→Nat
 | .lit (.string bytes)=>bytes.length+1
 | .lit _=>1
 | .nil=>1
 | .ptr d=>fG d+1
 | .slice elems spare=>lF elems+lF spare+1
 | .agg parts=>lF parts+1
 | .iface _ d=>fG d+1
 | .map entries=>z6 entries+1
 | .held _=>1
def lF {H:Type}:List (DataW H)→Nat
 | []=>0
 | d::r=>fG d+lF r
def z6 {H:Type}:List (Lit × DataW H)→Nat
 | []=>0
 | x::r=>DI x+z6 r
def DI {H:Type}:Lit × DataW H→Nat
 | (.string bytes,d)=>bytes.length+fG d+1
 | (_,d)=>fG d+1
end
theorem qy {H:Type} (d:DataW H):1≤fG d:=by
 cases d with
 | lit l=>cases l<;>simp [fG]
 | _=>simp [fG]
theorem DH {H:Type}:∀l:List (DataW H),lF l=(l.map fG).sum
 | []=>by simp [lF]
 | d::r=>by simp only [lF,List.map_cons,List.sum_cons,DH r]
theorem Ab {w:World} {base:Nat} {a:Addr} {n:Nat} {l:List Value} (h:w.cells? base a n=some l):l.length=n∧∀i,i<n→w.cell? (a.add i)=l[i]? :=by
 unfold World.cells? at h
 split at h
 · exact ⟨by simpa using mapM_some_length h,fun i aF=>mapM_some_get h i i (by simp [aF])⟩
 · cases h
theorem OJ {E an:Env} (he:E.le an) {ad:List V} {l:List Value} (H:a8 E ad l):a8 an ad l:=a8.mono he ad l H
section
variable {H:Type} {enc:TypeId × Value→H} {P:Program} {W:World} {base:Nat} {sp:Nat→Bool} {held:Bool}
def Lays (P:Program) (W:World) (n m:Nat) (t:TypeId) (cs:List Value):Prop:=
 ∀(E:Env) (h:af),a1 ⟨W,fun _=>none⟩ E h W→∃an ab ad,E.le an∧Ext h ab∧a1 ⟨W,fun _=>none⟩ an ab W∧a8 an ad cs∧ad.length=cs.length∧dB P ab n m t ad
theorem MN (n size:Nat) (e:TypeId):∀(pieces:List (List Value)) (ms:List Nat),ms.length=pieces.length→(∀(i:Nat) (l:List Value) (k:Nat),pieces[i]? =some l→ms[i]? =some k→l.length=size∧Lays P W n k e l)→
 ∀(E:Env) (h:af),a1 ⟨W,fun _=>none⟩ E h W→∃an ab us,E.le an∧Ext h ab∧a1 ⟨W,fun _=>none⟩ an ab W∧a8 an us pieces.flatten∧us.length=pieces.length * size∧
  ∀(i k:Nat),ms[i]? =some k→dB P ab n k e ((us.drop (i * size)).take size)
 | [],[],_,_,E,h,s=>⟨E,h,[],fun _ _ q=>q,Ext.refl h,s,rfl,by simp,fun i k aF=>by simp at aF⟩
 | [],_::_,ao,_,_,_,_=>by simp at ao
 | _::_,[],ao,_,_,_,_=>by simp at ao
 | l::ls,m::ms,k8,ag,E,h,s=>by
   obtain ⟨ao,H⟩:=ag 0 l m rfl rfl
   obtain ⟨eX,aa,ad,bE,a2,a3,a4,a5,jl⟩:=H E h s
   obtain ⟨b9,ae,us,cx,cn,hZ,kZ,lE,rM⟩:=MN n size e ls ms (by simpa using k8) (fun i l k au az=>ag (i+1) l k (by simpa using au) (by simpa using az)) eX aa a3
   refine ⟨b9,ae,ad++us,bE.trans cx,a2.trans cn,hZ,?_,?_,?_⟩
   · rw [List.flatten_cons]
     exact a8.append (OJ cx a4) kZ
   · rw [List.length_append,lE,a5,ao,List.length_cons,Nat.add_mul]
     omega
   · intro i k aF
     cases i with
     | zero=>
       rw [Nat.zero_mul,List.drop_zero,List.take_left' (by rw [a5,ao])]
       simp only [List.getElem?_cons_zero,Option.some.injEq] at aF
       subst aF
       exact dB.ext cn _ _ _ _ jl
     | succ i=>
       rw [Nat.add_mul,Nat.one_mul,Nat.add_comm,←List.drop_drop,List.drop_left' (by rw [a5,ao])]
       exact rM i k (by simpa using aF)
theorem MM (n:Nat):∀(b6:List Field) (ms:List Nat) (o b1:Nat) (cs:List Value),wU P b6 o=some b1→cs.length=b1→ms.length=b6.length→(∀(i:Nat) (f:Field) (k:Nat),b6[i]? =some f→ms[i]? =some k→Lays P W n k f.type ((cs.drop f.offset).take (P.cellsOf f.type)))→
 o≤b1∧∀(E:Env) (h:af),a1 ⟨W,fun _=>none⟩ E h W→∃an ab ad,E.le an∧Ext h ab∧a1 ⟨W,fun _=>none⟩ an ab W∧a8 an ad (cs.drop o)∧ad.length=b1-o∧
  ∀(i:Nat) (f:Field) (k:Nat),b6[i]? =some f→ms[i]? =some k→o≤f.offset∧dB P ab n k f.type ((ad.drop (f.offset-o)).take (P.cellsOf f.type))
 | [],_::_,_,_,_,_,_,k8,_=>by simp at k8
 | _::_,[],_,_,_,_,_,k8,_=>by simp at k8
 | [],[],o,b1,cs,ax,ao,_,_=>by
   simp only [wU,Option.some.injEq] at ax
   subst ax
   refine ⟨Nat.le_refl _,fun E h s=>⟨E,h,[],fun _ _ q=>q,Ext.refl h,s,?_,by simp,fun i f k ar=>by simp at ar⟩⟩
   rw [List.drop_eq_nil_of_le (by omega)]
   rfl
 | f::b6,m::ms,o,b1,cs,ax,ao,k8,ag=>by
   simp only [wU] at ax
   by_cases ar:f.offset=o
   · rw [if_pos ar] at ax
     obtain ⟨g1,g2⟩:=MM n b6 ms (o+P.cellsOf f.type) b1 cs ax ao (by simpa using k8) (fun i f k au az=>ag (i+1) f k (by simpa using au) (by simpa using az))
     refine ⟨by omega,fun E h s=>?_⟩
     have tP:=ag 0 f m rfl rfl
     obtain ⟨eX,aa,ad,bE,a2,a3,a4,a5,jl⟩:=tP E h s
     obtain ⟨b9,ae,us,cx,cn,hZ,kZ,lE,rM⟩:=g2 eX aa a3
     have ni:ad.length=P.cellsOf f.type:=by rw [a5,List.length_take,List.length_drop,ar];omega
     refine ⟨b9,ae,ad++us,bE.trans cx,a2.trans cn,hZ,?_,?_,?_⟩
     · have e:cs.drop o=(cs.drop f.offset).take (P.cellsOf f.type)++cs.drop (o+P.cellsOf f.type):=by
        rw [ar,←List.drop_drop,List.take_append_drop]
       rw [e]
       exact a8.append (OJ cx a4) kZ
     · rw [List.length_append,ni,lE]
       omega
     · intro i g k aE ay
       cases i with
       | zero=>
         simp only [List.getElem?_cons_zero,Option.some.injEq] at aE ay
         subst aE ay
         refine ⟨by omega,?_⟩
         rw [ar,Nat.sub_self,List.drop_zero,List.take_left' ni]
         exact dB.ext cn _ _ _ _ jl
       | succ i=>
         obtain ⟨bL,b0⟩:=rM i g k (by simpa using aE) (by simpa using ay)
         refine ⟨by omega,?_⟩
         rw [show g.offset-o=P.cellsOf f.type + (g.offset - (o+P.cellsOf f.type)) from by omega,←List.drop_drop,List.drop_left' ni]
         exact b0
   · rw [if_neg ar] at ax
     cases ax
theorem JT {w:World} {a:Addr} {y:Value} (h:w.cell? a=some y):a.spot=none∧∃c el bN,w.heap[a.block]? =some (.cells c el bN)∧c[a.off]? =some y:=by
 refine ⟨World.cell?_spot h,?_⟩
 unfold World.cell? at h
 split at h
 · rename_i c el bN ba
   split at h
   · cases h
   · exact ⟨c,el,bN,ba,h⟩
 · cases h
theorem Rm (a:Addr) (n:Nat):(a.add n).block=a.block:=by unfold Addr.add;split<;>rfl
theorem Rn (a:Addr) (n:Nat):(a.add n).off=a.off+n:=by unfold Addr.add;split<;>simp_all
theorem adG {w:World} {a:Addr} {l:List Value} (a6:0<l.length) (h:∀i,i<l.length→w.cell? (a.add i)=l[i]?):
 a.spot=none∧∃c el bN,w.heap[a.block]? =some (.cells c el bN)∧a.off+l.length≤c.size∧∀i,i<l.length→c[a.off+i]? =l[i]? :=by
 have AV:w.cell? (a.add 0)=some l[0]:=by rw [h 0 a6];exact List.getElem?_eq_getElem a6
 obtain ⟨s1,c,el,bN,s2,kQ⟩:=JT AV
 have cR:a.add 0=a:=by unfold Addr.add;simp
 rw [cR] at s1 s2 kQ
 have key:∀i,i<l.length→c[a.off+i]? =l[i]? :=by
  intro i aF
  have q:=h i aF
  rw [List.getElem?_eq_getElem aF] at q ⊢
  obtain ⟨_,hi,afX,afZ,t2,t3⟩:=JT q
  rw [Rm,s2] at t2
  rw [Rn] at t3
  simp only [Option.some.injEq,Obj.cells.injEq] at t2
  obtain ⟨rfl,_,_⟩:=t2
  exact t3
 refine ⟨s1,c,el,bN,s2,?_,key⟩
 have:=key (l.length-1) (by omega)
 rw [List.getElem?_eq_getElem (by omega)] at this
 have aW:=(Array.getElem?_eq_some_iff.1 this).1
 omega
theorem P0 {E:Env} {h:af} (s:a1 ⟨W,fun _=>none⟩ E h W) {a:Addr} {cap:Nat} {l:List Value} (a6:0<l.length) (aD:∀i,i<l.length→W.cell? (a.add i)=l[i]?) {us:List V} (aG:a8 E us l):
 ∃an ab b,E.le an∧Ext h ab∧a1 ⟨W,fun _=>none⟩ an ab W∧Old ab b∧a.spot=none∧an b=some ⟨a.block,a.off,cap⟩∧Rd ab b us:=by
 obtain ⟨s1,c,el,bN,s2,kQ,sz⟩:=adG a6 aD
 have L5:us.length=l.length:=(a8.length aG).symm
 refine ⟨qf E h ⟨a.block,a.off,cap⟩,h.new (.ro us),ai h.next,Im s _,(Ext.refl h).new _,ad2 s s2 (by omega) fun i v y br a7=>?_,NF,s1,PZ _ _ _,.inl (m' _)⟩
 have aF:i<l.length:=by
  have:=(List.getElem?_eq_some_iff.1 br).1
  omega
 rw [sz i aF] at a7
 obtain ⟨uK,aP,bl⟩:=a8.get aG i v br
 rw [a7] at aP
 simp only [Option.some.injEq] at aP
 rw [aP]
 exact bl
theorem KP {α:Type} (size:Nat):∀(pieces:List (List α)) (i j:Nat),(∀l ∈ pieces,l.length=size)→i<pieces.length→j<size→pieces.flatten[i * size+j]? =(pieces[i]?).bind (·[j]?)
 | [],i,j,_,aF,_=>by simp at aF
 | l::ls,i,j,ag,aF,bK=>by
   have ao:l.length=size:=ag l (by simp)
   cases i with
   | zero=>
     rw [Nat.zero_mul,Nat.zero_add,List.flatten_cons,List.getElem?_append_left (by omega)]
     simp
   | succ i=>
     rw [List.flatten_cons,List.getElem?_append_right (by rw [ao,Nat.add_mul];omega)]
     rw [show (i+1) * size+j-l.length=i * size+j from by rw [ao,Nat.add_mul];omega]
     rw [KP size ls i j (fun l ao=>ag l (by simp [ao])) (by simpa using aF) bK]
     simp
theorem KR {α:Type} (size:Nat):∀(pieces:List (List α)),(∀l ∈ pieces,l.length=size)→pieces.flatten.length=pieces.length * size
 | [],_=>by simp
 | l::ls,ag=>by
   rw [List.flatten_cons,List.length_append,KR size ls (fun l ao=>ag l (by simp [ao])),ag l (by simp),List.length_cons,Nat.add_mul]
   omega
theorem NX {α:Type} (R:Nat→α→Prop):∀(len:Nat),(∀i,i<len→∃l,R i l)→∃a_:List α,a_.length=len∧∀i l,a_[i]? =some l→R i l
 | 0,_=>⟨[],rfl,fun i l q=>by simp at q⟩
 | m+1,h=>by
   obtain ⟨a_,au,az⟩:=NX R m (fun i aF=>h i (by omega))
   obtain ⟨l,aa⟩:=h m (by omega)
   refine ⟨a_++[l],by simp [au],fun i cE hl=>?_⟩
   by_cases aF:i<a_.length
   · rw [List.getElem?_append_left aF] at hl
     exact az i cE hl
   · rw [List.getElem?_append_right (by omega)] at hl
     have cR:i-a_.length=0:=by
      by_cases q:i-a_.length=0
      · exact q
      · rw [List.getElem?_eq_none (by simp;omega)] at hl
        cases hl
     rw [cR] at hl
     simp at hl
     subst hl
     obtain rfl:i=m:=by omega
     exact aa
theorem Bx (d_:uF P=true) (eO:laidOutB P=true):∀(n:Nat) (t:TypeId) (cs:List Value) (x:DataW H × List MemPlace),t<P.types.size→DataW.trod enc P W base sp held n t cs=some x→Lays P W n (fG x.1) t cs
 | 0,t,cs,x,_,h=>by simp [DataW.trod] at h
 | n+1,t,cs,x,aW,h=>by
   have zW:∀(cs:List Value),(∀ab ad,ad.length=cs.length→dB P ab (n+1) (fG x.1) t ad)→Lays P W (n+1) (fG x.1) t cs:=by
    intro cs H E h s
    refine ⟨E,h,cs.map fun _=>.bad,fun _ _ q=>q,Ext.refl h,s,?_,by simp,H _ _ (by simp)⟩
    clear H
    induction cs with
    | nil=>rfl
    | cons c cs bj=>exact ⟨c,cs,rfl,by simp [Rel],bj⟩
   cases hu:P.underlying t with
   | none=>
     refine zW cs fun ab ad _=>?_
     simp only [dB,hu]
   | some u=>
     cases u with
     | bool=>
       obtain ⟨b,rfl,_⟩:=DataW.trod_bool hu h
       intro E h s
       exact ⟨E,h,[.bool b],fun _ _ q=>q,Ext.refl h,s,⟨_,_,rfl,rfl,rfl⟩,rfl,by simp only [dB,hu];exact ⟨b,rfl⟩⟩
     | int k=>
       obtain ⟨i,rfl,_,hw⟩:=DataW.trod_int hu h
       intro E h s
       exact ⟨E,h,[.int k i],fun _ _ q=>q,Ext.refl h,s,⟨_,_,rfl,rfl,rfl⟩,rfl,by simp only [dB,hu];exact ⟨i,rfl,hw⟩⟩
     | string=>
       obtain ⟨b,rfl,rfl,_⟩:=DataW.trod_string hu h
       intro E h s
       exact ⟨E,h,[.str b.data.toList],fun _ _ q=>q,Ext.refl h,s,⟨_,_,rfl,rfl,rfl⟩,rfl,by simp only [dB,hu,fG];exact ⟨_,rfl,Nat.le_refl _⟩⟩
     | struct b6=>
       obtain ⟨xs,im,aS,rfl,ao,v',ar⟩:=DataW.trod_struct hu h
       obtain rfl:n=im:=by omega
       have X7:wU P b6.toList 0=some (P.cellsOf t):=by
        unfold uF at d_
        rw [List.all_eq_true] at d_
        have:=d_ t (List.mem_range.2 aW)
        rw [hu] at this
        exact of_decide_eq_true this
       have pL:∀(i:Nat) (f:Field) (k:Nat),b6.toList[i]? =some f→(xs.map fun x=>fG x.1)[i]? =some k→Lays P W n k f.type ((cs.drop f.offset).take (P.cellsOf f.type)):=by
        intro i f k aF ay
        have nP:f ∈ b6.toList:=List.mem_of_getElem? aF
        have tE:b6[i]? =some f:=by simpa using aF
        have:=ar i f tE
        have LA:i<xs.length:=by
         rw [v']
         exact (Array.getElem?_eq_some_iff.1 tE).1
        rw [List.getElem?_eq_getElem LA] at this
        rw [List.getElem?_map,List.getElem?_eq_getElem LA,Option.map_some,Option.some.injEq] at ay
        subst ay
        exact Bx d_ eO n _ _ _ ((kid_struct eO aW hu).1 f nP) this
       intro E h s
       obtain ⟨_,g⟩:=MM n b6.toList (xs.map fun x=>fG x.1) 0 _ cs X7 ao (by simp [v']) pL
       obtain ⟨an,ab,ad,bE,a2,a3,a4,a5,jl⟩:=g E h s
       refine ⟨an,ab,ad,bE,a2,a3,by simpa using a4,by rw [a5,ao];omega,?_⟩
       simp only [dB,hu]
       refine ⟨by omega,xs.map fun x=>fG x.1,by simp [v'],?_,fun i f k nP ay=>⟨?_,by simpa using (jl i f k nP ay).2⟩⟩
       · simp only [fG,DH,List.map_map]
         exact Nat.le_refl _
       · rw [List.getElem?_map,Option.map_eq_some_iff] at ay
         obtain ⟨y,_,rfl⟩:=ay
         exact qy _
     | slice e=>
       rcases DataW.trod_slice hu h with ⟨rfl,rfl⟩ | ⟨a,len,cap,elems,rest,im,aS,rfl,rfl,ah,qM,_,Ln,W',_,_⟩
       · intro E h s
         exact ⟨E,h,[.cq],fun _ _ q=>q,Ext.refl h,s,⟨_,_,rfl,rfl,rfl⟩,rfl,by simp only [dB,hu];exact ⟨qy _,.inl trivial⟩⟩
       · obtain rfl:n=im:=by omega
         by_cases aO:P.cellsOf e=0
         · refine zW _ fun ab ad _=>?_
           simp only [dB,hu]
           exact ⟨qy _,.inr (.inr (.inl aO))⟩
         by_cases ng:len=0
         · subst ng
           intro E h s
           refine ⟨E,h,[.hS .z 0 0 0],fun _ _ q=>q,Ext.refl h,s,⟨_,_,rfl,?_,rfl⟩,rfl,by simp only [dB,hu];exact ⟨qy _,.inr (.inl ⟨_,_,_,_,rfl⟩)⟩⟩
           simp only [Rel]
           exact ⟨_,_,rfl⟩
         · -- its elements
           have iP:∀i,i<len→∃l,W.cells? base (a.add (i * P.cellsOf e)) (P.cellsOf e)=some l∧∀k:Nat,(elems.map fun x=>fG x.1)[i]? =some k→Lays P W n k e l:=by
            intro i aF
            have:=W' i aF
            rw [List.getElem?_eq_getElem (by omega)] at this
            rw [Option.bind_eq_some_iff] at this
            obtain ⟨l,aa,ae⟩:=this
            refine ⟨l,aa,fun k ay=>?_⟩
            rw [List.getElem?_map,List.getElem?_eq_getElem (by omega),Option.map_some,Option.some.injEq] at ay
            subst ay
            exact Bx d_ eO n _ _ _ (kid_slice eO aW hu) ae
           obtain ⟨pieces,il,hN⟩:∃pieces:List (List Value),pieces.length=len∧∀i (l:List Value),pieces[i]? =some l→W.cells? base (a.add (i * P.cellsOf e)) (P.cellsOf e)=some l∧∀k:Nat,(elems.map fun x=>fG x.1)[i]? =some k→Lays P W n k e l:=by
            exact NX (fun i l=>W.cells? base (a.add (i * P.cellsOf e)) (P.cellsOf e)=some l∧∀k:Nat,(elems.map fun x=>fG x.1)[i]? =some k→Lays P W n k e l) len iP
           have jv:∀(i:Nat) (l:List Value) (k:Nat),pieces[i]? =some l→(elems.map fun x=>fG x.1)[i]? =some k→l.length=P.cellsOf e∧Lays P W n k e l:=by
            intro i l k aF ay
            obtain ⟨au,az⟩:=hN i l aF
            exact ⟨(Ab au).1,az k ay⟩
           have LP:∀l ∈ pieces,l.length=P.cellsOf e:=by
            intro l ao
            obtain ⟨i,aF⟩:=List.getElem?_of_mem ao
            exact (Ab (hN i l aF).1).1
           intro E h s
           obtain ⟨eX,aa,us,bE,a2,a3,a4,a5,jl⟩:=MN n (P.cellsOf e) e pieces (elems.map fun x=>fG x.1) (by simp [Ln,il]) jv E h s
           have pL:=KR (P.cellsOf e) pieces LP
           have x5:0<len * P.cellsOf e:=Nat.mul_pos (by omega) (by omega)
           have tv:∀i,i<pieces.flatten.length→W.cell? (a.add i)=pieces.flatten[i]? :=by
            intro q av
            rw [pL] at av
            have LI:q % P.cellsOf e<P.cellsOf e:=Nat.mod_lt _ (by omega)
            have hdiv:q / P.cellsOf e<pieces.length:=Nat.div_lt_of_lt_mul (by rw [Nat.mul_comm];exact av)
            have vQ:q / P.cellsOf e * P.cellsOf e+q % P.cellsOf e=q:=by rw [Nat.mul_comm];exact Nat.div_add_mod q _
            rw [←vQ,KP (P.cellsOf e) pieces _ _ LP hdiv LI,List.getElem?_eq_getElem hdiv]
            obtain ⟨au,_⟩:=hN _ _ (List.getElem?_eq_getElem hdiv)
            have:=(Ab au).2 _ LI
            rw [Option.bind_some,←this]
            congr 1
            unfold Addr.add
            by_cases cm:q / P.cellsOf e * P.cellsOf e=0
            · rw [cm];simp
            · by_cases z2:q % P.cellsOf e=0
              · rw [z2];simp
              · have z3:¬(q / P.cellsOf e * P.cellsOf e+q % P.cellsOf e=0):=by omega
                rw [if_neg cm,if_neg z2,if_neg z3]
                simp [Nat.add_assoc]
           obtain ⟨b9,ae,b,cx,cn,hZ,kZ,lE,rM,DB⟩:=P0 a3 (cap:=cap) (by rw [pL,il];exact x5) tv a4
           refine ⟨b9,ae,[.slice b 0 len cap],bE.trans cx,a2.trans cn,hZ,⟨_,_,rfl,?_,rfl⟩,rfl,?_⟩
           · simp only [Rel]
             refine ⟨_,rM,qM,?_⟩
             obtain ⟨DD,ab3,st⟩:=a
             simp only at lE
             subst lE
             rfl
           · simp only [dB,hu]
             refine ⟨qy _,.inr (.inr (.inr ⟨b,len,cap,rfl,by omega,qM,kZ,us,DB,by rw [a5,il],elems.map fun x=>fG x.1,by simp [Ln],?_,fun i k ay=>⟨?_,dB.ext cn _ _ _ _ (jl i k ay)⟩⟩))⟩
             · simp only [fG,DH,List.map_map]
               exact Nat.add_le_add_right (Nat.le_add_right _ _) 1
             · rw [List.getElem?_map,Option.map_eq_some_iff] at ay
               obtain ⟨y,_,rfl⟩:=ay
               exact qy _
     | pointer e=>
       rcases DataW.trod_pointer hu h with ⟨rfl,rfl⟩ | ⟨a,s',y,im,aS,rfl,rfl,aD,a7⟩
       · intro E h s
         exact ⟨E,h,[.ns],fun _ _ q=>q,Ext.refl h,s,⟨_,_,rfl,rfl,rfl⟩,rfl,by simp only [dB,hu];exact ⟨qy _,.inl trivial⟩⟩
       · obtain rfl:n=im:=by omega
         by_cases aO:P.cellsOf e=0
         · refine zW _ fun ab ad _=>?_
           simp only [dB,hu]
           exact ⟨qy _,.inr (.inl aO)⟩
         · intro E h s
           obtain ⟨au,az⟩:=Ab aD
           obtain ⟨eX,aa,us,bE,a2,a3,a4,a5,jl⟩:=Bx d_ eO n _ _ _ (kid_pointer eO aW hu) a7 E h s
           obtain ⟨b9,ae,b,cx,cn,hZ,kZ,lE,rM,DB⟩:=P0 a3 (cap:=0) (by omega) (fun i aF=>az i (by omega)) a4
           refine ⟨b9,ae,[.ptr b 0],bE.trans cx,a2.trans cn,hZ,⟨_,_,rfl,?_,rfl⟩,rfl,?_⟩
           · simp only [Rel]
             refine ⟨_,rM,?_⟩
             obtain ⟨DD,ab3,st⟩:=a
             simp only at lE
             subst lE
             rfl
           · simp only [dB,hu]
             exact ⟨qy _,.inr (.inr ⟨b,rfl,kZ,us,DB,by omega,_,Nat.le_refl _,dB.ext cn _ _ _ _ jl⟩)⟩
     | map k e=>
       have h4:cs.length=1:=by
        unfold DataW.trod at h
        rw [hu] at h
        split at h<;>simp_all
       intro E h s
       refine ⟨E,h,[.bad],fun _ _ q=>q,Ext.refl h,s,?_,by simp [h4],by simp only [dB,hu];exact .inr trivial⟩
       match cs,h4 with
       | [c],_=>exact ⟨c,[],rfl,by simp [Rel],rfl⟩
     | interface ms=>
       have h4:cs.length=1:=by
        unfold DataW.trod at h
        rw [hu] at h
        split at h<;>simp_all
       intro E h s
       refine ⟨E,h,[.bad],fun _ _ q=>q,Ext.refl h,s,?_,by simp [h4],by simp only [dB,hu];exact .inr trivial⟩
       match cs,h4 with
       | [c],_=>exact ⟨c,[],rfl,by simp [Rel],rfl⟩
     | _=>
       refine zW cs fun ab ad _=>?_
       simp only [dB,hu]
def pw (P:Program) (h:af) (n m:Nat) (t:TypeId) (v:V):Prop:=
 match P.underlying t with
 | some (.struct _) | some (.array _ _)=>∃ad,v=.agg ad∧dB P h n m t ad
 | _=>dB P h n m t [v]
theorem pw.ext {h ab:af} (e:Ext h ab) {n m:Nat} {t:TypeId} {v:V} (H:pw P h n m t v):pw P ab n m t v:=by
 unfold pw at H ⊢
 split at H
 · obtain ⟨ad,au,az⟩:=H
   exact ⟨ad,au,dB.ext e _ _ _ _ az⟩
 · obtain ⟨ad,au,az⟩:=H
   exact ⟨ad,au,dB.ext e _ _ _ _ az⟩
 · exact dB.ext e _ _ _ _ H
theorem aaS (d_:uF P=true) (eO:laidOutB P=true) {r:Reach} {s4:Nat} {t:TypeId} {v:Value} {d:DataW H} {p:List MemPlace} (aW:t<P.types.size) (bA:Value.okWide P W r s4 t v) (aX:DataW.Trod enc P W base sp held t v d p) {E:Env} {h:af} (s:a1 ⟨W,fun _=>none⟩ E h W):
 ∃n an ab x,E.le an∧Ext h ab∧a1 ⟨W,fun _=>none⟩ an ab W∧Rel an x v∧pw P ab n (fG d) t x:=by
 obtain ⟨fuel,ar⟩:=aX
 obtain ⟨an,ab,ad,bE,a2,a3,a4,a5,jl⟩:=Bx d_ eO _ _ _ _ aW ar E h s
 have agg:(∃cs,v=.agg cs)→∃x,Rel an x v∧x=.agg ad:=by
  rintro ⟨cs,rfl⟩
  exact ⟨.agg ad,by simp only [Rel];exact ⟨cs,rfl,a4⟩,rfl⟩
 have one:v.cells=#[v]→∃x,Rel an x v∧ad=[x]:=by
  intro aD
  rw [aD] at a4 a5
  match ad,a4,a5 with
  | [x],⟨y,cA,aP,bl,bW⟩,_=>
    simp only [List.cons.injEq] at aP
    exact ⟨x,aP.1 ▸ bl,rfl⟩
 refine ⟨fuel,an,ab,?_⟩
 unfold Value.okWide at bA
 cases hu:P.underlying t with
 | none=>
   rw [hu] at bA
   simp only [Cell.okWide,Cell.ok,hu] at bA
 | some u=>
   rw [hu] at bA
   unfold pw
   rw [hu]
   cases u<;>simp only at bA ⊢<;>first
    | (obtain ⟨cs,br,_⟩:=bA
       obtain ⟨x,au,az⟩:=agg ⟨cs,br⟩
       exact ⟨x,bE,a2,a3,au,ad,az,jl⟩)
    | (have aD:v.cells=#[v]:=by
        cases v<;>first
         | rfl
         | (simp only [Cell.okWide,Cell.ok,hu] at bA)
       obtain ⟨x,au,az⟩:=one aD
       exact ⟨x,bE,a2,a3,au,az ▸ jl⟩)
def mT (P:Program) (h:af):Nat→List TypeId→List V→Prop
 | _,[],[]=>True
 | m,t::cr,v::ad=>∃k bp,k+bp≤m∧(∃n,pw P h n k t v)∧mT P h bp cr ad
 | _,_,_=>False
theorem mT.mono {h:af}:∀{m b3:Nat} {cr:List TypeId} {ad:List V},m≤b3→mT P h m cr ad→mT P h b3 cr ad
 | _,_,[],[],_,H=>by unfold mT;trivial
 | _,_,[],_::_,_,H=>H.elim
 | _,_,_::_,[],_,H=>H.elim
 | _,_,_::_,_::_,hm,⟨k,bp,ay,H,kV⟩=>⟨k,bp,Nat.le_trans ay hm,H,kV⟩
theorem ML (d_:uF P=true) (eO:laidOutB P=true) {r:Reach} {s4:Nat}:∀{cr:List TypeId} {ad:List Value} {ds:List (DataW H)} {p:List MemPlace},(∀t ∈ cr,t<P.types.size)→(∀(j:Nat) t v,cr[j]? =some t→ad[j]? =some v→Value.okWide P W r s4 t v)→
 DataW.TrodAll enc P W base sp held cr ad ds p→∀{E:Env} {h:af},a1 ⟨W,fun _=>none⟩ E h W→∃an ab xs,E.le an∧Ext h ab∧a1 ⟨W,fun _=>none⟩ an ab W∧a8 an xs ad∧mT P ab (lF ds) cr xs
 | [],[],ds,p,_,_,_,E,h,s=>⟨E,h,[],fun _ _ q=>q,Ext.refl h,s,rfl,by unfold mT;trivial⟩
 | [],_::_,ds,p,_,_,aX,E,h,s=>by cases ds<;>exact aX.elim
 | _::_,[],ds,p,_,_,aX,E,h,s=>by cases ds<;>exact aX.elim
 | _::_,_::_,[],p,_,_,aX,E,h,s=>aX.elim
 | t::cr,v::ad,d::ds,p,ax,br,⟨bu,bB,aa,ae,_⟩,E,h,s=>by
   obtain ⟨n,eX,g1,x,bE,a2,a3,a4,a5⟩:=aaS d_ eO (ax t (by simp)) (br 0 t v rfl rfl) aa s
   obtain ⟨b9,g2,xs,cx,cn,hZ,kZ,lE⟩:=ML d_ eO (fun t q=>ax t (by simp [q])) (fun j t v au az=>br (j+1) t v (by simpa using au) (by simpa using az)) ae a3
   exact ⟨b9,g2,x::xs,bE.trans cx,a2.trans cn,hZ,⟨_,_,rfl,Rel.mono cx _ _ a4,kZ⟩,fG d,lF ds,by simp only [lF];exact Nat.le_refl _,⟨n,a5.ext cn⟩,lE⟩
theorem T5 (d_:uF P=true) (eO:laidOutB P=true) {r:Reach} {s4:Nat} {f:FuncId} {cr:List TypeId} {ad:List Value} {ds:List (DataW H)} {p:List MemPlace} (fm:∀t ∈ cr,t<P.types.size) (br:∀(j:Nat) t v,cr[j]? =some t→ad[j]? =some v→Value.okWide P W r s4 t v)
 (aX:DataW.TrodAll enc P W base sp held cr ad ds p) (vw:Lay.ok W) (bD:eI P) (ah:∃fn,P.funcs[f]? =some fn∧fn.body.isSome=true) (aD:∀(h:af) (xs:List V),mT P h (lF ds) cr xs→b_ P f xs h fun y _=>y=.bool true):
 Calls P f ad.toArray W fun e aj=>e=.returned (.bool true)∧Below W.heap.size W aj:=by
 obtain ⟨E,h,xs,_,_,a3,a4,a5⟩:=ML d_ eO fm br aX (Pb W vw)
 obtain ⟨y,ab,oN,rfl⟩:=aD h xs a5
 refine (oN.calls bD ah _ E W ad a4 a3).mono fun e aj q=>?_
 obtain ⟨an,x,rfl,_,az,aM⟩:=q
 simp only [Rel] at az
 subst az
 exact ⟨rfl,aM.frame⟩
end
end Go.Proofs.YthemdhlheglhoaaGreatDoor.aY
namespace Go.Proofs.YthemdhlheglhoaaGreatDoor.aY
variable [Lay]
open Go Go.RowKit
section
variable {P:Program} {h:af} {n m:Nat} {t:TypeId}
theorem dB.pos {ad:List V} (H:dB P h n m t ad):∃k,n=k+1:=by
 cases n with
 | zero=>exact H.elim
 | succ m=>exact ⟨m,rfl⟩
theorem dB.int {ad:List V} {k:IntKind} (H:dB P h n m t ad) (hu:P.underlying t=some (.int k)):∃i,ad=[.int k i]∧(Lit.int k i).wf=true:=by
 obtain ⟨m,rfl⟩:=H.pos
 simpa only [dB,hu] using H
theorem dB.str {ad:List V} (H:dB P h n m t ad) (hu:P.underlying t=some .string):∃s:List UInt8,ad=[.str s]∧s.length+1≤m:=by
 obtain ⟨_,rfl⟩:=H.pos
 simpa only [dB,hu] using H
theorem dB.struct {ad:List V} {b6:Array Field} (H:dB P h n m t ad) (hu:P.underlying t=some (.struct b6)):∃im,n=im+1∧ad.length=P.cellsOf t∧∃ms:List Nat,ms.length=b6.toList.length∧ms.sum+1≤m∧
 ∀(i:Nat) (f:Field) (k:Nat),b6.toList[i]? =some f→ms[i]? =some k→1≤k∧dB P h im k f.type ((ad.drop f.offset).take (P.cellsOf f.type)):=by
 obtain ⟨im,rfl⟩:=H.pos
 refine ⟨im,rfl,?_⟩
 simpa only [dB,hu] using H
def y_ (v:V):Prop:=∀b off l c,v=.slice b off l c→l≤c
def I8 (h:af) (size:Nat) (v:V) (len m:Nat) (Q:Nat→List V→Prop):Prop:=
 v.one=true∧v.cells=[v]∧v.gb=true∧mD v=some (.int .i64 len)∧y_ v∧∃(us:List V) (ms:List Nat),hJ h size v len us∧ms.length=len∧ms.sum+1≤m∧∀(i k:Nat),ms[i]? =some k→1≤k∧Q k ((us.drop (i * size)).take size)
theorem dB.slice {ad:List V} {e:TypeId} (H:dB P h n m t ad) (hu:P.underlying t=some (.slice e)) (aO:P.cellsOf e≠0):∃im v len,n=im+1∧ad=[v]∧I8 h (P.cellsOf e) v len m (fun k=>dB P h im k e):=by
 obtain ⟨im,rfl⟩:=H.pos
 simp only [dB,hu] at H
 obtain ⟨a6,H⟩:=H
 rcases H with rfl | ⟨b,i,j,k,rfl⟩ | q | ⟨b,len,cap,rfl,aa,ae,bf,us,bX,b',ms,gG,g_,lh⟩
 · exact ⟨im,_,0,rfl,rfl,rfl,rfl,rfl,rfl,(fun _ _ _ _ e=>by cases e),[],[],⟨by simp,rfl⟩,rfl,by simpa using a6,fun i k aF=>by simp at aF⟩
 · exact ⟨im,_,0,rfl,rfl,rfl,rfl,rfl,rfl,(fun _ _ _ _ e=>by cases e),[],[],⟨by simp,rfl⟩,rfl,by simpa using a6,fun i k aF=>by simp at aF⟩
 · exact absurd q aO
 · exact ⟨im,_,len,rfl,rfl,rfl,rfl,rfl,rfl,(fun _ _ _ _ e=>by cases e;exact ae),us,ms,⟨b',rfl,bf,us,bX,by omega,by simp⟩,gG,g_,lh⟩
end
end Go.Proofs.YthemdhlheglhoaaGreatDoor.aY
