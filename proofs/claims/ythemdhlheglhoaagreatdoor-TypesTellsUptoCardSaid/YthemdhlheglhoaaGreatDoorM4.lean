/- The abstract machine and its walks (a verified interpreter of the model's code: plain definitions and lemmas, no condition). Printed by a program from longer texts: names made short. -/
import Derived.Test.YthemdhlheglhoaaGreatDoorM3
import Derived.IntWalk
import Derived.Carry
import Derived.OpenShut
import Derived.ChangeSame
import Derived.Lib.Bytealg
import Derived.Lib.IndexMore
import Derived.Handed
import Derived.HandedShaped
import Derived.ChangeArms
import Derived.DataReads
set_option linter.unusedSectionVars false
set_option linter.unusedSimpArgs false
set_option linter.unusedVariables false
namespace Go.Proofs.YthemdhlheglhoaaGreatDoor.aX
variable [Lay]
open Go Go.RowKit
inductive aV where
 | t (n:Nat)
 | c (v:V)
abbrev aR:=Nat→V
def aV.a6 (r:aR):aV→V
 | .t n=>r n
 | .c v=>v
def aV.fy (r:aR):List aV→List V
 | []=>[]
 | x::xs=>x.a6 r::aV.fy r xs
def rx:Operand→aV
 | .tmp t=>bif Nat.ble t top then .t t else .c .bad
 | .const v=>.c (gJ v)
 | .func f=>bif Nat.beq f dk then .c .bad else .c (.func f [])
 | .global _=>.c .bad
def mK:List Operand→List aV
 | []=>[]
 | x::xs=>rx x::mK xs
def aV.opt (r:aR):Option aV→Option V
 | none=>none
 | some x=>some (x.a6 r)
def rf:Option Operand→Option aV
 | none=>none
 | some x=>some (rx x)
inductive dV where
 | int (op:BinOp)
 | str (op:BinOp)
 | shl
 | shr
 | vY (neg:Bool)
 | j6 (neg:Bool) (k:Nat)
 | other (op:BinOp) (t:TypeId)
noncomputable def dV.run (P:Program):dV→V→V→Option V
 | .int op=>(jK op).run
 | .str op=>(rj op).run
 | .shl=>(u4 true).run
 | .shr=>(u4 false).run
 | .vY neg=>(ik neg pw).run
 | .j6 neg k=>(ik neg (gx k)).run
 | .other op t=>(qA P op t).run
inductive rC where
 | int (k:IntKind)
 | bytes
 | str
 | other (s d:TypeId)
noncomputable def rC.run (P:Program):rC→V→af→aY
 | .int k=>fun x h=>x.dZ .fail fun _ n=>.val (.int k (k.wrap n)) h
 | .bytes=>yN.run
 | .str=>pt.run
 | .other s d=>(n_ P s d).run
inductive ju where
 | int | str | bool
def ju.eq:ju→dw
 | .int=>ks
 | .str=>tH
 | .bool=>pw
inductive A5 where
 | arr (n:Nat)
 | str
 | slice
 | map
inductive G where
 | bad
 | fH (x:aV)
 | pick (c a b:aV)
 | new (z:List V)
 | box (x:aV)
 | build (z:List V) (bg:List (Nat × Nat × aV))
 | hG (len size:Nat) (z:List V) (bg:List (Nat × Nat × aV))
 | eu (x:aV)
 | kd (size:Nat) (x:aV)
 | st (size:Nat) (x y:aV)
 | sy (x:aV)
 | bin (k:dV) (x y:aV)
 | un (op:UnOp) (x:aV)
 | hW (k:rC) (x:aV)
 | fn (f:FuncId) (eB:List aV)
 | zZ (f:FuncId) (first:List aV)
 | Bn (t:TypeId) (z:Option V) (ok:Bool) (x:aV)
 | uy (t:TypeId) (x:aV)
 | zY (size:Nat) (z:List V) (l c:aV)
 | oQ (x:aV) (bR aC dK:Option aV)
 | fv (size:Nat) (x:aV) (bR aC dK:Option aV)
 | il (off:Nat) (x:aV)
 | tL (off:Nat) (x:aV)
 | tM (off size:Nat) (x:aV)
 | cD (size:Nat) (x i:aV)
 | w3 (n size:Nat) (x i:aV)
 | ll (x i:aV)
 | iU (t:TypeId) (x i:aV)
 | look (k:ju) (z:V) (ok:Bool) (x i:aV)
 | l' (k:ju) (m i x:aV)
 | sw (x:Option aV)
 | xA (x:aV)
 | xn (x:aV)
 | ext (x:aV) (i:Nat)
 | call (f:FuncId) (args:List aV)
 | nb (f:aV) (args:List aV)
 | len (k:A5) (x:aV)
 | app (size:Nat) (s x:aV)
 | copy (size:Nat) (d s:aV)
 | uP (args:List aV)
 | dK (args:List aV)
 | MN (z:List V) (x:aV)
def jD (r:aR):List (Nat × Nat × aV)→List (Nat × Nat × V)
 | []=>[]
 | (o,s,x)::bg=>(o,s,x.a6 r)::jD r bg
def h6:List V→List (Nat × Nat × V)→Option (List V)
 | cells,[]=>some cells
 | cells,(off,size,v)::rest=>bif v.fK&&(Nat.beq v.cells.length size&&Nat.ble (off+v.cells.length) cells.length) then h6 (qH cells off v.cells) rest else none
noncomputable def A5.run:A5→V→af→aY
 | .arr n=>fun _ h=>.val (.int .i64 n) h
 | .str=>fun x h=>aY.of h ((nB .string).run x)
 | .slice=>fun x h=>aY.of h ((nB (.slice 0)).run x)
 | .map=>fun x h=>zS [x] h
noncomputable def G.run (P:Program) (g:G) (call:dx) (r:aR) (h:af):aY:=
 match g with
 | .bad=>.fail
 | .fH x=>.val (x.a6 r) h
 | .pick c a b=>match c.a6 r with
   | .bool t=>.val (bif t then a.a6 r else b.a6 r) h
   | _=>.fail
 | .new z=>gB (.ptr (al h.next) 0) (fV h z)
 | .box x=>bif (x.a6 r).fK then gB (.ptr (al h.next) 0) (fV h (x.a6 r).cells) else .fail
 | .build z bg=>(match h6 z (jD r bg) with
   | some cs=>.val (.agg cs) h
   | none=>.fail)
 | .hG n _ z bg=>match h6 (iE z n) (jD r bg) with
   | some cs=>(match fV h cs with
     | some aa=>.val (.slice (al h.next) 0 n n) aa
     | none=>.fail)
   | none=>.fail
 | .eu x=>aY.of h (l5 h (x.a6 r))
 | .kd n x=>aY.of h (l4 n h (x.a6 r))
 | .st n x y=>gB .bad (oR n h (x.a6 r) (y.a6 r))
 | .sy x=>aY.of h (sx (x.a6 r))
 | .bin k x y=>aY.of h (k.run P (x.a6 r) (y.a6 r))
 | .un op x=>aY.of h (p8 op (x.a6 r))
 | .hW k x=>k.run P (x.a6 r) h
 | .fn f eB=>.val (.func f (aV.fy r eB)) h
 | .zZ f first=>.val (.nE f (aV.fy r first)) h
 | .Bn t z ok x=>aY.of h (yz t z ok (x.a6 r))
 | .uy t x=>.val (.iface t (x.a6 r)) h
 | .zY n z l c=>C1 n z (l.a6 r) (c.a6 r) h
 | .oQ x bR aC m3=>aY.of h (kQ (x.a6 r) (aV.opt r bR) (aV.opt r aC) (aV.opt r m3))
 | .fv n x bR aC m3=>aY.of h (match x.a6 r with
   | .b6=>DQ (aV.opt r bR) (aV.opt r aC) (aV.opt r m3)
   | .slice b off uL cap=>xG n b off uL cap (aV.opt r bR) (aV.opt r aC) (aV.opt r m3)
   | .eC b off uL idx=>xF n b off uL idx (aV.opt r bR) (aV.opt r aC) (aV.opt r m3)
   | .hA b off lq idx=>DR b off lq idx (aV.opt r bR) (aV.opt r aC) (aV.opt r m3)
   | _=>none)
 | .il off x=>aY.of h ((x.a6 r).h' none fun b o=>some (.ptr b (o+off)))
 | .tL off x=>aY.of h (match x.a6 r with
   | .agg cs=>cs[off]?
   | _=>none)
 | .tM off n x=>aY.of h (match x.a6 r with
   | .agg cs=>some (.agg ((cs.drop off).take n))
   | _=>none)
 | .cD n x i=>aY.of h ((uD n).run (x.a6 r) (i.a6 r))
 | .w3 n s x i=>aY.of h ((uC n s).run (x.a6 r) (i.a6 r))
 | .ll x i=>aY.of h (q4.run (x.a6 r) (i.a6 r))
 | .iU t x i=>aY.of h ((q3 P t).run (x.a6 r) (i.a6 r))
 | .look k z ok x i=>aY.of h (nD k.eq z ok h (x.a6 r) (i.a6 r))
 | .l' k m i x=>gB .bad (mN k.eq h (m.a6 r) (i.a6 r) (x.a6 r))
 | .sw x=>pZ (aV.opt r x) h
 | .xA x=>(match x.a6 r with
   | .str s=>.val (.ptr (al h.next) 0) (h.new (.iter s 0))
   | _=>.fail)
 | .xn x=>uS (x.a6 r) h
 | .ext x i=>(match x.a6 r with
   | .tuple ad=>aY.of h ad[i]?
   | _=>.fail)
 | .call f args=>call f (aV.fy r args) h
 | .nb f args=>(f.a6 r).xo (aV.fy r args) fun g xs=>call g xs h
 | .len k x=>k.run (x.a6 r) h
 | .app n s x=>kW n (s.a6 r) (x.a6 r) h
 | .copy n d s=>copyV n (d.a6 r) (s.a6 r) h
 | .uP args=>aY.of h (jO (fun b a=>!Int.leB a b) (aV.fy r args))
 | .dK args=>aY.of h (jO (fun b a=>!Int.leB b a) (aV.fy r args))
 | .MN z x=>BB z (x.a6 r) h
def JU (P:Program) (op:BinOp) (t:TypeId):dV:=
 match op with
 | .shl=>.shl
 | .shr=>.shr
 | op=>match a8 P t with
   | none=>.other op t
   | some aO=>match aO.bd with
     | .int _=>.int op
     | .string=>.str op
     | .bool=>(match op with
       | .eql=>.vY false
       | .neq=>.vY true
       | _=>.other op t)
     | .pointer _=>(match op with
       | .eql=>.j6 false 1
       | .neq=>.j6 true 1
       | _=>.other op t)
     | .slice _=>(match op with
       | .eql=>.j6 false 2
       | .neq=>.j6 true 2
       | _=>.other op t)
     | .map _ _=>(match op with
       | .eql=>.j6 false 3
       | .neq=>.j6 true 3
       | _=>.other op t)
     | .func _ _ _=>(match op with
       | .eql=>.j6 false 4
       | .neq=>.j6 true 4
       | _=>.other op t)
     | _=>.other op t
def JZ (P:Program) (op:BinOp) (t:TypeId) (lit:Bool):dV:=
 bif lit then (match a8 P t with
  | some aO=>match aO.bd with
    | .interface _=>match op with
      | .eql=>.j6 false 5
      | .neq=>.j6 true 5
      | _=>.j6 false 99
    | _=>.j6 false 99
  | none=>.j6 false 99) else JU P op t
def JX (P:Program) (s d:TypeId):rC:=
 match a8 P s,a8 P d with
 | some sP,some nc=>match nc.bd with
   | .int k=>.int k
   | .string=>match sP.bd with
     | .slice e=>match a8 P e with
       | some bh=>match bh.bd with
         | .int .u8=>.str
         | _=>.other s d
       | none=>.other s d
     | _=>.other s d
   | .slice e=>match a8 P e with
     | some bh=>match bh.bd with
       | .int .u8=>.bytes
       | _=>.other s d
     | none=>.other s d
   | _=>.other s d
 | _,_=>.other s d
def oM (place:Nat→Option (Nat × Nat)):List (Nat × Operand)→Option (List (Nat × Nat × aV))
 | []=>some []
 | (i,x)::bg=>match place i with
   | none=>none
   | some (off,size)=>match oM place bg with
     | none=>none
     | some l=>some ((off,size,rx x)::l)
def RV (P:Program) (t:TypeId) (bg:List (Nat × Operand)):G:=
 match a8 P t with
 | some aO=>match aO.zero with
   | some z=>match aO.bd with
     | .struct cd=>bif BX P cd.toList then (match oM (v' P cd) bg with
       | some l=>.build z.cells l
       | none=>.bad) else .bad
     | .array _ e=>match a8 P e with
       | some bh=>(match oM (fun i=>some (i * bh.size,bh.size)) bg with
         | some l=>.build z.cells l
         | none=>.bad)
       | none=>.bad
     | _=>.bad
   | none=>.bad
 | none=>.bad
def RY (P:Program) (t:TypeId) (len:Nat) (bg:List (Nat × Operand)):G:=
 match a8 P t with
 | some aO=>match aO.bd with
   | .slice e=>match a8 P e with
     | some bh=>match bh.zero with
       | some z=>bif Nat.ble (len * bh.size) 1000000&&Nat.beq z.cells.length bh.size then
          (match oM (fun i=>some (i * bh.size,bh.size)) bg with
          | some l=>.hG len bh.size z.cells l
          | none=>.bad) else .bad
       | none=>.bad
     | none=>.bad
   | _=>.bad
 | none=>.bad
def uJ:TypeDesc→Option ju
 | .int _=>some .int
 | .string=>some .str
 | .bool=>some .bool
 | _=>none
def Gz (P:Program) (t:TypeId):Option (List V):=
 match a8 P t with
 | some aO=>match aO.bd with
   | .slice e=>match a8 P e with
     | some bh=>match bh.zero with
       | some z=>some z.cells
       | none=>none
     | none=>none
   | _=>none
 | none=>none
theorem ZQ (P:Program) (t:TypeId):yL P t=Gz P t:=rfl
def JW (P:Program) (c:Call):G:=
 match c.callee with
 | .value (.func f)=>bif Nat.beq f dk then .bad else .call f (mK c.args.toList)
 | .value x=>.nb (rx x) (mK c.args.toList)
 | .invoke _ _=>.bad
 | .builtin b=>match b with
   | .len=>match c.argTypes.toList,c.args.toList with
     | [t],[x]=>(match a8 P t with
       | some aO=>(match aO.bd with
         | .map _ _=>.len .map (rx x)
         | .array n _=>.len (.arr n) (rx x)
         | .string=>.len .str (rx x)
         | .slice _=>.len .slice (rx x)
         | _=>.bad)
       | none=>.bad)
     | _,_=>.bad
   | .append=>match c.argTypes.toList,c.args.toList with
     | [t,u],[s,x]=>(match a8 P t,a8 P u with
       | some aO,some rr=>(match rr.bd with
         | .int _=>.bad
         | _=>match aO.bd with
           | .slice e=>(match a8 P e with
             | none=>.bad
             | some bh=>match bh.zero with
               | none=>.bad
               | some z=>bif Nat.ble 1 bh.size&&Nat.ble bh.bytes 4096&&Nat.beq z.cells.length bh.size then .app bh.size (rx s) (rx x) else .bad)
           | _=>.bad)
       | _,_=>.bad)
     | _,_=>.bad
   | .copy=>match c.argTypes.toList,c.args.toList with
     | t::_,[d,s]=>(match a8 P t with
       | some aO=>(match aO.bd with
         | .slice e=>(match a8 P e with
           | some bh=>.copy bh.size (rx d) (rx s)
           | none=>.bad)
         | _=>.bad)
       | none=>.bad)
     | _,_=>.bad
   | .min=>.uP (mK c.args.toList)
   | .max=>.dK (mK c.args.toList)
   | .clear=>match c.argTypes.toList,c.args.toList with
     | [t],[x]=>(match Gz P t with
       | some z=>.MN z (rx x)
       | none=>.bad)
     | _,_=>.bad
   | _=>.bad
def DH (P:Program) (op:Op):G:=
 match op with
 | .move x=>.fH (rx x)
 | .assign x=>.fH (rx x)
 | .pick c a b=>.pick (rx c) (rx a) (rx b)
 | .alloc t=>(match a8 P t with
   | some aO=>(match aO.zero with
     | some z=>.new z.cells
     | none=>.bad)
   | none=>.bad)
 | .box _ x=>.box (rx x)
 | .build t bg=>RV P t bg.toList
 | .buildSlice t n bg=>RY P t n bg.toList
 | .load t x=>(match a8 P t with
   | none=>.bad
   | some aO=>bif aO.agg then .kd aO.size (rx x) else bif Nat.beq aO.size 1 then .eu (rx x) else .bad)
 | .store t x y=>(match a8 P t with
   | none=>.bad
   | some aO=>.st aO.size (rx x) (rx y))
 | .nilCheck x=>.sy (rx x)
 | .binOp op t x y _=>.bin (JZ P op t (pY x||pY y)) (rx x) (rx y)
 | .unOp op _ x=>.un op (rx x)
 | .convert s d x=>.hW (JX P s d) (rx x)
 | .makeFunc (.func f) first eB=>bif first.isEmpty&&!Nat.beq f dk then .fn f (mK eB.toList) else bif eB.isEmpty&&!Nat.beq f dk then .zZ f (mK first.toList) else .bad
 | .makeInterface t x=>(match a8 P t with
   | some aO=>bif Nat.beq (eO aO.bd) 5 then .bad else .uy t (rx x)
   | none=>.bad)
 | .makeSlice t l c=>(match a8 P t with
   | some aO=>(match aO.bd with
     | .slice e=>(match a8 P e with
       | some bh=>(match bh.zero with
         | some z=>bif Nat.ble bh.bytes 4096 then .zY bh.size z.cells (rx l) (rx c) else .bad
         | none=>.bad)
       | none=>.bad)
     | _=>.bad)
   | none=>.bad)
 | .slice t x bR aC dK=>(match a8 P t with
   | none=>.bad
   | some aO=>match aO.bd with
     | .string=>.oQ (rx x) (rf bR) (rf aC) (rf dK)
     | .slice e=>(match a8 P e with
       | none=>.bad
       | some bh=>.fv bh.size (rx x) (rf bR) (rf aC) (rf dK))
     | _=>.bad)
 | .fieldAddr t x i=>(match pC P t i with
   | none=>.bad
   | some f=>match a8 P f.type with
     | none=>.bad
     | some jE=>bif Nat.beq jE.size 0 then .bad else .il f.offset (rx x))
 | .field t x i=>(match pC P t i with
   | none=>.bad
   | some f=>match a8 P f.type with
     | none=>.bad
     | some aO=>bif aO.agg then .tM f.offset aO.size (rx x) else .tL f.offset (rx x))
 | .indexAddr t x i=>(match a8 P t with
   | none=>.bad
   | some aO=>match aO.bd with
     | .slice e=>(match a8 P e with
       | none=>.bad
       | some bh=>.cD bh.size (rx x) (rx i))
     | .array n e=>(match a8 P e with
       | none=>.bad
       | some bh=>.w3 n bh.size (rx x) (rx i))
     | _=>.bad)
 | .index t x i=>(match a8 P t with
   | none=>.bad
   | some aO=>match aO.bd with
     | .string=>.ll (rx x) (rx i)
     | _=>.iU t (rx x) (rx i))
 | .range t x=>(match a8 P t with
   | some aO=>(match aO.bd with
     | .string=>.xA (rx x)
     | _=>.bad)
   | none=>.bad)
 | .next it true=>.xn (rx it)
 | .lookup t x k ok=>(match a8 P t with
   | some aO=>(match aO.bd with
     | .map bt e=>(match a8 P bt with
       | some gY=>(match a8 P e with
         | some bh=>(match bh.zero with
           | some z=>(match uJ gY.bd with
             | some c6=>.look c6 z ok (rx x) (rx k)
             | none=>.bad)
           | none=>.bad)
         | none=>.bad)
       | none=>.bad)
     | _=>.bad)
   | none=>.bad)
 | .mapUpdate t m k x | .insert t m k x=>(match a8 P t with
   | some aO=>(match aO.bd with
     | .map bt _=>(match a8 P bt with
       | some gY=>(match uJ gY.bd with
         | some c6=>.l' c6 (rx m) (rx k) (rx x)
         | none=>.bad)
       | none=>.bad)
     | _=>.bad)
   | none=>.bad)
 | .makeMap t x=>(match a8 P t with
   | some aO=>bif Nat.beq (eO aO.bd) 3 then .sw (rf x) else .bad
   | none=>.bad)
 | .extract x i=>.ext (rx x) i
 | .typeAssert x _ t ok=>(match a8 P t with
   | some aO=>bif Nat.beq (eO aO.bd) 5 then .bad else .Bn t aO.zero ok (rx x)
   | none=>.bad)
 | .call c=>JW P c
 | _=>.bad
noncomputable def dU (cP:bA):aR:=fun t=>T.get .bad (al t) cP
theorem fT (cP:bA) (x:Operand):(bQ x).run cP=(rx x).a6 (dU cP):=by
 cases x with
 | tmp t=>
   simp only [bQ,rx]
   cases Nat.ble t top<;>rfl
 | const v=>rfl
 | func f=>
   simp only [bQ,rx]
   cases Nat.beq f dk<;>rfl
 | global g=>rfl
theorem v7 (cP:bA):∀xs:List Operand,(pz xs).run cP=aV.fy (dU cP) (mK xs)
 | []=>rfl
 | x::xs=>by simp only [pz,mK,aV.fy,fT,v7 cP xs]
theorem Jh (cP:bA) (x:Option Operand):(p2 x).run cP=aV.opt (dU cP) (rf x):=by
 cases x with
 | none=>rfl
 | some x=>simp only [p2,rf,aV.opt,fT]
theorem BY (cP:bA) {place:Nat→Option (Nat × Nat)}:∀{bg:List (Nat × Operand)} {l:List (Nat × Nat × aV)},oM place bg=some l→∀cells,lO place cells ((sE bg).run cP)=h6 cells (jD (dU cP) l)
 | [],l,h,cells=>by
   simp only [oM,Option.some.injEq] at h
   subst h
   rfl
 | (i,x)::bg,l,h,cells=>by
   simp only [oM] at h
   cases ah:place i with
   | none=>rw [ah] at h;cases h
   | some os=>
     obtain ⟨off,size⟩:=os
     rw [ah] at h
     simp only at h
     cases ai:oM place bg with
     | none=>rw [ai] at h;cases h
     | some cR=>
       rw [ai] at h
       simp only [Option.some.injEq] at h
       subst h
       simp only [sE,lO,ah,jD,h6,fT]
       cases ((rx x).a6 (dU cP)).fK&&(Nat.beq ((rx x).a6 (dU cP)).cells.length size&&Nat.ble (off + ((rx x).a6 (dU cP)).cells.length) cells.length) with
       | false=>rfl
       | true=>exact BY cP ai _
section
variable {P:Program}
theorem ai6 (op:BinOp) (t:TypeId):(JU P op t).run P=(qA P op t).run:=by
 unfold JU qA
 cases op<;>first | rfl | skip
 all_goals
  cases aF:a8 P t with
  | none=>simp only [dV.run];unfold qA;rw [aF]
  | some aO=>
    simp only
    cases hu:aO.bd<;>first | rfl | (simp only [dV.run];unfold qA;rw [aF];simp only [hu];done) | (simp only [dV.run];unfold oc gQ;simp only [aF,hu];first | done | rfl)
theorem ai9 (op:BinOp) (t:TypeId) (lit:Bool):(JZ P op t lit).run P=(yB P op t lit).run:=by
 unfold JZ yB
 cases lit with
 | false=>simp only [cond_false];exact ai6 op t
 | true=>
   simp only [cond_true]
   cases a8 P t with
   | none=>rfl
   | some aO=>
     simp only
     cases aO.bd<;>first | rfl | (cases op<;>rfl)
theorem ai8 (s d:TypeId):(JX P s d).run P=(n_ P s d).run:=by
 unfold JX
 split
 · rename_i sP nc aQ aZ
   split
   · rename_i k hu
     simp only [rC.run];unfold n_;rw [aQ,aZ];simp only [hu]
   · rename_i hu
     split
     · rename_i e bs
       split
       · rename_i bh he
         split
         · rename_i hw
           simp only [rC.run];unfold n_;rw [aQ,aZ];simp only [hu,bs,he,hw]
         · rfl
       · rfl
     · rfl
   · rename_i e hu
     split
     · rename_i bh he
       split
       · rename_i hw
         simp only [rC.run];unfold n_;rw [aQ,aZ];simp only [hu,he,hw]
       · rfl
     · rfl
   · rfl
 · rfl
theorem IH {d:TypeDesc} {c6:ju} (h:uJ d=some c6):mA d=true∧kc d=c6.eq:=by
 cases d<;>simp only [uJ] at h<;>first | (cases h;done) | (cases h;exact ⟨rfl,rfl⟩)
theorem ai7 {c:Call} {call:dx} {cP:bA} {h aa:af} {v:V} (he:(JW P c).run P call (dU cP) h=.val v aa):(qE P c).run call cP h=.val v aa:=by
 unfold JW at he
 unfold qE
 split at he
 · rename_i f aI
   rw [aI]
   cases a_:Nat.beq f dk with
   | true=>rw [a_] at he;cases he
   | false=>
     rw [a_] at he
     simp only [cond_false,G.run] at he
     simpa only [bQ,a_,cond_false,py,V.xo,v7,List.append_nil] using he
 · rename_i x aq aI
   rw [aI]
   simp only [G.run] at he
   simpa only [fT,v7] using he
 · cases he
 · rename_i b aI
   rw [aI]
   simp only [v7]
   cases b<;>simp only at he<;>try (cases he;done)
   case len=>
    split at he
    · rename_i t x aF aq
      cases mz:a8 P t with
      | none=>rw [mz] at he;cases he
      | some aO=>
        rw [mz] at he
        simp only at he
        simp only [qB,aF,mz,aq,mK,aV.fy]
        cases hu:aO.bd<;>rw [hu] at he<;>first | (cases he;done) | (simpa only [sn,cond_true,cond_false,G.run,A5.run,nB,aY.of] using he)
    · cases he
   case append=>
    split at he
    · rename_i t u s x aF aq
      split at he
      · rename_i aO rr mz wX
        simp only [qB,aF,aq,mK,aV.fy,Bl,mz,wX]
        split at he
        · cases he
        · rename_i dI
          split at he
          · rename_i e cv
            cases e_:a8 P e with
            | none=>rw [e_] at he;cases he
            | some bh=>
              rw [e_] at he
              simp only at he
              cases bo:bh.zero with
              | none=>rw [bo] at he;cases he
              | some z=>
                rw [bo] at he
                simp only at he
                cases ag:(Nat.ble 1 bh.size&&Nat.ble bh.bytes 4096&&Nat.beq z.cells.length bh.size) with
                | false=>rw [ag] at he;cases he
                | true=>
                  rw [ag] at he
                  simp only [cond_true,G.run] at he
                  cases Il:rr.bd<;>first
                   | (exact absurd Il (dI _))
                   | (simp only [cv,e_,bo,ag,cond_true];exact he)
          · cases he
      · cases he
    · cases he
   case copy=>
    split at he
    · rename_i t bO d s aF aq
      cases mz:a8 P t with
      | none=>rw [mz] at he;cases he
      | some aO=>
        rw [mz] at he
        simp only at he
        split at he
        · rename_i e cv
          cases e_:a8 P e with
          | none=>rw [e_] at he;cases he
          | some bh=>
            rw [e_] at he
            simp only [G.run] at he
            simp only [qB,aF,aq,mK,aV.fy,BC,mz,cv,e_]
            exact he
        · cases he
    · cases he
   case min=>exact he
   case max=>exact he
   case clear=>
    split at he
    · rename_i t x aF aq
      cases aI:Gz P t with
      | none=>rw [aI] at he;cases he
      | some z=>
        rw [aI] at he
        simp only [G.run] at he
        simp only [qB,aF,aq,mK,aV.fy,ZQ,aI]
        exact he
    · cases he
theorem RW {o:Oper} {call:dx} {cP:bA} {h aa:af} {v:V} (he:(DH P o.op).run P call (dU cP) h=.val v aa):(e1 P o).run call cP h=.val v aa:=by
 obtain ⟨dst,op,type,pos,after,guard⟩:=o
 cases op<;>simp only [DH] at he<;>try (cases he;done)
 all_goals simp only [e1]
 case move x=>simpa only [fT,G.run] using he
 case assign x=>simpa only [fT,G.run] using he
 case pick c a b=>
  simp only [fT,G.run] at he ⊢
  generalize (rx c).a6 (dU cP)=q at he ⊢
  cases q<;>exact he
 case alloc t=>
  cases aF:a8 P t with
  | none=>rw [aF] at he;cases he
  | some aO=>
    rw [aF] at he
    simp only at he ⊢
    cases bo:aO.zero with
    | none=>rw [bo] at he;cases he
    | some z=>rw [bo] at he;exact he
 case box t x=>simpa only [fT,G.run] using he
 case build t bg=>
  unfold RV at he
  unfold Bt
  cases aF:a8 P t with
  | none=>rw [aF] at he;cases he
  | some aO=>
    rw [aF] at he
    simp only at he ⊢
    cases bo:aO.zero with
    | none=>rw [bo] at he;cases he
    | some z=>
      rw [bo] at he
      simp only at he ⊢
      cases hu:aO.bd<;>rw [hu] at he<;>simp only at he ⊢<;>try (cases he;done)
      · rename_i n e
        cases e_:a8 P e with
        | none=>rw [e_] at he;cases he
        | some bh=>
          rw [e_] at he
          simp only at he ⊢
          cases ah:oM (fun i=>some (i * bh.size,bh.size)) bg.toList with
          | none=>rw [ah] at he;cases he
          | some l=>
            rw [ah] at he
            simp only [G.run] at he
            rw [BY cP ah]
            cases ay:h6 z.cells (jD (dU cP) l) with
            | none=>rw [ay] at he;cases he
            | some cs=>rw [ay] at he;exact he
      · rename_i cd
        cases aE:BX P cd.toList with
        | false=>rw [aE] at he;cases he
        | true=>
          rw [aE] at he
          simp only [cond_true] at he ⊢
          cases ah:oM (v' P cd) bg.toList with
          | none=>rw [ah] at he;cases he
          | some l=>
            rw [ah] at he
            simp only [G.run] at he
            rw [BY cP ah]
            cases ay:h6 z.cells (jD (dU cP) l) with
            | none=>rw [ay] at he;cases he
            | some cs=>rw [ay] at he;exact he
 case buildSlice t n bg=>
  unfold RY at he
  unfold tz
  cases aF:a8 P t with
  | none=>rw [aF] at he;cases he
  | some aO=>
    rw [aF] at he
    simp only at he ⊢
    cases hu:aO.bd<;>rw [hu] at he<;>simp only at he ⊢<;>try (cases he;done)
    rename_i e
    cases e_:a8 P e with
    | none=>rw [e_] at he;cases he
    | some bh=>
      rw [e_] at he
      simp only at he ⊢
      cases bo:bh.zero with
      | none=>rw [bo] at he;cases he
      | some z=>
        rw [bo] at he
        simp only at he ⊢
        cases ag:(Nat.ble (n * bh.size) 1000000&&Nat.beq z.cells.length bh.size) with
        | false=>rw [ag] at he;cases he
        | true=>
          rw [ag] at he
          simp only [cond_true] at he ⊢
          cases ah:oM (fun i=>some (i * bh.size,bh.size)) bg.toList with
          | none=>rw [ah] at he;cases he
          | some l=>
            rw [ah] at he
            simp only [G.run] at he
            rw [BY cP ah]
            exact he
 case load t x=>
  unfold oG
  cases aF:a8 P t with
  | none=>rw [aF] at he;cases he
  | some aO=>
    rw [aF] at he
    simp only at he ⊢
    cases bq:aO.agg with
    | true=>rw [bq] at he;simpa only [cond_true,fT,G.run] using he
    | false=>
      rw [bq] at he
      simp only [cond_false] at he ⊢
      cases aQ:Nat.beq aO.size 1 with
      | true=>rw [aQ] at he;simpa only [cond_true,fT,G.run] using he
      | false=>rw [aQ] at he;cases he
 case store t x y=>
  unfold rh
  cases aF:a8 P t with
  | none=>rw [aF] at he;cases he
  | some aO=>rw [aF] at he;simpa only [fT,G.run] using he
 case nilCheck x=>simpa only [fT,G.run] using he
 case binOp op t x y t2=>simpa only [fT,G.run,ai9] using he
 case unOp op t x=>simpa only [fT,G.run] using he
 case convert s d x=>simpa only [fT,G.run,ai8] using he
 case makeFunc fn first eB=>
  cases fn<;>simp only at he<;>try (cases he;done)
  simp only
  cases ay:(first.isEmpty&&!Nat.beq _ dk) with
  | true=>rw [ay] at he;simpa only [cond_true,v7,G.run] using he
  | false=>
    rw [ay] at he
    simp only [cond_false] at he ⊢
    cases im:(eB.isEmpty&&!Nat.beq _ dk) with
    | true=>rw [im] at he;simpa only [cond_true,v7,G.run] using he
    | false=>rw [im] at he;cases he
 case typeAssert x s7 t ok=>
  cases aF:a8 P t with
  | none=>rw [aF] at he;cases he
  | some aO=>
    rw [aF] at he
    simp only at he ⊢
    cases ag:Nat.beq (eO aO.bd) 5 with
    | true=>rw [ag] at he;cases he
    | false=>rw [ag] at he;simpa only [cond_false,fT,G.run] using he
 case makeInterface t x=>
  cases aF:a8 P t with
  | none=>rw [aF] at he;cases he
  | some aO=>
    rw [aF] at he
    simp only at he ⊢
    cases ag:Nat.beq (eO aO.bd) 5 with
    | true=>rw [ag] at he;cases he
    | false=>rw [ag] at he;simpa only [cond_false,fT,G.run] using he
 case makeSlice t l c=>
  unfold C0
  cases aF:a8 P t with
  | none=>rw [aF] at he;cases he
  | some aO=>
    rw [aF] at he
    simp only at he ⊢
    cases hu:aO.bd<;>rw [hu] at he<;>simp only at he ⊢<;>try (cases he;done)
    rename_i e
    cases e_:a8 P e with
    | none=>rw [e_] at he;cases he
    | some bh=>
      rw [e_] at he
      simp only at he ⊢
      cases bo:bh.zero with
      | none=>rw [bo] at he;cases he
      | some z=>
        rw [bo] at he
        simp only at he ⊢
        cases ag:Nat.ble bh.bytes 4096 with
        | false=>rw [ag] at he;cases he
        | true=>rw [ag] at he;simpa only [cond_true,fT,G.run] using he
 case slice t x bR aC m3=>
  unfold DP
  cases aF:a8 P t with
  | none=>rw [aF] at he;cases he
  | some aO=>
    rw [aF] at he
    simp only at he ⊢
    cases hu:aO.bd<;>rw [hu] at he<;>simp only at he ⊢<;>try (cases he;done)
    · simpa only [fT,Jh,G.run] using he
    · rename_i e
      cases e_:a8 P e with
      | none=>rw [e_] at he;cases he
      | some bh=>
        rw [e_] at he
        simp only [fT,Jh,G.run] at he ⊢
        generalize (rx x).a6 (dU cP)=q at he ⊢
        cases q<;>exact he
 case fieldAddr t x i=>
  unfold BU
  cases ay:pC P t i with
  | none=>rw [ay] at he;cases he
  | some f=>
    rw [ay] at he
    simp only at he ⊢
    cases aF:a8 P f.type with
    | none=>rw [aF] at he;cases he
    | some jE=>
      rw [aF] at he
      simp only at he ⊢
      cases ag:Nat.beq jE.size 0 with
      | true=>rw [ag] at he;cases he
      | false=>rw [ag] at he;simpa only [cond_false,fT,G.run] using he
 case field t x i=>
  unfold BV
  cases ay:pC P t i with
  | none=>rw [ay] at he;cases he
  | some f=>
    rw [ay] at he
    simp only [oK] at he ⊢
    cases aF:a8 P f.type with
    | none=>rw [aF] at he;cases he
    | some jE=>
      rw [aF] at he
      simp only at he ⊢
      cases ag:jE.agg with
      | true=>
        rw [ag] at he
        simp only [cond_true,fT,G.run] at he ⊢
        generalize (rx x).a6 (dU cP)=q at he ⊢
        cases q<;>exact he
      | false=>
        rw [ag] at he
        simp only [cond_false,fT,G.run] at he ⊢
        generalize (rx x).a6 (dU cP)=q at he ⊢
        cases q<;>exact he
 case indexAddr t x i=>
  unfold CK
  cases aF:a8 P t with
  | none=>rw [aF] at he;cases he
  | some aO=>
    rw [aF] at he
    simp only at he ⊢
    cases hu:aO.bd<;>rw [hu] at he<;>simp only at he ⊢<;>try (cases he;done)
    all_goals
     rename_i e
     cases e_:a8 P e with
     | none=>rw [e_] at he;cases he
     | some bh=>rw [e_] at he;simpa only [fT,G.run] using he
 case index t x i=>
  cases aF:a8 P t with
  | none=>rw [aF] at he;cases he
  | some aO=>
    rw [aF] at he
    simp only at he
    cases hu:aO.bd<;>rw [hu] at he<;>simp only [G.run] at he
    case string=>
     unfold q3
     rw [aF]
     simp only [hu]
     simpa only [fT] using he
    all_goals simpa only [fT] using he
 case range t x=>
  unfold DE
  cases aF:a8 P t with
  | none=>rw [aF] at he;cases he
  | some aO=>
    rw [aF] at he
    simp only at he ⊢
    cases hu:aO.bd<;>rw [hu] at he<;>simp only at he ⊢<;>try (cases he;done)
    simp only [fT,G.run] at he ⊢
    generalize (rx x).a6 (dU cP)=q at he ⊢
    cases q<;>exact he
 case next it b=>
  cases b<;>simp only at he<;>try (cases he;done)
  simpa only [cond_true,fT,G.run] using he
 case lookup t x k ok=>
  unfold CY
  cases aF:a8 P t with
  | none=>rw [aF] at he;cases he
  | some aO=>
    rw [aF] at he
    simp only at he ⊢
    cases hu:aO.bd<;>rw [hu] at he<;>simp only at he ⊢<;>try (cases he;done)
    rename_i bt e
    cases aE:a8 P bt with
    | none=>rw [aE] at he;cases he
    | some gY=>
      rw [aE] at he
      simp only at he ⊢
      cases e_:a8 P e with
      | none=>rw [e_] at he;cases he
      | some bh=>
        rw [e_] at he
        simp only at he ⊢
        cases bo:bh.zero with
        | none=>rw [bo] at he;cases he
        | some z=>
          rw [bo] at he
          simp only at he ⊢
          cases jl:uJ gY.bd with
          | none=>rw [jl] at he;cases he
          | some c6=>
            rw [jl] at he
            obtain ⟨an,az⟩:=IH jl
            simp only [an,az,cond_true]
            simpa only [fT,G.run] using he
 case mapUpdate t m k x=>
  unfold nP
  cases aF:a8 P t with
  | none=>rw [aF] at he;cases he
  | some aO=>
    rw [aF] at he
    simp only at he ⊢
    cases hu:aO.bd<;>rw [hu] at he<;>simp only at he ⊢<;>try (cases he;done)
    rename_i bt e
    cases aE:a8 P bt with
    | none=>rw [aE] at he;cases he
    | some gY=>
      rw [aE] at he
      simp only at he ⊢
      cases jl:uJ gY.bd with
      | none=>rw [jl] at he;cases he
      | some c6=>
        rw [jl] at he
        obtain ⟨an,az⟩:=IH jl
        simp only [an,az,cond_true]
        simpa only [fT,G.run] using he
 case insert t m k x=>
  unfold nP
  cases aF:a8 P t with
  | none=>rw [aF] at he;cases he
  | some aO=>
    rw [aF] at he
    simp only at he ⊢
    cases hu:aO.bd<;>rw [hu] at he<;>simp only at he ⊢<;>try (cases he;done)
    rename_i bt e
    cases aE:a8 P bt with
    | none=>rw [aE] at he;cases he
    | some gY=>
      rw [aE] at he
      simp only at he ⊢
      cases jl:uJ gY.bd with
      | none=>rw [jl] at he;cases he
      | some c6=>
        rw [jl] at he
        obtain ⟨an,az⟩:=IH jl
        simp only [an,az,cond_true]
        simpa only [fT,G.run] using he
 case makeMap t x=>
  unfold xg
  cases aF:a8 P t with
  | none=>rw [aF] at he;cases he
  | some aO=>
    rw [aF] at he
    simp only at he ⊢
    cases ag:Nat.beq (eO aO.bd) 3 with
    | false=>rw [ag] at he;cases he
    | true=>rw [ag] at he;simpa only [cond_true,Jh,G.run] using he
 case extract x i=>
  simp only [fT,G.run] at he ⊢
  generalize (rx x).a6 (dU cP)=q at he ⊢
  cases q<;>exact he
 case call c=>exact ai7 he
end
end Go.Proofs.YthemdhlheglhoaaGreatDoor.aX
namespace Go.Proofs.YthemdhlheglhoaaGreatDoor.aX
variable [Lay]
open Go Go.RowKit
def fh (P:Program) (f:FuncId) (args:List V) (h:af) (v:V) (aa:af):Prop:=
 f≠dk∧(((∃fn,P.funcs[f]? =some fn∧fn.body.isSome=true)∧∀(aw:Fr) E w xs,bc E args xs→a' aw E h w→
  Calls P f xs.toArray w fun e ao=>∃av x,e=.returned x∧E.le av∧Rel av v x∧a' aw av aa ao)∨
 ∀(aw:Fr) E w xs,bc E args xs→a' aw E h w→∃av x ao,(callFunc f xs.toArray).run P w=.ok (.value x) ao∧E.le av∧Rel av v x∧a' aw av aa ao)
def LK (P:Program) (args:List V) (b:aP) (h:af) (v:V) (aa:af):Prop:=
 ∀(aw:Fr) E w xs p,bc E args xs→a' aw E h w→E b=some p→
  ∃f tmps assign body,(Instr.yield p.aW xs.toArray).run P w=.ok (.round p.aW f tmps assign body) w∧
   RoundIn (ch none) 0 P p.aW f tmps assign body w fun e ao=>∃av x,e=.returned x∧E.le av∧Rel av v x∧a' aw av aa ao
theorem fh.calls {P:Program} (bG:ez P) {f:FuncId} {args:List V} {h aa:af} {v:V} (H:fh P f args h v aa) (ag:∃fn,P.funcs[f]? =some fn∧fn.body.isSome=true) (aw:Fr) (E:Env) (w:World) (xs:List Value) (aq:bc E args xs) (s:a' aw E h w):
 Calls P f xs.toArray w fun e ao=>∃av x,e=.returned x∧E.le av∧Rel av v x∧a' aw av aa ao:=by
 rcases H.2 with ⟨_,H⟩ | H
 · exact H aw E w xs aq s
 · obtain ⟨av,x,ao,aJ,_⟩:=H aw E w xs aq s
   obtain ⟨fn,ab,ae⟩:=ag
   rw [sN bG ab ae] at aJ
   cases aJ
def bB (P:Program) (f:FuncId) (args:List V) (h:af) (K:V→af→Prop):Prop:=∃v aa,fh P f args h v aa∧K v aa
def Bg (P:Program) (args:List V) (b:aP) (h:af) (K:V→af→Prop):Prop:=∃v aa,LK P args b h v aa∧K v aa
def LL (P:Program) (xs:List V) (h:af) (K:V→af→Prop):Prop:=∃cJ b,xs=cJ++[.ptr b 0]∧Bg P cJ b h K
def KT (P:Program) (g:FuncId) (xs:List V) (h:af) (K:V→af→Prop):Prop:=if g=dk then LL P xs h K else bB P g xs h K
def V.target (v:V) (args:List V):Option (FuncId × List V):=
 match v with
 | .func g cs=>some (g,args++cs)
 | .nE g cs=>some (g,cs++args)
 | _=>none
theorem QR {v:V} {args xs:List V} {g:FuncId} (h:v.target args=some (g,xs)) (F:FuncId→List V→aY):v.xo args F=F g xs:=by
 cases v<;>simp only [V.target] at h<;>try (cases h;done)
 all_goals (simp only [Option.some.injEq,Prod.mk.injEq] at h;obtain ⟨rfl,rfl⟩:=h;rfl)
theorem bB.mono {P:Program} {f:FuncId} {args:List V} {h:af} {K mi:V→af→Prop} (c:bB P f args h K) (aE:∀v aa,K v aa→mi v aa):bB P f args h mi:=by
 obtain ⟨v,aa,an,az⟩:=c
 exact ⟨v,aa,an,aE v aa az⟩
def kf:dx:=fun _ _ _=>.fail
theorem C' (P:Program):gk P kf∧gu P kf:=
 ⟨⟨fun _ f args h v aa _ he=>by simp [kf] at he,fun _ f args h v aa _ he=>by simp [kf] at he,fun _ args b h v aa he=>by simp [kf] at he,fun args h v aa he=>by simp [kf] at he⟩,fun f args h v aa he=>by simp [kf] at he⟩
open Classical in
noncomputable def l8 (f:FuncId) (args:List V) (h:af) (v:V) (aa:af):dx:=
 fun f1 bH ab=>if f1=f∧bH=args∧ab=h then .val v aa else .fail
theorem QX {P:Program} {f:FuncId} {args:List V} {h aa:af} {v:V} (H:fh P f args h v aa):gk P (l8 f args h v aa)∧gu P (l8 f args h v aa):=by
 refine ⟨⟨fun aw f1 bH ab v1 fE _ he=>?_,fun aw f1 bH ab v1 fE _ he=>?_,fun aw bH b ab v1 fE he=>?_,fun bH ab v1 fE he=>?_⟩,fun f1 bH ab v1 fE he=>?_⟩
 · unfold l8 at he
   split at he
   · rename_i aI
     obtain ⟨rfl,rfl,rfl⟩:=aI
     simp only [aY.val.injEq] at he
     obtain ⟨rfl,rfl⟩:=he
     intro E w xs aq s
     rcases H.2 with H | H
     · exact .inl ⟨H.1,H.2 aw E w xs aq s⟩
     · exact .inr (H aw E w xs aq s)
   · cases he
 · unfold l8 at he
   split at he<;>cases he
 · unfold l8 at he
   split at he
   · rename_i aI
     exact absurd aI.1.symm H.1
   · cases he
 · unfold l8 at he
   split at he<;>cases he
 · trivial
theorem ajO {xs cJ:List V} {x y:V} (h:xs++[x]=cJ++[y]):xs=cJ∧x=y:=by
 have:=List.append_inj' h rfl
 exact ⟨this.1,by simpa using this.2⟩
theorem ah9 {P:Program} {args:List V} {b:aP} {h aa:af} {v:V} (H:LK P args b h v aa):gk P (l8 dk (args++[.ptr b 0]) h v aa)∧gu P (l8 dk (args++[.ptr b 0]) h v aa):=by
 refine ⟨⟨fun aw f1 bH ab v1 fE dI he=>?_,fun aw f1 bH ab v1 fE _ he=>?_,fun aw bH cC ab v1 fE he=>?_,fun bH ab v1 fE he=>?_⟩,fun f1 bH ab v1 fE he=>?_⟩
 · unfold l8 at he
   split at he
   · rename_i aI
     exact absurd aI.1 dI
   · cases he
 · unfold l8 at he
   split at he<;>cases he
 · unfold l8 at he
   split at he
   · rename_i aI
     obtain ⟨_,aI,rfl⟩:=aI
     obtain ⟨rfl,ag⟩:=ajO aI
     simp only [V.ptr.injEq,and_true] at ag
     subst ag
     simp only [aY.val.injEq] at he
     obtain ⟨rfl,rfl⟩:=he
     exact fun E w xs p aq s ah=>H aw E w xs p aq s ah
   · cases he
 · unfold l8 at he
   split at he<;>cases he
 · trivial
theorem Ji {f:FuncId} {args:List V} {h aa:af} {v:V}:l8 f args h v aa f args h=.val v aa:=by
 unfold l8
 rw [if_pos ⟨rfl,rfl,rfl⟩]
def aR.set (r:aR) (d:Option Nat) (v:V):aR:=
 match d with
 | none=>r
 | some d=>fun t=>if t=d then v else r t
def aR.trim (r:aR):List Nat→aR
 | [],_=>.bad
 | u::us,t=>if t=u then r t else aR.trim r us t
def aR.a1:List V→aR
 | [],_=>.bad
 | v::ad,t=>if t=0 then v else aR.a1 ad (t-1)
noncomputable def AF (r:aR):List Nat→bA
 | []=>.e
 | t::bO=>T.put .bad (r t) (al t) (AF r bO)
theorem SV (r:aR):∀bO:List Nat,dU (AF r bO)=aR.trim r bO
 | []=>by funext t;simp [dU,AF,aR.trim]
 | u::bO=>by
   funext t
   have bk:=congrFun (SV r bO) t
   simp only [dU] at bk
   simp only [dU,AF,aR.trim,T.hr]
   by_cases h:t=u
   · subst h;simp
   · rw [if_neg (fun e=>h (dW e).symm),if_neg h]
     exact bk
theorem D1 (cP:bA):∀bO:List Nat,dU (dm cP bO)=aR.trim (dU cP) bO
 | []=>by funext t;simp [dU,dm,aR.trim]
 | u::bO=>by
   funext t
   have bk:=congrFun (D1 cP bO) t
   simp only [dU] at bk
   simp only [dU,dm,aR.trim,T.hr]
   by_cases h:t=u
   · subst h;simp
   · rw [if_neg (fun e=>h (dW e).symm),if_neg h]
     exact bk
theorem Kt {r:aR}:∀{bO:List Nat} {t:Nat},t ∈ bO→aR.trim r bO t=r t
 | [],t,h=>by simp at h
 | u::bO,t,h=>by
   simp only [aR.trim]
   by_cases hu:t=u
   · rw [if_pos hu]
   · rw [if_neg hu]
     simp only [List.mem_cons] at h
     exact Kt (h.resolve_left hu)
theorem SX {r:aR}:∀{bO:List Nat} {t:Nat},t ∉ bO→aR.trim r bO t=.bad
 | [],t,_=>rfl
 | u::bO,t,h=>by
   simp only [List.mem_cons,not_or] at h
   simp only [aR.trim]
   rw [if_neg h.1]
   exact SX h.2
theorem Dx (d:Option Nat) (cP:bA) (v:V):dU ((fj d).run cP v)=(dU cP).set d v:=by
 cases d with
 | none=>rfl
 | some d=>
   funext t
   simp only [dU,fj,aR.set,T.hr]
   by_cases h:t=d
   · subst h;simp
   · rw [if_neg (fun e=>h (dW e).symm),if_neg h]
abbrev dY:Nat:=17179869185
def Out (au:Nat) (r:aR):Prop:=∀t,au≤t→t≠dY→r t=.bad
theorem BR {au:Nat} {r:aR} (aT:Out au r):∃cP,dU cP=r:=by
 refine ⟨AF r (dY::List.range au),?_⟩
 rw [SV]
 funext t
 by_cases h:t<au
 · exact Kt (List.mem_cons_of_mem _ (List.mem_range.2 h))
 · by_cases ae:t=dY
   · exact Kt (by rw [ae];exact List.mem_cons_self)
   · rw [SX (by simp only [List.mem_cons,List.mem_range,not_or];exact ⟨ae,h⟩),aT t (by omega) ae]
theorem Out.set {au:Nat} {r:aR} (aT:Out au r) {d:Option Nat} (aZ:e3 au d=true) (v:V):Out au (r.set d v):=by
 intro t aF aQ
 cases d with
 | none=>exact aT t aF aQ
 | some d=>
   simp only [e3,Bool.and_eq_true,Nat.blt_eq] at aZ
   simp only [aR.set]
   rw [if_neg (by omega)]
   exact aT t aF aQ
theorem J_ {au:Nat} {r:aR} {d:Option Nat} (aZ:e3 au d=true) (v:V):r.set d v dY=r dY:=by
 cases d with
 | none=>rfl
 | some d=>
   simp only [e3,Bool.and_eq_true,Nat.blt_eq,Nat.ble_eq] at aZ
   simp only [aR.set]
   rw [if_neg (by have:=aZ.2;unfold top at this;unfold dY;omega)]
structure jx (E:Env) (au:Nat) (r:aR) (a:Act):Prop where
 size:a.tmps.size=au
 defers:ko E (r dY) a.defers
 ar:∀t,t≠dY→Rel E (r t) (a.tmps.getD t undef)
theorem xi {t:Nat} (h:t≤top):t≠dY:=by unfold top at h;unfold dY;omega
theorem jx.mono {E av:Env} (h:E.le av) {au:Nat} {r:aR} {a:Act} (k:jx E au r a):jx av au r a:=
 ⟨k.size,k.defers.mono h,fun t aF=>Rel.mono h _ _ (k.ar t aF)⟩
theorem jx.put {E av:Env} (h:E.le av) {au:Nat} {r:aR} {a:Act} (k:jx E au r a) {d:Option Nat} (aZ:e3 au d=true) {v:V} {x:Value} (aq:Rel av v x):jx av au (r.set d v) (a.put d x):=by
 cases d with
 | none=>exact k.mono h
 | some d=>
   have aQ:=J_ (r:=r) aZ v
   simp only [e3,Bool.and_eq_true,Nat.blt_eq] at aZ
   refine ⟨by simp [Act.put,k.size],by rw [aQ];exact k.defers.mono h,fun t fa=>?_⟩
   simp only [aR.set,Act.put]
   rw [Array.getD_eq_getD_getElem?,Array.getElem?_setIfInBounds]
   by_cases aF:t=d
   · subst aF
     rw [if_pos rfl,if_pos rfl,if_pos (by rw [k.size];exact aZ.1)]
     exact aq
   · rw [if_neg aF,if_neg (fun e=>aF e.symm),←Array.getD_eq_getD_getElem?]
     exact Rel.mono h _ _ (k.ar t fa)
noncomputable def G.wp (P:Program) (g:G) (r:aR) (h:af) (K:V→af→Prop):Prop:=
 match g with
 | .call f args=>bB P f (aV.fy r args) h K
 | .nb f args=>∃g xs,(f.a6 r).target (aV.fy r args)=some (g,xs)∧KT P g xs h K
 | g=>∃v aa,g.run P kf r h=.val v aa∧K v aa
theorem G.xO {P:Program} {g:G} {r:aR} {h:af} {K:V→af→Prop} (H:g.wp P r h K):∃call v aa,(gk P call∧gu P call)∧g.run P call r h=.val v aa∧K v aa:=by
 cases g
 case call f args=>
  obtain ⟨v,aa,an,az⟩:=H
  exact ⟨_,v,aa,QX an,Ji,az⟩
 case nb f args=>
  obtain ⟨g,xs,ay,H⟩:=H
  unfold KT at H
  split at H
  rotate_left
  · obtain ⟨v,aa,an,az⟩:=H
    refine ⟨_,v,aa,QX an,?_,az⟩
    simp only [G.run]
    rw [QR ay]
    exact Ji
  · rename_i aH
    subst aH
    obtain ⟨cJ,b,rfl,v,aa,an,az⟩:=H
    refine ⟨_,v,aa,ah9 an,?_,az⟩
    simp only [G.run]
    rw [QR ay]
    exact Ji
 all_goals
  obtain ⟨v,aa,an,az⟩:=H
  exact ⟨kf,v,aa,C' P,an,az⟩
structure bD where
 dst:Option Nat
 g:G
 we:Option (Nat × Bool)
 rs:List Nat
def bD.bad:bD:=⟨none,.bad,none,[]⟩
def gate (v:V) (want:Bool) (A B:Prop):Prop:=
 match v with
 | .bool b=>(b=want→A)∧(b=!want→B)
 | .tuple _=>B
 | _=>False
noncomputable def bD.wp (P:Program) (o:bD) (r:aR) (h:af) (K:aR→V→af→Prop):Prop:=
 match o.we with
 | none=>o.g.wp P (r.trim o.rs) h fun v aa=>K (r.set o.dst v) v aa
 | some (d,want)=>gate (r.trim o.rs d) want (o.g.wp P (r.trim o.rs) h fun v aa=>K (r.set o.dst v) v aa) (K (r.set o.dst (.tuple [])) (.tuple []) h)
def DI (P:Program) (au:Nat) (all:Array Oper) (o:Oper):bD:=
 bif e3 au o.dst&&jW (b5 all o) then
  match o.guard with
  | none=>⟨o.dst,DH P o.op,none,b5 all o⟩
  | some (j,want)=>match all[j]? with
    | some g=>match g.dst with
      | some d=>bif Nat.blt d au&&Nat.ble d top then ⟨o.dst,DH P o.op,some (d,want),b5 all o⟩ else bD.bad
      | none=>bD.bad
    | none=>bD.bad
 else bD.bad
def rb (P:Program) (au:Nat) (all:Array Oper):List Oper→List bD
 | []=>[]
 | o::os=>DI P au all o::rb P au all os
theorem RX (P:Program) (au:Nat) (all:Array Oper):∀l:List Oper,rb P au all l=l.map (DI P au all)
 | []=>rfl
 | o::os=>by simp [rb,RX P au all os]
theorem bD.Bp {P:Program} {r:aR} {h:af} {K:aR→V→af→Prop}:¬bD.bad.wp P r h K:=by
 rintro ⟨v,aa,q,_⟩
 cases q
theorem bD.xO {P:Program} {au:Nat} {all:Array Oper} {o:Oper} {r:aR} {h:af} {K:aR→V→af→Prop} (H:(DI P au all o).wp P r h K):
 ∃call v aa,(gk P call∧gu P call)∧e3 au o.dst=true∧K (r.set o.dst v) v aa∧∀cP,dU cP=r→(cx P au all o).run call cP h=.val v aa:=by
 unfold DI at H
 cases aI:(e3 au o.dst&&jW (b5 all o)) with
 | false=>rw [aI] at H;exact absurd H bD.Bp
 | true=>
   have aZ:e3 au o.dst=true:=by simp only [Bool.and_eq_true] at aI;exact aI.1
   rw [aI] at H
   simp only [cond_true] at H
   cases aH:o.guard with
   | none=>
     rw [aH] at H
     obtain ⟨call,v,aa,an,az,aN⟩:=G.xO H
     refine ⟨call,v,aa,an,aZ,aN,fun cP dP=>?_⟩
     unfold cx
     rw [aI]
     simp only [cond_true,aH,h5]
     refine RW ?_
     rw [D1,dP]
     exact az
   | some oA=>
     obtain ⟨j,want⟩:=oA
     rw [aH] at H
     simp only at H
     cases bK:all[j]? with
     | none=>rw [bK] at H;exact absurd H bD.Bp
     | some g=>
       rw [bK] at H
       simp only at H
       cases jI:g.dst with
       | none=>rw [jI] at H;exact absurd H bD.Bp
       | some d=>
         rw [jI] at H
         simp only at H
         cases ag:(Nat.blt d au&&Nat.ble d top) with
         | false=>rw [ag] at H;exact absurd H bD.Bp
         | true=>
           rw [ag] at H
           simp only [cond_true,bD.wp] at H
           have key:cx P au all o=⟨h5 (some (nj (al d),want)) (e1 P o) (b5 all o)⟩:=by
            unfold cx
            rw [aI]
            simp only [cond_true,aH,bK,jI,ag]
           have Ht:∀cP,dU cP=r→(nj (al d)).run (dm cP (b5 all o))=r.trim (b5 all o) d:=by
            intro cP dP
            rw [←dP,←D1]
            rfl
           cases bs:r.trim (b5 all o) d<;>rw [bs] at H<;>simp only [gate] at H
           case bool b=>
            by_cases Oo:b=want
            · obtain ⟨call,v,aa,an,az,aN⟩:=G.xO (H.1 Oo)
              refine ⟨call,v,aa,an,aZ,aN,fun cP dP=>?_⟩
              rw [key]
              simp only [h5,Ht cP dP,bs]
              rw [show (bif want then b else !b)=true from by subst Oo;cases b<;>rfl]
              simp only [cond_true]
              refine RW ?_
              rw [D1,dP]
              exact az
            · have Om:b=!want:=by cases b<;>cases want<;>simp_all
              refine ⟨kf,.tuple [],h,C' P,aZ,H.2 Om,fun cP dP=>?_⟩
              rw [key]
              simp only [h5,Ht cP dP,bs]
              rw [show (bif want then b else !b)=false from by subst Om;cases want<;>rfl]
              rfl
           case tuple ad=>
            refine ⟨kf,.tuple [],h,C' P,aZ,H,fun cP dP=>?_⟩
            rw [key]
            simp only [h5,Ht cP dP,bs]
noncomputable def rv (P:Program):List bD→aR→af→(aR→af→Prop)→Prop
 | [],r,h,K=>K r h
 | o::os,r,h,K=>o.wp P r h fun bw _ aa=>rv P os bw aa K
structure fR where
 r:aR
 h:af
 v:V
noncomputable def km (P:Program):List bD→aR→af→(List fR→aR→af→Prop)→Prop
 | [],r,h,K=>K [] r h
 | o::os,r,h,K=>o.wp P r h fun bw v aa=>km P os bw aa fun es cV ay=>K (⟨r,h,v⟩::es) cV ay
def wD (es:List fR) (ay:af) (i:Nat):af:=
 match es[i]? with
 | some e=>e.h
 | none=>ay
noncomputable def qx (P:Program) (o:Option bD) (e:Option fR) (es:List fR) (ay:af):List Nat→Prop
 | []=>True
 | s::fe=>(match o,e with
   | some o,some e=>o.wp P e.r (wD es ay s) fun _ dn _=>dn=e.v
   | _,_=>False)∧qx P o e es ay fe
noncomputable def n1 (P:Program) (ops:List bD) (es:List fR) (ay:af):List (Nat × List Nat)→Prop
 | []=>True
 | (p,fe)::rest=>qx P ops[p]? es[p]? es ay fe∧n1 P ops es ay rest
inductive bx where
 | bad
 | skip
 | ar (ops:List bD)
 | draw (ops:List bD) (asks:List (Nat × List Nat))
 | seq (a b:bx)
 | cond (c:aV) (a b:bx)
 | block (id:Nat) (b:bx)
 | loop (b:bx)
 | exit (id:Nat)
 | ret
 | range (f:aV) (bg:List Nat) (au:Nat) (a b:bx)
def vJ (P:Program) (ops:List Oper) (dF aD eb:List Nat):Nat→List Oper→List (Nat × List Nat)
 | _,[]=>[]
 | i,o::os=>bif looks o.op&&!eH P o.op then
    (posOf aD i,eb.filter (q8 P dF ops aD i ((dF[i]?).getD 0)))::vJ P ops dF aD eb (i+1) os
   else vJ P ops dF aD eb (i+1) os
def JY (P:Program) (au:Nat) (ops:Array Oper) (order aD:List Nat):bx:=
 bif kN ops.size order aD&&vT P ops aD then
  .draw (rb P au ops (gK ops order)) (bif qv P ops.toList then vJ P ops.toList (ev [] ops.toList) aD (gZ P aD 0 ops.toList) 0 ops.toList else [])
 else .bad
def b9 (P:Program) (au:Nat):Code→bx
 | .skip=>.skip
 | .label _=>.skip
 | .region _ ops draw=>bif draw then JY P au ops (Ag P ops) (Ds (Ag P ops) 0 ops.toList) else .ar (rb P au ops ops.toList)
 | .seq a b=>.seq (b9 P au a) (b9 P au b)
 | .cond c a b=>.cond (rx c) (b9 P au a) (b9 P au b)
 | .block id b=>.block id (b9 P au b)
 | .loop b=>.loop (b9 P au b)
 | .exit id=>.exit id
 | .ret=>.ret
 | .scope b=>b9 P au b
 | .rangeFunc f bg a b=>bif nJ au bg.toList&&(noMark a&&noMark b) then .range (rx f) bg.toList au (b9 P au a) (b9 P au b) else .bad
 | _=>.bad
structure vs (P:Program) (l:jv) (au:Nat) (r:aR) (bg:List Nat) (As jr:bx):Prop where
 aU:l.au=au
 aJ:dU l.r=r
 ah:l.bg=bg
 bq:b9 P au l.assign=As
 ag:b9 P au l.body=jr
 lP:nJ au bg=true
 amw:noMark l.assign=true
 ew:noMark l.body=true
 out:Out au r
def jv.go (l:jv) (st:Nat) (dc:Option de):jv:=⟨st,dc,l.d,l.au,l.r,l.bg,l.assign,l.body⟩
def aR.sD:List Nat→List V→aR→aR
 | p::bg,v::ad,r=>aR.sD bg ad (r.set (some p) v)
 | _,_,r=>r
def ly (bg:List Nat) (ad:List V) (r:aR):aR:=(aR.sD bg ad r).set (some dY) .bad
def de.andThen:de→Prop→Prop→Prop
 | .normal,A,_=>A
 | _,_,B=>B
def de.leave (id:Nat):de→de
 | .exit i=>if i=id then .normal else .exit i
 | e=>e
noncomputable def b7 (P:Program):bx→aR→af→(de→aR→af→Prop)→Prop
 | .bad,_,_,_=>False
 | .skip,r,h,Q=>Q .normal r h
 | .ar ops,r,h,Q=>rv P ops r h (Q .normal)
 | .draw ops asks,r,h,Q=>km P ops r h fun es cV ay=>n1 P ops es ay asks∧Q .normal cV ay
 | .seq a b,r,h,Q=>b7 P a r h fun e bw aa=>e.andThen (b7 P b bw aa Q) (Q e bw aa)
 | .cond c a b,r,h,Q=>match c.a6 r with
   | .bool t=>(t=true→b7 P a r h Q)∧(t=false→b7 P b r h Q)
   | _=>False
 | .block id b,r,h,Q=>b7 P b r h fun e bw aa=>Q (e.leave id) bw aa
 | .loop b,r,h,Q=>∃(I:aR→af→Prop) (μ:aR→af→Nat),I r h∧∀r h,I r h→b7 P b r h fun e bw aa=>e.andThen (I bw aa∧μ bw aa<μ r h) (Q e bw aa)
 | .exit id,r,h,Q=>Q (.exit id) r h
 | .ret,r,h,Q=>Q .ret r h
 | .range f bg au a b,r,h,Q=>∃g cs,f.a6 r=.func g cs∧g≠dk∧(∃fn,P.funcs[g]? =some fn∧fn.body.isSome=true)∧∀l,vs P l au r bg a b→l.st=0→l.dc=none→
    bB P g (.func dk [.ptr (al (h.next+1)) 0]::cs) ((h.new .er).new (.cr l)) fun _ aa=>
     ∃cR,aa.get (al (h.next+1))=.cr cR∧cR.st≠1∧Q (cR.dc.getD .normal) (r.set (some dY) (.tuple (.ptr (al h.next) 0::(r dY).list))) (aa.set (al (h.next+1)) .dead)
def bx.plain:bx→Bool
 | .seq a b=>a.plain&&b.plain
 | .cond _ a b=>a.plain&&b.plain
 | .block _ b=>b.plain
 | .loop b=>b.plain
 | .range _ _ _ _ _=>false
 | _=>true
def AR (P:Program) (au:Nat) (c:Code) (r:aR) (h:af) (e:de) (bw:aR) (aa:af):Prop:=
 ∀(rd:Option Nat) (aw:Fr) E a w,(rd=none∨noMark c=true)→jx E au r a→a' aw E h w→∀Q:Exit→Act→World→Prop,
  (∀av bm ao,E.le av→jx av au bw bm→a' aw av aa ao→Q (toExit e) bm ao)→D4 rd P c Q a w
section
variable {P:Program} {au:Nat}
theorem Tl (bG:ez P) {all:Array Oper}:∀(l:List Oper) (i:Nat),(∀j,l[j]? =all[i+j]?)→∀(r:aR) (h:af) (K:aR→af→Prop),Out au r→rv P (rb P au all l) r h K→
 ∃bw aa,K bw aa∧(Out au bw∧bw dY=r dY)∧∀(rd:Option Nat) (aw:Fr) E a w,jx E au r a→a' aw E h w→∀Q:Exit→Act→World→Prop,
  (∀av bm ao,E.le av→jx av au bw bm→a' aw av aa ao→Q .normal bm ao)→wpOpsIn (ch rd) 0 P all Q (List.range' i l.length) a w
 | [],i,_,r,h,K,aT,H=>by
   refine ⟨r,h,H,⟨aT,rfl⟩,fun rd aw E a w k s Q cZ=>?_⟩
   simp only [List.length_nil,List.range'_zero,wpOpsIn]
   exact cZ E a w (Env.le.refl E) k s
 | o::os,i,ai,r,h,K,aT,H=>by
   have aC:all[i]? =some o:=by have:=ai 0;simpa using this.symm
   simp only [rb,rv] at H
   obtain ⟨call,v,ab,aI,aZ,H1,cT⟩:=bD.xO H
   obtain ⟨bT,ae,an,az,aN⟩:=Tl bG os (i+1) (fun j=>by
    have:=ai (j+1)
    simp only [List.getElem?_cons_succ] at this
    rw [this]
    congr 1
    omega) _ ab K (aT.set aZ v) H1
   refine ⟨bT,ae,an,⟨az.1,az.2.trans (J_ aZ v)⟩,fun rd aw E a w k s Q cZ=>?_⟩
   obtain ⟨cP,dP⟩:=BR aT
   rw [List.length_cons,List.range'_succ,wpOpsIn_cons]
   refine pv bG aI.1 aI.2 aC (cT cP dP) k.size (fun t aF=>?_) s fun av x ao bS b0 cB=>?_
   · have:=congrFun dP t
     simp only [dU] at this
     rw [this]
     exact k.ar t (xi (Nat.le_of_ble_eq_true (List.all_eq_true.1 (jB (cT cP dP)).2 t aF)))
   · exact aN rd aw av _ ao (k.put bS aZ b0) cB Q fun cn a2 b4 cF z2 z3=>cZ cn a2 b4 (bS.trans cF) z2 z3
noncomputable def toF (e:eE):fR:=⟨dU e.r,e.h,e.v⟩
theorem acv (es:List eE) (ay:af) (i:Nat):wD (es.map toF) ay i=b_ es ay i:=by
 unfold wD b_
 rw [List.getElem?_map]
 cases es[i]? <;>rfl
theorem Tk {all:Array Oper}:∀(l:List Oper) (lG:bA) (h:af) (K:List fR→aR→af→Prop),km P (rb P au all l) (dU lG) h K→Out au (dU lG)→
 ∃es mY ay,K (es.map toF) (dU mY) ay∧(Out au (dU mY)∧dU mY dY=dU lG dY)∧es.length=l.length∧b_ es ay 0=h∧dX es mY 0=lG∧
  ∀j o,l[j]? =some o→∃e call,es[j]? =some e∧(gk P call∧gu P call)∧(cx P au all o).run call e.r e.h=.val e.v (b_ es ay (j+1))∧dX es mY (j+1)=(fj o.dst).run e.r e.v
 | [],lG,h,K,H,aT=>⟨[],lG,h,H,⟨aT,rfl⟩,rfl,rfl,rfl,fun j o bK=>by simp at bK⟩
 | o::os,lG,h,K,H,aT=>by
   simp only [rb,km] at H
   obtain ⟨call,v,ab,aI,aZ,H1,cT⟩:=bD.xO H
   rw [←Dx] at H1
   obtain ⟨es,mY,ay,an,az,aN,bM,dL,eP⟩:=Tk os _ ab _ H1 (by rw [Dx];exact aT.set aZ v)
   refine ⟨⟨lG,h,v⟩::es,mY,ay,an,⟨az.1,az.2.trans (by rw [Dx];exact J_ aZ v)⟩,by simp [aN],by simp [b_],by simp [dX],fun j b8 bK=>?_⟩
   cases j with
   | zero=>
     simp only [List.getElem?_cons_zero,Option.some.injEq] at bK
     subst bK
     exact ⟨⟨lG,h,v⟩,call,rfl,aI,by rw [wC,bM];exact cT lG rfl,by rw [xy,dL]⟩
   | succ j=>
     obtain ⟨e,c,bS,b0,cB,hh⟩:=eP j b8 (by simpa using bK)
     exact ⟨e,c,by simpa using bS,b0,by rw [wC];exact cB,by rw [xy];exact hh⟩
theorem LY {o:Option bD} {e:Option fR} {es:List fR} {ay:af}:∀{fe:List Nat},qx P o e es ay fe→∀s ∈ fe,∃b8 dj,o=some b8∧e=some dj∧b8.wp P dj.r (wD es ay s) fun _ dn _=>dn=dj.v
 | [],_,s,h=>by simp at h
 | fA::fe,H,s,hm=>by
   simp only [qx] at H
   simp only [List.mem_cons] at hm
   rcases hm with rfl | hm
   · cases o with
     | none=>exact H.1.elim
     | some o=>
       cases e with
       | none=>exact H.1.elim
       | some e=>exact ⟨o,e,rfl,rfl,H.1⟩
   · exact LY H.2 s hm
theorem L1 {ops:List Oper} {dF aD eb:List Nat} {gs:List bD} {es:List fR} {ay:af}:∀{l:List Oper} {i:Nat},n1 P gs es ay (vJ P ops dF aD eb i l)→∀j o,l[j]? =some o→looks o.op=true→eH P o.op=false→
 qx P gs[posOf aD (i+j)]? es[posOf aD (i+j)]? es ay (eb.filter (q8 P dF ops aD (i+j) ((dF[i+j]?).getD 0)))
 | [],i,_,j,o,h,_,_=>by simp at h
 | b8::os,i,H,j,o,h,ab,ae=>by
   simp only [vJ] at H
   cases j with
   | zero=>
     simp only [List.getElem?_cons_zero,Option.some.injEq] at h
     subst h
     rw [ab,ae] at H
     simp only [Bool.not_false,Bool.and_true,cond_true,n1] at H
     exact H.1
   | succ j=>
     have jt:n1 P gs es ay (vJ P ops dF aD eb (i+1) os):=by
      cases aI:(looks b8.op&&!eH P b8.op) with
      | true=>rw [aI] at H;simp only [cond_true,n1] at H;exact H.2
      | false=>rw [aI] at H;exact H
     have:=L1 jt j o (by simpa using h) ab ae
     rw [show i+1+j=i + (j+1) from by omega] at this
     exact this
theorem aat (gy:au≤top) (cY:P.follows .mixedOrders=true) (bG:ez P) {id:Nat} {ops:Array Oper} {order aD:List Nat} {r:aR} {h:af} {Q:de→aR→af→Prop} (aT:Out au r)
 (H:b7 P (JY P au ops order aD) r h Q):∃bw aa,Q .normal bw aa∧(Out au bw∧bw dY=r dY)∧AR P au (.region id ops true) r h .normal bw aa:=by
 unfold JY at H
 cases ay:(kN ops.size order aD&&vT P ops aD) with
 | false=>rw [ay] at H;exact H.elim
 | true=>
   rw [ay] at H
   simp only [cond_true,b7] at H
   simp only [Bool.and_eq_true] at ay
   obtain ⟨gp,gH⟩:=ay
   unfold kN at gp
   simp only [Bool.and_eq_true,Nat.beq_eq] at gp
   obtain ⟨ns,wL,zi,zj⟩:=gp
   have hz:∀k,k<ops.size→posOf aD k<ops.size∧order[posOf aD k]? =some k:=by
    intro k aE
    have aH:aD[k]? =some (posOf aD k):=by
     unfold posOf
     rw [List.getElem?_eq_getElem (by omega)]
     rfl
    have:=sG zi aH
    rw [Nat.zero_add] at this
    exact ⟨by have:=(List.getElem?_eq_some_iff.1 this).1;omega,this⟩
   have kh:∀p,p<ops.size→∃i,i<ops.size∧posOf aD i=p:=by
    intro p ah
    have aH:order[p]? =some (order[p]'(by omega)):=List.getElem?_eq_getElem (by omega)
    have:=sG zj aH
    rw [Nat.zero_add] at this
    refine ⟨order[p]'(by omega),by have:=(List.getElem?_eq_some_iff.1 this).1;omega,?_⟩
    unfold posOf
    rw [this]
    rfl
   obtain ⟨lG,wu⟩:=BR aT
   rw [←wu] at H aT
   obtain ⟨es,mY,bf,⟨yX,cZ⟩,⟨qV,O5⟩,an,az,aN,bM⟩:=Tk _ lG h _ H aT
   refine ⟨_,bf,cZ,⟨qV,by rw [←wu];exact O5⟩,fun rd aw E a w aJ k s hE Hd=>?_⟩
   have step:∀i:Nat,∃call,(gk P call∧gu P call)∧∀o,ops[i]? =some o→∃e,es[posOf aD i]? =some e∧(cx P au ops o).run call e.r e.h=.val e.v (b_ es bf (posOf aD i+1))∧dX es mY (posOf aD i+1)=(fj o.dst).run e.r e.v:=by
    intro i
    cases aC:ops[i]? with
    | none=>exact ⟨kf,C' P,fun o h=>by cases h⟩
    | some o=>
      obtain ⟨e,call,bS,b0,cB,hh⟩:=bM _ o (l7 (hz i (Array.getElem?_eq_some_iff.1 aC).1).2 aC)
      exact ⟨call,b0,fun b8 gU=>by cases gU;exact ⟨e,bS,cB,hh⟩⟩
   obtain ⟨calls,wy⟩:=Classical.axiomOfChoice step
   have r':∀j o,ops[j]? =some o→looks o.op=true→eH P o.op=false→∃e,es[posOf aD j]? =some e∧∀s ∈ gZ P aD 0 ops.toList,
    q8 P (ev [] ops.toList) ops.toList aD j (((ev [] ops.toList)[j]?).getD 0) s=true→∃c aa,(gk P c∧gu P c)∧(cx P au ops o).run c e.r (b_ es bf s)=.val e.v aa:=by
    intro j o pJ eD acA
    have bK:=(Array.getElem?_eq_some_iff.1 pJ).1
    obtain ⟨e,bS,b0,cB⟩:=(wy j).2 o pJ
    refine ⟨e,bS,fun s aQ hm=>?_⟩
    cases ai:qv P ops.toList with
    | true=>
      rw [ai] at yX
      simp only [cond_true] at yX
      have:=L1 yX j o (by simpa using pJ) eD acA
      rw [Nat.zero_add] at this
      obtain ⟨b8,dj,cF,z2,z3⟩:=LY this s (List.mem_filter.2 ⟨aQ,hm⟩)
      rw [RX,List.getElem?_map,l7 (hz j bK).2 pJ] at cF
      simp only [Option.map_some,Option.some.injEq] at cF
      rw [List.getElem?_map,bS] at z2
      simp only [Option.map_some,Option.some.injEq] at z2
      subst cF;subst z2
      rw [acv] at z3
      obtain ⟨c,v,aa,ek,_,y3,y4⟩:=bD.xO z3
      have To:=y4 e.r rfl
      rw [show v=e.v from y3] at To
      exact ⟨c,aa,ek,To⟩
    | false=>
      have none:∀(l:List Oper),qv P l=false→∀(j:Nat) (o:Oper),l[j]? =some o→eH P o.op=false:=by
       intro l
       induction l with
       | nil=>intro _ j o h;simp at h
       | cons x l bk=>
         intro h j o aT
         simp only [qv,Bool.or_eq_false_iff] at h
         cases j with
         | zero=>simp only [List.getElem?_cons_zero,Option.some.injEq] at aT;subst aT;exact h.1
         | succ j=>exact bk h.2 j o (by simpa using aT)
      have hc:s=ops.size:=by
       rcases ss aQ with h | ⟨CQ,b8,ab,ae,aG⟩
       · simpa using h
       · have:=none _ ai CQ b8 ab
         unfold dT at ae
         rw [this] at ae
         cases ae
      have flat:∀d,d≤ops.size→b_ es bf d=b_ es bf 0:=by
       intro d
       induction d with
       | zero=>intro _;rfl
       | succ d bk=>
         intro aZ
         obtain ⟨i,y',mv⟩:=kh d (by omega)
         have cl:ops[i]? =some ops[i]:=Array.getElem?_eq_getElem y'
         obtain ⟨aaw,b3,b4,_⟩:=(wy i).2 ops[i] cl
         rw [mv] at b3 b4
         have dI:eH P ops[i].op=false:=none _ ai i _ (by simp)
         rw [(tD dI b4).1,←bk (by omega)]
         simp [b_,b3]
      have amb:=(hz j bK).1
      have:e.h=b_ es bf s:=by rw [hc,flat ops.size (Nat.le_refl _),←flat (posOf aD j) (by omega)];simp [b_,bS]
      rw [←this]
      exact ⟨_,_,(wy j).1,b0⟩
   have hlen:es.length=ops.size:=by rw [an,oH,ns]
   have C:Cert P au ops calls es lG h mY bf (gZ P aD 0 ops.toList) order aD ops.size ops.size false:=
    ⟨hlen,Nat.le_refl _,Nat.le_refl _,hz,kh,az,aN,fun i o cl _=>(wy i).2 o cl,
      fun i o cl=>by
       obtain ⟨cI,cF,z2,z3⟩:=Nd gH i o cl
       exact ⟨cI,cF,z2,fun _ k ok aE _=>by
        obtain ⟨mk,ek,eJ,y3⟩:=z3 k ok aE
        exact ⟨mk,ek,eJ,fun aK aS bn=>.inl (y3 aK aS bn)⟩⟩,
      by simpa using CU (P:=P) (aD:=aD) (l:=ops.toList) (i:=0),
      fun j o ab ae=>by simpa using xf (aD:=aD) (i:=0) (j:=j) (l:=ops.toList) (by simpa using ab) ae,
      fun s aQ=>by
       rcases ss aQ with h | ⟨j,o,ab,ae,aG⟩
       · exact .inl (.inl (by simpa using h))
       · exact .inr ⟨j,o,by simpa using ab,ae,by simpa using aG⟩,
      fun j o ab ae aG _=>r' j o ab ae aG,fun h=>absurd h (Nat.lt_irrefl _),fun h=>absurd h (Nat.lt_irrefl _)⟩
   have aE:RegRel0 E au lG a:=⟨k.size,fun t aF=>by
    have:=congrFun wu t
    simp only [dU] at this
    rw [this]
    exact k.ar t (xi aF)⟩
   have da:∀k,¬(Array.replicate ops.size false).getD k false=true:=by
    intro k
    rw [r4,Array.getElem?_replicate]
    split<;>simp
   have jk:Holds aw aw es bf aD (jd ops es bf aD (Array.replicate ops.size false) 0):=
    ⟨rfl,fun _ _=>rfl,fun k aE=>(by obtain ⟨_,_,_,_,bb⟩:=aE;omega),fun k bt aE=>(by obtain ⟨_,_,_,_,bb⟩:=aE;omega)⟩
   obtain ⟨fA,dR,g1,g2,g3,g4,g5,g6⟩:=C.advance ops.size 0 (by omega) (fun k o _ _ _=>da k) aw jk (E:=E) (w:={w with drawn:=w.drawn}) (by rw [az];exact s.same rfl rfl rfl rfl)
   have gz:dU mY dY=r dY:=by rw [←wu];exact O5
   have fin:∀av bm ao,E.le av→RegRel0 av au mY bm→bm.defers=a.defers→a' aw av bf ao→hE .normal bm ao:=by
    intro av bm ao cF z2 aln z3
    refine Hd av bm ao cF ⟨z2.size,by rw [gz,aln];exact k.defers.mono cF,fun t fa=>?_⟩ z3
    by_cases aF:t≤top
    · exact z2.ar t aF
    · have ca:=z2.size
      rw [qV t (by omega) fa]
      simp [Rel]
   refine Ti cY (Ng bG (fun i=>(wy i).1.1) (fun i=>(wy i).1.2) C (fQ:=E) (D:=a.defers) (fun _=>fin)
    (fun _ _ _ _ _ _ _ h=>absurd h (Nat.lt_irrefl _)) (fun h=>absurd h (Nat.lt_irrefl _)) ops.size _ a _ ?_ ?_)
   · exact Nat.le_trans List.countP_le_length (by simp)
   · refine ⟨by simp,aE.size,rfl,fun bt aE=>absurd aE (da bt),fun bt o e aE=>absurd aE (da bt),E,fA,dR,Env.le.refl E,g1,g3,fun bt o ab ae=>⟨fun h=>absurd h (da bt),fun h=>by have:=g4 bt o ab ae (Nat.zero_le _);omega⟩,
      fun bt o _ _ h=>absurd h (da bt),g5,?_,fun t aF=>.inr ⟨fun bt o aE=>absurd aE (da bt),aE.ar t aF⟩⟩
     exact g6.same rfl rfl rfl rfl
theorem aaQ {rd:Option Nat} {e:de} {Q:Exit→Act→World→Prop} {a:Act} {w:World} (h:Q (toExit e) a w):(GX e).wpIn (ch rd) 0 P Q a w:=by
 cases e with
 | normal=>exact wpIn_skip h
 | exit id=>exact wpIn_exit h
 | ret=>exact wpIn_ret h
theorem aiX (gy:au≤top) (cY:P.follows .mixedOrders=true) (bG:ez P) {f:Operand} {bg:Array Tmp} {x y:Code} {r:aR} {h:af} {Q:de→aR→af→Prop} (aT:Out au r)
 (H:b7 P (b9 P au (.rangeFunc f bg x y)) r h Q):∃e bw aa,Q e bw aa∧(Out au bw∧((b9 P au (.rangeFunc f bg x y)).plain=true→bw dY=r dY))∧AR P au (.rangeFunc f bg x y) r h e bw aa:=by
 simp only [b9] at H ⊢
 cases gH:(nJ au bg.toList&&(noMark x&&noMark y)) with
 | false=>rw [gH] at H;exact H.elim
 | true=>
   rw [gH] at H
   simp only [cond_true,b7] at H ⊢
   simp only [Bool.and_eq_true] at gH
   obtain ⟨g,cs,bs,aH,t',H⟩:=H
   obtain ⟨cP,dP⟩:=BR aT
   obtain ⟨v,aa,cN,cR,aK,aS,cZ⟩:=H ⟨0,none,al h.next,au,cP,bg.toList,x,y⟩ ⟨rfl,dP,rfl,rfl,rfl,gH.1,gH.2.1,gH.2.2,aT⟩ rfl rfl
   refine ⟨_,_,_,cZ,⟨fun t ab ae=>by simp only [aR.set];rw [if_neg ae];exact aT t ab ae,fun z=>by cases z⟩,fun rd aw E a w aJ k s hE Hd=>?_⟩
   have Cy:rd=none:=aJ.resolve_right (by simp [noMark])
   subst Cy
   have ay:Rel E (.func g cs) (a.eval f):=by
    rw [←bs]
    cases f with
    | tmp t=>
      simp only [rx]
      cases ag:Nat.ble t top with
      | false=>simp [aV.a6,Rel]
      | true=>
        simp only [cond_true,aV.a6]
        exact k.ar t (xi (Nat.le_of_ble_eq_true ag))
    | const v=>exact sA E v
    | func f=>
      simp only [rx]
      cases ag:Nat.beq f dk with
      | true=>simp [aV.a6,Rel]
      | false=>
        simp only [cond_false,aV.a6,Rel]
        exact .inl ⟨fun e=>by subst e;simp at ag,_,rfl,by simp [bc]⟩
    | global g=>simp [rx,aV.a6,Rel]
   simp only [Rel] at ay
   rcases ay with ⟨_,eB,c_,ai⟩ | ⟨HA,_⟩
   case inr=>exact absurd HA aH
   refine (wpIn_rangeFunc fun fn _=>?_:(Code.rangeFunc f bg x y).wpIn (ch none) 0 P hE a w)
   have f0:=s.fresh h.next (Nat.le_refl _)
   obtain ⟨fl,tP⟩:∃fl,fl=E.put (al h.next) ⟨w.heap.size,0,0⟩:=⟨_,rfl⟩
   obtain ⟨b3,q1⟩:∃b3:World,b3={w with heap:=w.heap.push (.deferred (some []))}:=⟨_,rfl⟩
   have zo:fl (al h.next)=some ⟨w.heap.size,0,0⟩:=by rw [tP];unfold Env.put;rw [if_pos rfl]
   have s1:a' aw fl (h.new .er) b3:=by
    rw [tP,q1]
    refine s.alloc 0 ⟨⟨w.heap.size,0,0⟩,by unfold Env.put;rw [if_pos rfl],s.frame.size,by simp⟩
   have nz:E.le fl:=by rw [tP];exact Env.kK f0
   have uv:b3.heap.size=w.heap.size+1:=by rw [q1];simp
   obtain ⟨o,gU⟩:∃o:Loop,o={state:=.ready,pending:=none,fn,tmps:=a.tmps,params:=bg,assign:=x,body:=y,defers:=w.heap.size}:=⟨_,rfl⟩
   obtain ⟨cn,qL⟩:∃cn,cn=fl.put (al (h.next+1)) ⟨b3.heap.size,0,0⟩:=⟨_,rfl⟩
   obtain ⟨b4,sh⟩:∃b4:World,b4={b3 with heap:=b3.heap.push (.loop o)}:=⟨_,rfl⟩
   have f1:fl (al (h.next+1))=none:=s1.fresh (h.next+1) (Nat.le_refl _)
   have kJ:fl.le cn:=by rw [qL];exact Env.kK f1
   have zp:cn (al (h.next+1))=some ⟨b3.heap.size,0,0⟩:=by rw [qL];unfold Env.put;rw [if_pos rfl]
   have cr:tn cn ⟨0,none,al h.next,au,cP,bg.toList,x,y⟩ o:=by
    subst gU
    refine ⟨rfl,rfl,rfl,rfl,rfl,k.size,fun t aF=>?_,_,kJ _ _ zo,rfl⟩
    have:=congrFun dP t
    simp only [dU] at this
    simp only [this]
    exact Rel.mono (nz.trans kJ) _ _ (k.ar t (xi aF))
   have s2:a' aw cn ((h.new .er).new (.cr ⟨0,none,al h.next,au,cP,bg.toList,x,y⟩)) b4:=by
    rw [qL,sh]
    refine s1.alloc 0 ⟨⟨b3.heap.size,0,0⟩,o,by show fl.put (al (h.next+1)) _ (al (h.next+1))=_;unfold Env.put;rw [if_pos rfl],by show aw.w.heap.size≤b3.heap.size;rw [uv];have:=s.frame.size;omega,by simp,?_⟩
    have:=cr
    rw [qL] at this
    exact this
   obtain ⟨hf,ot⟩:∃hf,hf=b3.heap.size:=⟨_,rfl⟩
   have a_:Rel cn (.func dk [.ptr (al (h.next+1)) 0]) (.func (.yield hf) #[] #[]):=by
    simp only [Rel]
    exact .inr ⟨trivial,_,_,rfl,zp,by rw [ot]⟩
   have oi:bc cn (.func dk [.ptr (al (h.next+1)) 0]::cs) (.func (.yield hf) #[] #[]::eB.toList):=by
    simp only [bc]
    exact ⟨_,_,rfl,a_,bc.mono (nz.trans kJ) _ _ ai⟩
   have aI:Calls P g (Value.func (Fn.yield hf) #[] #[]::eB.toList).toArray b4 (rangePost (ch none) 0 P hf hE {a with defers:=[{target:=.collected w.heap.size,args:=#[]}]++a.defers}):=(cN.calls bG t' aw cn b4 _ oi s2).mono fun e ao aA=>by
    obtain ⟨av,am3,rfl,an,_,aN⟩:=aA
    simp only [rangePost]
    have hx:=an _ _ zp
    have ag:=aN.at hx
    rw [aK] at ag
    obtain ⟨p',b8,fF,c2,bf,zg⟩:=ag
    rw [hx] at fF;cases fF
    obtain ⟨t1,t2,t3,t4,t5,t6,t7,t8⟩:=zg
    simp only at bf
    rw [←ot] at bf
    have HS:(b8.state == LoopState.busy)=false:=by
     rw [t1]
     match k6:cR.st with
     | 0=>rfl
     | 1=>exact absurd k6 aS
     | n+2=>rfl
    have kB:=(Array.getElem?_eq_some_iff.1 bf).1
    let gj:World:={ao with heap:=ao.heap.setIfInBounds hf (.loop {b8 with state:=.exhausted})}
    have fL:(Instr.endLoop hf).run P ao=.ok b8.pending gj:=by
     have qZ:(setObj hf (.loop {b8 with state:=.exhausted})).run P ao=.ok () gj:=by simp only [setObj,Sem.run,bf];rfl
     simp only [Instr.endLoop,Sem.run_bind,run_getLoop bf,Result.andThen_ok,HS,Bool.false_eq_true,if_false,qZ,Sem.run_pure]
    have sO:a' aw av (aa.set (al (h.next+1)) .dead) gj:=by
     refine aN.gone (p:=⟨b3.heap.size,0,0⟩) (by rw [aK];rfl) hx c2 (by simp [gj]) (fun j bK=>?_) rfl rfl rfl
     simp only at bK
     simp only [gj,Array.getElem?_setIfInBounds]
     rw [if_neg (fun e=>bK (by rw [←e,ot]))]
    have gI:jx av au (r.set (some dY) (.tuple (.ptr (al h.next) 0::(r dY).list))) {a with defers:=[{target:=.collected w.heap.size,args:=#[]}]++a.defers}:=by
     refine ⟨k.size,?_,fun t aF=>?_⟩
     · simp only [aR.set,if_true,ko,mf,List.cons_append,List.nil_append]
       exact ⟨_,_,rfl,⟨_,an _ _ (kJ _ _ zo),rfl⟩,(k.defers.mono (nz.trans (kJ.trans an))).list⟩
     · simp only [aR.set]
       rw [if_neg aF]
       exact Rel.mono (nz.trans (kJ.trans an)) _ _ (k.ar t aF)
    refine ⟨b8.pending,gj,fL,?_⟩
    rw [t2]
    have fin:=Hd av _ gj (nz.trans (kJ.trans an)) gI sO
    cases iu:cR.dc with
    | none=>rw [iu] at fin;exact fin
    | some e=>rw [iu] at fin;exact aaQ fin
   obtain ⟨al0,acJ,t'⟩:=t'
   refine ⟨hf,[{target:=.collected w.heap.size,args:=#[]}],b4,{target:=.fn (.func g) eB,args:=#[]++#[.func (.yield hf) #[] #[]]},b4,g,_,b4,?_,?_,fun _ _=>trivial,?_,fun h=>by simp at h,rY.2 aI⟩
   · subst gU sh q1
     have he:=run_enterLoop_outer (P:=P) (w:=w) fn a.tmps bg x y
     rw [World.alloc,World.alloc] at he
     simp only [Array.size_push] at ot ⊢
     rw [ot]
     exact he
   · simp only [resolve,c_,Deferred.ofValue,Sem.run_pure]
     simp [Act.eval]
   · simp only [invoke]
     have e:(#[]++#[Value.func (.yield hf) #[] #[]]:Array Value)++eB=(Value.func (.yield hf) #[] #[]::eB.toList).toArray:=by apply Array.ext';simp
     rw [e]
     exact sN bG acJ t' _ b4
theorem KE (gy:au≤top) (cY:P.follows .mixedOrders=true) (bG:ez P):∀(c:Code) (r:aR) (h:af) (Q:de→aR→af→Prop),Out au r→b7 P (b9 P au c) r h Q→
 ∃e bw aa,Q e bw aa∧(Out au bw∧((b9 P au c).plain=true→bw dY=r dY))∧AR P au c r h e bw aa:=by
 intro c
 induction c with
 | skip=>
   intro r h Q aT H
   exact ⟨.normal,r,h,H,⟨aT,fun _=>rfl⟩,fun rd aw E a w aJ k s hE cZ=>wpIn_skip (cZ E a w (Env.le.refl E) k s)⟩
 | label l=>
   intro r h Q aT H
   exact ⟨.normal,r,h,H,⟨aT,fun _=>rfl⟩,fun rd aw E a w aJ k s hE cZ=>wpIn_label (cZ E a w (Env.le.refl E) k s)⟩
 | exit id=>
   intro r h Q aT H
   exact ⟨.exit id,r,h,H,⟨aT,fun _=>rfl⟩,fun rd aw E a w aJ k s hE cZ=>wpIn_exit (cZ E a w (Env.le.refl E) k s)⟩
 | ret=>
   intro r h Q aT H
   exact ⟨.ret,r,h,H,⟨aT,fun _=>rfl⟩,fun rd aw E a w aJ k s hE cZ=>wpIn_ret (cZ E a w (Env.le.refl E) k s)⟩
 | region id ops draw=>
   intro r h Q aT H
   cases draw with
   | true=>
     simp only [b9,cond_true] at H
     obtain ⟨bw,aa,an,az,aN⟩:=aat gy cY bG (id:=id) aT H
     exact ⟨.normal,bw,aa,an,⟨az.1,fun _=>az.2⟩,aN⟩
   | false=>
     simp only [b9,cond_false,b7] at H
     obtain ⟨bw,aa,an,az,aN⟩:=Tl bG ops.toList 0 (fun j=>by simp) r h _ aT H
     refine ⟨.normal,bw,aa,an,⟨az.1,fun _=>az.2⟩,fun rd aw E a w aJ k s hE cZ=>?_⟩
     refine wpIn_region ?_
     have:=aN rd aw E a w k s hE cZ
     rw [List.range_eq_range']
     simpa using this
 | seq x y uA uB=>
   intro r h Q aT H
   simp only [b9,b7] at H
   obtain ⟨e,bl,ab,an,az,aN⟩:=uA r h _ aT H
   cases e with
   | normal=>
     obtain ⟨e,bT,ae,bS,b0,cB⟩:=uB bl ab Q az.1 an
     refine ⟨e,bT,ae,bS,⟨b0.1,fun z=>by simp only [b9,bx.plain,Bool.and_eq_true] at z;exact (b0.2 z.2).trans (az.2 z.1)⟩,fun rd aw E a w aJ k s hE cZ=>?_⟩
     refine wpIn_seq (aN rd aw E a w (aJ.imp (fun h=>h) fun h=>by simp only [noMark,Bool.and_eq_true] at h;exact h.1) k s _ fun av bm ao cF z2 z3=>?_).wp
     exact (cB rd aw av bm ao (aJ.imp (fun h=>h) fun h=>by simp only [noMark,Bool.and_eq_true] at h;exact h.2) z2 z3 hE fun cn a2 b4 ek eJ y3=>cZ cn a2 b4 (cF.trans ek) eJ y3).wp
   | exit i=>
     refine ⟨.exit i,bl,ab,an,⟨az.1,fun z=>by simp only [b9,bx.plain,Bool.and_eq_true] at z;exact az.2 z.1⟩,fun rd aw E a w aJ k s hE cZ=>?_⟩
     refine wpIn_seq (aN rd aw E a w (aJ.imp (fun h=>h) fun h=>by simp only [noMark,Bool.and_eq_true] at h;exact h.1) k s _ fun av bm ao cF z2 z3=>?_).wp
     exact cZ av bm ao cF z2 z3
   | ret=>
     refine ⟨.ret,bl,ab,an,⟨az.1,fun z=>by simp only [b9,bx.plain,Bool.and_eq_true] at z;exact az.2 z.1⟩,fun rd aw E a w aJ k s hE cZ=>?_⟩
     refine wpIn_seq (aN rd aw E a w (aJ.imp (fun h=>h) fun h=>by simp only [noMark,Bool.and_eq_true] at h;exact h.1) k s _ fun av bm ao cF z2 z3=>?_).wp
     exact cZ av bm ao cF z2 z3
 | cond c x y uA uB=>
   intro r h Q aT H
   simp only [b9,b7] at H
   cases bs:(rx c).a6 r<;>rw [bs] at H<;>simp only at H<;>try (exact H.elim)
   rename_i t
   have aI:∀E a,jx E au r a→a.eval c=.bool t:=by
    intro E a k
    cases c with
    | tmp d=>
      simp only [rx] at bs
      cases ag:Nat.ble d top with
      | false=>rw [ag] at bs;simp [aV.a6] at bs
      | true=>
        rw [ag] at bs
        simp only [cond_true,aV.a6] at bs
        have:=k.ar d (xi (Nat.le_of_ble_eq_true ag))
        rw [bs] at this
        simp only [Rel] at this
        exact this
    | const v=>
      simp only [rx,aV.a6] at bs
      have:=sA E v
      rw [bs] at this
      simp only [Rel] at this
      exact this
    | func f=>
      simp only [rx] at bs
      cases ag:Nat.beq f dk<;>rw [ag] at bs<;>simp [aV.a6] at bs
    | global g=>simp [rx,aV.a6] at bs
   cases t with
   | true=>
     obtain ⟨e,bl,ab,an,az,aN⟩:=uA r h Q aT (H.1 rfl)
     exact ⟨e,bl,ab,an,⟨az.1,fun z=>by simp only [b9,bx.plain,Bool.and_eq_true] at z;exact az.2 z.1⟩,fun rd aw E a w aJ k s hE cZ=>wpIn_cond_true (aI E a k) (aN rd aw E a w (aJ.imp (fun h=>h) fun h=>by simp only [noMark,Bool.and_eq_true] at h;exact h.1) k s hE cZ).wp⟩
   | false=>
     obtain ⟨e,bl,ab,an,az,aN⟩:=uB r h Q aT (H.2 rfl)
     exact ⟨e,bl,ab,an,⟨az.1,fun z=>by simp only [b9,bx.plain,Bool.and_eq_true] at z;exact az.2 z.2⟩,fun rd aw E a w aJ k s hE cZ=>wpIn_cond_false (aI E a k) (aN rd aw E a w (aJ.imp (fun h=>h) fun h=>by simp only [noMark,Bool.and_eq_true] at h;exact h.2) k s hE cZ).wp⟩
 | block id x bk=>
   intro r h Q aT H
   simp only [b9,b7] at H
   obtain ⟨e,bl,ab,an,az,aN⟩:=bk r h _ aT H
   refine ⟨e.leave id,bl,ab,an,az,fun rd aw E a w aJ k s hE cZ=>?_⟩
   refine wpIn_block (aN rd aw E a w (aJ.imp (fun h=>h) fun h=>h) k s _ fun av bm ao cF z2 z3=>?_).wp
   cases e with
   | normal=>exact cZ av bm ao cF z2 z3
   | ret=>exact cZ av bm ao cF z2 z3
   | exit i=>
     have:=cZ av bm ao cF z2 z3
     simp only [toExit,Exit.inBlock]
     simp only [de.leave] at this
     by_cases aC:i=id
     · rw [if_pos aC] at this ⊢;exact this
     · rw [if_neg aC] at this ⊢;exact this
 | loop x bk=>
   intro r h Q aT H
   simp only [b9,b7] at H
   obtain ⟨I,μ,qM,adv⟩:=H
   have key:∀n r h,μ r h=n→I r h→Out au r→∃e bw aa,Q e bw aa∧(Out au bw∧((b9 P au (.loop x)).plain=true→bw dY=r dY))∧AR P au (.loop x) r h e bw aa:=by
    intro n
    induction n using Nat.strongRecOn with
    | _ n ad7=>
      intro r h aU qM aT
      obtain ⟨e,bl,ab,an,az,aN⟩:=bk r h _ aT (adv r h qM)
      have body:∀(rd:Option Nat) (aw:Fr) E a w,(rd=none∨noMark x=true)→jx E au r a→a' aw E h w→∀(b:Frame) (c6:List Item) (cs:List Frame),b.roundOf=rd→∃bm ao av,E.le av∧jx av au bl bm∧a' aw av ab ao∧ArrivesIn (Machine.fenced P (ch rd)) P (lone (b.atR a (.code x::.inLoop x::c6)) cs w) b (.inLoop x::c6) cs (toExit e) bm ao:=by
       intro rd aw E a w aJ k s b c6 cs kE
       have:=(aN rd aw E a w aJ k s (fun dj bm ao=>dj=toExit e∧∃av,E.le av∧jx av au bl bm∧a' aw av ab ao) (fun av bm ao an az aN=>⟨rfl,av,an,az,aN⟩)).wp b (.inLoop x::c6) cs kE trivial (J2 _)
       obtain ⟨aS,a2,b4,⟨rfl,cn,cF,z2,z3⟩,iN⟩:=this
       exact ⟨a2,b4,cn,cF,z2,z3,iN⟩
      cases e with
      | normal=>
        obtain ⟨abW,aL⟩:=an
        obtain ⟨aS,bT,ae,bS,b0,cB⟩:=ad7 (μ bl ab) (aU ▸ aL) bl ab rfl abW az.1
        refine ⟨aS,bT,ae,bS,⟨b0.1,fun z=>(b0.2 z).trans (az.2 z)⟩,fun rd aw E a w aJ k s hE cZ b c6 cs kE=>?_⟩
        obtain ⟨a2,b4,cn,cF,z2,z3,iN⟩:=body rd aw E a w (aJ.imp (fun h=>h) fun h=>h) k s b c6 cs kE
        obtain ⟨bn,a3,kk,ek,eJ⟩:=cB rd aw cn a2 b4 aJ z2 z3 hE (fun hC a4 gj t1 t2 t3=>cZ hC a4 gj (cF.trans t1) t2 t3) b c6 cs kE
        exact ⟨bn,a3,kk,ek,.of_steps (StepsIn.trans iN (.one (pB _) stepR_inLoop)) eJ⟩
      | exit i=>
        refine ⟨.exit i,bl,ab,an,az,fun rd aw E a w aJ k s hE cZ b c6 cs kE=>?_⟩
        obtain ⟨a2,b4,cn,cF,z2,z3,iN⟩:=body rd aw E a w (aJ.imp (fun h=>h) fun h=>h) k s b c6 cs kE
        exact ⟨.exit i,a2,b4,cZ cn a2 b4 cF z2 z3,.pass (x:=.inLoop x) rfl (fun _ _=>.inl (by simp)) iN⟩
      | ret=>
        refine ⟨.ret,bl,ab,an,az,fun rd aw E a w aJ k s hE cZ b c6 cs kE=>?_⟩
        obtain ⟨a2,b4,cn,cF,z2,z3,iN⟩:=body rd aw E a w (aJ.imp (fun h=>h) fun h=>h) k s b c6 cs kE
        exact ⟨.ret,a2,b4,cZ cn a2 b4 cF z2 z3,.pass (x:=.inLoop x) rfl (fun _ _=>.inl (by simp)) iN⟩
   exact key _ r h rfl qM aT
 | scope x bk=>
   intro r h Q aT H
   obtain ⟨e,bl,ab,an,az,aN⟩:=bk r h Q aT H
   refine ⟨e,bl,ab,an,az,fun rd aw E a w aJ k s hE cZ=>?_⟩
   refine Sg (aN rd aw E a w (aJ.imp (fun h=>h) fun h=>h) k s _ fun av bm ao cF z2 z3=>?_).wp
   have:=cZ av bm ao cF z2 z3
   cases e<;>exact this
 | rangeFunc f bg x y _ _=>intro r h Q aT H;exact aiX gy cY bG aT H
 | goto l=>intro r h Q aT H;exact H.elim
 | refuse akT=>intro r h Q aT H;exact H.elim
inductive yn where
 | t (n:Nat)
 | bu (n:Nat)
 | hH (n size:Nat)
 | bad
def cE (P:Program) (au:Nat):List ResultVar→List yn
 | []=>[]
 | .tmp t::rs=>(bif Nat.ble t top&&Nat.blt t au then .t t else .bad)::cE P au rs
 | .cell a t::rs=>(bif Nat.ble a top&&Nat.blt a au then (match a8 P t with
   | none=>.bad
   | some aO=>bif aO.agg then .hH a aO.size else bif Nat.beq aO.size 1 then .bu a else .bad) else .bad)::cE P au rs
noncomputable def cu (r:aR) (h:af):List yn→Option (List V)
 | []=>some []
 | x::xs=>match (match x with
   | .t n=>some (r n)
   | .bu n=>l5 h (r n)
   | .hH n size=>l4 size h (r n)
   | .bad=>none) with
   | none=>none
   | some v=>match cu r h xs with
     | none=>none
     | some ad=>some (v::ad)
theorem BQ {r:aR} {h:af} {cP:bA} (dP:dU cP=r):∀{l:List ResultVar} {ad:List V},cu r h (cE P au l)=some ad→(jU P au l).run cP h=some ad
 | [],ad,he=>by simpa [cu,cE,jU] using he
 | .tmp t::rs,ad,he=>by
   simp only [cE,cu] at he
   unfold jU
   cases aI:(Nat.ble t top&&Nat.blt t au) with
   | false=>rw [aI] at he;simp at he
   | true=>
     rw [aI] at he
     simp only [cond_true] at he ⊢
     cases aJ:cu r h (cE P au rs) with
     | none=>rw [aJ] at he;cases he
     | some vb=>
       rw [aJ] at he
       rw [BQ dP aJ]
       have:=congrFun dP t
       simp only [dU] at this
       rw [this]
       exact he
 | .cell a t::rs,ad,he=>by
   simp only [cE,cu] at he
   unfold jU
   cases aI:(Nat.ble a top&&Nat.blt a au) with
   | false=>rw [aI] at he;simp at he
   | true=>
     rw [aI] at he
     simp only [cond_true] at he ⊢
     have O0:=congrFun dP a
     simp only [dU] at O0
     rw [O0]
     unfold oG
     cases aF:a8 P t with
     | none=>rw [aF] at he;simp at he
     | some aO=>
       rw [aF] at he
       simp only at he ⊢
       cases Og:aO.agg with
       | true=>
         rw [Og] at he
         simp only [cond_true] at he ⊢
         cases ai:l4 aO.size h (r a) with
         | none=>rw [ai] at he;cases he
         | some v=>
           rw [ai] at he
           simp only at he ⊢
           cases aJ:cu r h (cE P au rs) with
           | none=>rw [aJ] at he;cases he
           | some vb=>rw [aJ] at he;rw [BQ dP aJ];exact he
       | false=>
         rw [Og] at he
         simp only [cond_false] at he ⊢
         cases aQ:Nat.beq aO.size 1 with
         | false=>rw [aQ] at he;simp at he
         | true=>
           rw [aQ] at he
           simp only [cond_true] at he ⊢
           cases ai:l5 h (r a) with
           | none=>rw [ai] at he;cases he
           | some v=>
             rw [ai] at he
             simp only at he ⊢
             cases aJ:cu r h (cE P au rs) with
             | none=>rw [aJ] at he;cases he
             | some vb=>rw [aJ] at he;rw [BQ dP aJ];exact he
theorem Db:∀(l:List V) (t:Nat),aR.a1 l t=(l[t]?).getD .bad
 | [],t=>by simp [aR.a1]
 | v::ad,t=>by
   simp only [aR.a1]
   cases t with
   | zero=>simp
   | succ t=>simp [Db ad t]
def de.ends:de→Prop
 | .exit _=>False
 | _=>True
noncomputable def lo:List V→af→Option af
 | [],h=>some h
 | .ptr b _::ds,h=>(match h.get b with
   | .er=>lo ds (h.set b .dead)
   | _=>none)
 | _::_,_=>none
theorem P' {jz:td}:∀{ds:List V} {h ae:af},lo ds h=some ae→l3 jz ds none h=.go none ae
 | [],h,ae,e=>by simp only [lo,Option.some.injEq] at e;subst e;rfl
 | d::ds,h,ae,e=>by
   cases d<;>simp only [lo] at e<;>try (cases e;done)
   rename_i b o
   simp only [l3]
   cases aH:h.get b<;>rw [aH] at e<;>simp only at e<;>try (cases e;done)
   exact P' e
theorem MX (cY:P.follows .mixedOrders=true) (bG:ez P) {f:FuncId} {fn:Func} {c:Code} {args:List V} {h:af} {K:V→af→Prop} (ay:P.funcs[f]? =some fn) (ag:fn.body=some c)
 (gy:Nat.ble fn.ntmps top=true) (a_:Nat.beq f dk=false) (kv:Nat.ble args.length fn.ntmps=true) {rc:bx} {e7:List yn} (zq:b9 P fn.ntmps c=rc) (uu:cE P fn.ntmps fn.results.toList=e7) {Q:de→aR→af→Prop} (H:b7 P rc (aR.a1 args) h Q)
 (cZ:∀e r aa,(rc.plain=true→r dY=.bad)→Q e r aa→e.ends∧∃ae,lo (r dY).list aa=some ae∧∃ad,cu r ae e7=some ad∧K (oneOf ad) ae):bB P f args h K:=by
 subst zq uu
 rw [Nat.ble_eq] at gy kv
 have aT:Out fn.ntmps (aR.a1 args):=by
  intro t aF _
  rw [Db,List.getElem?_eq_none (by omega)]
  rfl
 have lf:(aR.a1 args) dY=.bad:=by
  rw [Db,List.getElem?_eq_none (by unfold dY;unfold top at gy;omega)]
  rfl
 obtain ⟨e,bw,aa,aA,qV,ack⟩:=KE gy cY bG c _ h _ aT H
 obtain ⟨fL,ae,ac6,ad,CE,dv⟩:=cZ e bw aa (fun z=>(qV.2 z).trans lf) aA
 have hM:f≠dk:=fun e=>by subst e;simp at a_
 refine ⟨oneOf ad,ae,⟨hM,.inl ⟨⟨fn,ay,by rw [ag];rfl⟩,fun aw E w xs aq s=>?_⟩⟩,dv⟩
 have hlen:=aq.length
 have ca:xs.toArray.size≤fn.ntmps:=by simp;omega
 refine rY.1 (callsIn_of_wp_marks (F:=ch none) (n:=0) ay ag trivial ?_)
 have k:jx E fn.ntmps (aR.a1 args) {tmps:=xs.toArray++Array.replicate (fn.ntmps-xs.toArray.size) undef,defers:=[]}:=by
  refine ⟨by simp;omega,by rw [lf];simp [ko],fun t _=>?_⟩
  rw [Db]
  cases aH:args[t]? with
  | none=>simp [Rel]
  | some v=>
    obtain ⟨y,a_,aJ⟩:=aq.get t v aH
    simp only [Option.getD_some]
    have CD:t<xs.length:=(List.getElem?_eq_some_iff.1 a_).1
    rw [Array.getD_eq_getD_getElem?,Array.getElem?_append_left (by simpa using CD)]
    simp only [List.getElem?_toArray,a_,Option.getD_some]
    exact aJ
 have kx:AT P (fun _ _ _ _=>.fail):=fun f args u h gL aa he=>by cases he
 have fin:∀av bm ao,E.le av→jx av fn.ntmps bw bm→a' aw av aa ao→LeavesInM (ch none) 0 P fn bm.tmps (fun e ao=>∃av x,e=.returned x∧E.le av∧Rel av (oneOf ad) x∧a' aw av ae ao) bm.defers .returning ao:=by
  intro av bm ao an az aN
  obtain ⟨cP,dP⟩:=BR qV.1
  have aZ:T.get .bad eF cP=bw dY:=by
   have:=congrFun dP dY
   simp only [dU] at this
   exact this
  have aE:e8 av fn.ntmps cP bm:=⟨⟨az.size,fun t aF=>by
   have:=congrFun dP t
   simp only [dU] at this
   rw [this]
   exact az.ar t (xi aF)⟩,by rw [aZ];exact az.defers⟩
  refine GY (C:=⟨P,fun _=>none,fun _=>none⟩) (u:=none) bG kx aE rfl aN ?_
  rw [aZ,P' ac6]
  simp only [finish]
  rw [BQ dP CE]
  exact fun cn x b4 bS b0 cB=>⟨cn,x,rfl,an.trans bS,b0,cB⟩
 refine (ack none aw E _ w (.inl rfl) k s _ fun av bm ao an az aN=>?_).wp
 have:=fin av bm ao an az aN
 cases e with
 | normal=>exact this
 | ret=>exact this
 | exit i=>exact fL.elim
theorem Q3:∀(bg:List Nat) (ad:List V) (cP:bA),dU (ra bg ad cP)=aR.sD bg ad (dU cP)
 | p::bg,v::ad,cP=>by
   rw [ra,aR.sD,Q3 bg ad]
   congr 1
   exact Dx (some p) cP v
 | [],[],_=>rfl
 | [],_::_,_=>rfl
 | _::_,[],_=>rfl
theorem Q4:∀{bg:List Nat} {ad:List V} {r:aR},nJ au bg=true→Out au r→Out au (aR.sD bg ad r)
 | p::bg,v::ad,r,ah,aT=>by
   simp only [nJ,List.all_cons,Bool.and_eq_true] at ah
   exact Q4 (r:=r.set (some p) v) ah.2 (aT.set (d:=some p) (by simp only [e3,Bool.and_eq_true];exact ah.1) v)
 | [],[],_,_,aT=>aT
 | [],_::_,_,_,aT=>aT
 | _::_,[],_,_,aT=>aT
theorem R4 {bg:List Nat} {ad:List V} {r:aR} (ah:nJ au bg=true) (aT:Out au r):Out au (ly bg ad r):=fun t ab ae=>by
 unfold ly
 simp only [aR.set]
 rw [if_neg ae]
 exact Q4 ah aT t ab ae
theorem KJ (gy:au≤top) (cY:P.follows .mixedOrders=true) (bG:ez P) {l:jv} {r:aR} {bg:List Nat} {As jr:bx} {xs:List V} {b:aP} {h:af} {K:V→af→Prop} (F:vs P l au r bg As jr) (aH:h.get b=.cr l) (bb:l.st=0) (hlen:xs.length=bg.length)
 (H:b7 P As (ly bg xs r) h fun e bl ab=>e=.normal∧ab.get b=.cr l∧b7 P jr bl (ab.set b (.cr (l.go 1 l.dc))) fun e bT ae=>ae.get b=.cr (l.go 1 l.dc)∧(match e with
   | .normal=>K (.bool true) (ae.set b (.cr (l.go 0 none)))
   | e=>K (.bool false) (ae.set b (.cr (l.go 2 (some e)))))):Bg P xs b h K:=by
 obtain ⟨K6,xY,xZ,TK,TL,Ea,TM,TN,K7⟩:=F
 subst TK TL
 obtain ⟨aK,bl,ab,⟨rfl,g1,cq⟩,dC,bu⟩:=KE gy cY bG l.assign _ h _ (R4 Ea K7) H
 obtain ⟨aS,bT,ae,⟨g2,TP⟩,dA,bI⟩:=KE gy cY bG l.body _ _ _ dC.1 cq
 obtain ⟨v,aa,fL,dv⟩:∃v aa,u2 b aS ae=.val v aa∧K v aa:=by
  unfold u2
  rw [g2]
  cases aS<;>exact ⟨_,_,rfl,TP⟩
 refine ⟨v,aa,fun aw E w E5 p ai s ah=>?_,dv⟩
 have ag:=s.at ah
 rw [aH] at ag
 obtain ⟨p',o,fF,c2,bf,aJ⟩:=ag
 rw [ah] at fF;cases fF
 obtain ⟨t1,t2,t3,t4,t5,t6,t7,t8⟩:=aJ
 have kz:=ai.length
 have um:o.params.size=E5.length:=by rw [←Array.length_toList,t3,xZ,←hlen,kz]
 refine ⟨o.fn,(o.params.zip E5.toArray).foldl (fun tmps (t,a)=>tmps.setIfInBounds t a) o.tmps,o.assign,o.body,?_,?_⟩
 · simp only [Instr.yield,Sem.run_bind,run_getLoop bf,Result.andThen_ok]
   rw [if_neg (by simp [um])]
   rfl
 · rw [t4,t5]
   refine roundIn_of_wpIn (F:=ch none) trivial ?_
   have pT:RegRel0 E l.au l.r ⟨o.tmps,[]⟩:=⟨t6,t7⟩
   have Xj:nJ l.au o.params.toList=true:=by rw [t3,xZ,K6];exact Ea
   have bz:=Ru Xj ai pT
   have k:jx E au (ly bg xs r) ⟨(o.params.zip E5.toArray).foldl (fun t (p:Nat × Value)=>t.setIfInBounds p.1 p.2) o.tmps,[]⟩:=by
    refine ⟨by rw [←K6];exact bz.size,by unfold ly;simp [aR.set,ko],fun t aF=>?_⟩
    by_cases adI:t≤top
    · have:=bz.ar t adI
      rw [t3,xZ] at this
      have e:=congrFun (Q3 bg xs l.r) t
      rw [xY] at e
      unfold ly
      simp only [aR.set]
      rw [if_neg aF,←e]
      exact this
    · rw [R4 Ea K7 t (by omega) aF]
      simp [Rel]
   refine (bu (some p.aW) aw E _ w (.inr TM) k s (Exit.then (fun qz ry=>∃AJ,(Instr.beginRound p.aW).run P ry=.ok () AJ∧
    l.body.wpIn (ch (some p.aW)) 0 P (roundPost P p.aW fun e ao=>∃av x,e=.returned x∧E.le av∧Rel av v x∧a' aw av aa ao) qz AJ) (fun _ _ _=>False)) fun fl bH b3 an az aN=>?_).wp
   have ht:=an _ _ ah
   have jh:=aN.at ht
   rw [g1] at jh
   obtain ⟨bS,sz,zl,og,pG,qX⟩:=jh
   rw [ht] at zl;cases zl
   obtain ⟨ek,eJ,y3,y4,KH,y6,alh,ali⟩:=qX
   obtain ⟨cF,z2⟩:=aN.loop (P:=P) (cR:=l.go 1 l.dc) (b8:={sz with state:=.busy}) g1 ht og pG ⟨rfl,eJ,y3,y4,KH,y6,alh,ali⟩
   refine ⟨{b3 with heap:=b3.heap.setIfInBounds p.aW (.loop {sz with state:=.busy})},?_,?_⟩
   · have zr:sz.state=.ready:=by rw [ek,bb];rfl
     simp only [Instr.beginRound,Sem.run_bind,run_getLoop pG,Result.andThen_ok,cF,zr,Sem.run_pure]
   · refine (bI (some p.aW) aw fl _ _ (.inr TN) az z2 _ fun cn a2 b4 bj ct gr=>?_).wp
     exact R3 gr (bj _ _ ht) fL fun x ao oT oU=>⟨cn,x,rfl,an.trans bj,oT,oU⟩
theorem c' (cY:P.follows .mixedOrders=true) (bG:ez P) {f:FuncId} {fn:Func} {c:Code} {args:List V} {h:af} {K:V→af→Prop} (ay:P.funcs[f]? =some fn) (ag:fn.body=some c)
 (gy:Nat.ble fn.ntmps top=true) (a_:Nat.beq f dk=false) (kv:Nat.ble args.length fn.ntmps=true) {rc:bx} {e7:List yn} (zq:b9 P fn.ntmps c=rc) (uu:cE P fn.ntmps fn.results.toList=e7) (hx:rc.plain=true)
 (H:b7 P rc (aR.a1 args) h fun e r aa=>e.ends∧∃ad,cu r aa e7=some ad∧K (oneOf ad) aa):bB P f args h K:=by
 refine MX cY bG ay ag gy a_ kv zq uu H fun e r aa aQ ⟨ab,ad,ae,aG⟩=>⟨ab,aa,?_,ad,ae,aG⟩
 rw [aQ hx]
 rfl
theorem GD (cY:P.follows .mixedOrders=true) (bG:ez P) {f:FuncId} {fn:Func} {c:Code} {args:List V} {h:af} {K:V→af→Prop} (ay:P.funcs[f]? =some fn) (ag:fn.body=some c)
 (gy:Nat.ble fn.ntmps top=true) (a_:Nat.beq f dk=false) (kv:Nat.ble args.length fn.ntmps=true) {rc:bx} {e7:List yn} (zq:b9 P fn.ntmps c=rc) (uu:cE P fn.ntmps fn.results.toList=e7)
 (H:b7 P rc (aR.a1 args) h fun e r aa=>e.ends∧∃ae,lo (r dY).list aa=some ae∧∃ad,cu r ae e7=some ad∧K (oneOf ad) ae):bB P f args h K:=
 MX cY bG ay ag gy a_ kv zq uu H fun e r aa _ q=>q
end
end Go.Proofs.YthemdhlheglhoaaGreatDoor.aX
namespace Go.Proofs.YthemdhlheglhoaaGreatDoor.aX
variable [Lay]
open Go Go.RowKit
theorem q_ (i j:Nat):(al i=al j)=(i=j):=by
 apply propext
 exact ⟨dW,fun h=>by rw [h]⟩
theorem aiI (ad:List V):∀(i off:Nat) (x:V) (t:T V),i<off→T.put .bad x (al i) (dD t off ad)=dD (T.put .bad x (al i) t) off ad:=by
 induction ad with
 | nil=>intro i off x t _;rfl
 | cons v ad bk=>
   intro i off x t h
   simp only [dD]
   rw [bk i (off+1) x _ (by omega),T.put_comm _ _ _ _ _ _ (fun e=>by rw [q_] at e;omega)]
def hS (ad:List V) (off:Nat) (ws:List V):List V:=ad.take off++ws++ad.drop (off+ws.length)
theorem RH:∀(ad:List V) (base i:Nat) (x:V) (t:T V),i<ad.length→T.put .bad x (al (base+i)) (dD t base ad)=dD t base (ad.set i x)
 | [],_,i,_,_,h=>by simp at h
 | v::ad,base,i,x,t,h=>by
   cases i with
   | zero=>
     simp only [dD,Nat.add_zero,List.set]
     rw [aiI ad base (base+1) x _ (by omega),T.RE]
   | succ i=>
     simp only [dD,List.set]
     have:=RH ad (base+1) i x (T.put .bad v (al base) t) (by simpa using h)
     rw [show base + (i+1)=base+1+i from by omega]
     exact this
theorem Sj (ad:List V) (off:Nat) (w:V) (ws:List V) (h:off<ad.length):hS (ad.set off w) (off+1) ws=hS ad off (w::ws):=by
 unfold hS
 have ab:(ad.set off w).take (off+1)=ad.take off++[w]:=by
  rw [List.take_succ_eq_append_getElem (by simpa using h)]
  simp [List.take_set_of_le]
 have ae:(ad.set off w).drop (off+1+ws.length)=ad.drop (off + (w::ws).length):=by
  rw [List.drop_set_of_lt (by omega)]
  congr 1
  simp
  omega
 rw [ab,ae]
 simp
theorem p5 (ad:List V) (off:Nat) (ws:List V) (h:off+ws.length≤ad.length):(hS ad off ws).length=ad.length:=by
 unfold hS
 simp
 omega
theorem JI:∀(ws ad:List V) (off:Nat),off+ws.length≤ad.length→dD (dD .e 0 ad) off ws=dD .e 0 (hS ad off ws)
 | [],ad,off,h=>by simp [dD,hS]
 | w::ws,ad,off,h=>by
   simp only [List.length_cons] at h
   simp only [dD]
   have ab:=RH ad 0 off w .e (by omega)
   rw [Nat.zero_add] at ab
   rw [ab,JI ws (ad.set off w) (off+1) (by simp;omega),Sj ad off w ws (by omega)]
theorem B8 (ad:List V):∀(off i:Nat) (t:T V),T.get .bad (al (off+i)) (dD t off ad)=if i<ad.length then (ad[i]?).getD .bad else T.get .bad (al (off+i)) t:=by
 induction ad with
 | nil=>intro off i t;simp [dD]
 | cons v ad bk=>
   intro off i t
   simp only [dD]
   cases i with
   | zero=>
     have:∀(ws:List V) (o:Nat) (s:T V),off<o→T.get .bad (al off) (dD s o ws)=T.get .bad (al off) s:=by
      intro ws
      induction ws with
      | nil=>intro o s _;rfl
      | cons w ws ad8=>
        intro o s aT
        simp only [dD]
        rw [ad8 (o+1) _ (by omega),T.hr,if_neg (fun e=>by rw [q_] at e;omega)]
     rw [Nat.add_zero,this ad (off+1) _ (by omega),T.hr]
     simp
   | succ i=>
     have:=bk (off+1) i (T.put .bad v (al off) t)
     rw [show off+1+i=off + (i+1) from by omega] at this
     rw [this,T.hr]
     have dI:¬al off=al (off + (i+1)):=fun e=>by rw [q_] at e;omega
     rw [if_neg dI]
     simp
theorem B9 (ad:List V):∀(n i:Nat),i+n≤ad.length→j7 (dD .e 0 ad) i n=(ad.drop i).take n
 | 0,i,h=>by simp [j7]
 | n+1,i,h=>by
   simp only [j7]
   have ab:=B8 ad 0 i .e
   rw [Nat.zero_add] at ab
   rw [ab,if_pos (by omega),B9 ad n (i+1) (by omega)]
   have aZ:ad.drop i=ad[i]::ad.drop (i+1):=List.drop_eq_getElem_cons (by omega)
   rw [aZ,List.take_succ_cons]
   simp [List.getElem?_eq_getElem (by omega:i<ad.length)]
noncomputable def cb.a1 (ad:List V) (cy:Nat) (st:Bool):cb:=.cells ad.length (dD .e 0 ad) cy st
noncomputable def cb.ro (ad:List V):cb:=.view ad.length (dD .e 0 ad)
def Rd (h:af) (b:aP) (ad:List V):Prop:=h.get b=.ro ad∨∃cy st,h.get b=.a1 ad cy st
def Own (h:af) (b:aP) (ad:List V) (cy:Nat) (st:Bool):Prop:=h.get b=.a1 ad cy st
theorem Rd.nL {α:Type} {h:af} {b:aP} {ad:List V} (H:Rd h b ad) (d:α) (f:Nat→T V→α):(h.get b).nL d f=f ad.length (dD .e 0 ad):=by
 rcases H with H | ⟨_,_,H⟩<;>rw [H]<;>rfl
theorem Own.lay {h:af} {b:aP} {ad:List V} {cy:Nat} {st:Bool} (H:Own h b ad cy st) {off:Nat} {ws:List V} (aT:off+ws.length≤ad.length) (ab:eS ws=true):
 lay h b off ws=some (h.set b (.a1 (hS ad off ws) cy st)):=by
 unfold aX.lay
 rw [show h.get b=.cells ad.length (dD .e 0 ad) cy st from H]
 simp only [cb.on]
 rw [show Nat.ble (off+ws.length) ad.length=true from by rw [Nat.ble_eq];exact aT,ab]
 simp only [Bool.and_true,cond_true,Option.some.injEq,cb.a1]
 rw [p5 ad off ws aT,JI ws ad off aT]
theorem Own.store {h:af} {b:aP} {ad:List V} {cy:Nat} {st:Bool} (H:Own h b ad cy st) {off n:Nat} {y:V} (aU:y.cells.length=n) (aT:off+n≤ad.length) (ab:eS y.cells=true):
 oR n h (.ptr b off) y=some (h.set b (.a1 (hS ad off y.cells) cy st)):=by
 simp only [oR,V.h']
 rw [show Nat.beq y.cells.length n=true from by rw [Nat.beq_eq];exact aU]
 simp only [cond_true]
 exact H.lay (by rw [aU];exact aT) ab
theorem ahi {h:af} {ad:List V} (ai:ad.length≤top):fV h ad=some (h.new (.a1 ad 0 false)):=by
 unfold fV
 rw [show Nat.ble ad.length top=true from by rw [Nat.ble_eq];exact ai]
 rfl
theorem I7 {h:af} {ad:List V} {cy:Nat} {st:Bool} (ai:ad.length≤top) (he:1≤cy):iV h ad cy st=some (h.new (.a1 ad cy st)):=by
 unfold iV
 rw [show Nat.ble ad.length top=true from by rw [Nat.ble_eq];exact ai,show Nat.ble 1 cy=true from by rw [Nat.ble_eq];exact he]
 rfl
theorem eU (h:af) (k:cb):(h.new k).next=h.next+1:=rfl
theorem mF (h:af) (b:aP) (k:cb):(h.set b k).next=h.next:=rfl
section
variable {P:Program} {r:aR} {h:af}
theorem ajz (r:aR) (d:Nat) (v:V) (t:Nat):aR.set r (some d) v t=if t=d then v else r t:=(rfl)
theorem ajA (r:aR) (v:V):aR.set r none v=r:=(rfl)
theorem akt (r:aR) (u:Nat) (us:List Nat) (t:Nat):aR.trim r (u::us) t=if t=u then r t else aR.trim r us t:=(rfl)
theorem ahG (v:V) (ad:List V):aR.a1 (v::ad) 0=v:=(rfl)
theorem ahH (v:V) (ad:List V) (t:Nat):aR.a1 (v::ad) (t+1)=aR.a1 ad t:=by simp [aR.a1]
theorem aaO (r:aR) (n:Nat):aV.a6 r (.t n)=r n:=(rfl)
theorem aaN (r:aR) (v:V):aV.a6 r (.c v)=v:=(rfl)
theorem QK {d:Option Nat} {g:G} {rs:List Nat} {K:aR→V→af→Prop}:bD.wp P ⟨d,g,none,rs⟩ r h K=g.wp P (r.trim rs) h fun v aa=>K (r.set d v) v aa:=(rfl)
theorem QI {d:Option Nat} {g:G} {j:Nat} {want:Bool} {rs:List Nat} {K:aR→V→af→Prop}:bD.wp P ⟨d,g,some (j,want),rs⟩ r h K=
 gate (r.trim rs j) want (g.wp P (r.trim rs) h fun v aa=>K (r.set d v) v aa) (K (r.set d (.tuple [])) (.tuple []) h):=(rfl)
variable {K:V→af→Prop}
theorem nh (k:IntKind):ng k k=true:=by cases k<;>rfl
theorem pW (a b:Int):Int.leB a b=decide (a≤b):=nA a b
theorem yP (a b:Int):Int.gb a b=decide (a=b):=by rw [kr];rfl
variable (k:IntKind) (a b:Int)
theorem aew:(dV.int .add).run P (.int k a) (.int k b)=some (.int k (k.wrap (a+b))):=by simp [dV.run,jK,nw,V.dZ,nh]
theorem afy:(dV.int .sub).run P (.int k a) (.int k b)=some (.int k (k.wrap (a-b))):=by simp [dV.run,jK,nw,V.dZ,nh]
theorem afg:(dV.int .mul).run P (.int k a) (.int k b)=some (.int k (k.wrap (a * b))):=by simp [dV.run,jK,nw,V.dZ,nh]
theorem PM (ag:b≠0):(dV.int .quo).run P (.int k a) (.int k b)=some (.int k (k.wrap (a.tdiv b))):=by simp [dV.run,jK,uF,V.dZ,nh,yP,ag]
theorem PN (ag:b≠0):(dV.int .rem).run P (.int k a) (.int k b)=some (.int k (a.tmod b)):=by simp [dV.run,jK,uF,V.dZ,nh,yP,ag]
theorem aeR:(dV.int .eql).run P (.int k a) (.int k b)=some (.bool (decide (a=b))):=by simp [dV.run,jK,l1,V.dZ,nh,yP]
theorem afj:(dV.int .neq).run P (.int k a) (.int k b)=some (.bool (!decide (a=b))):=by simp [dV.run,jK,l1,V.dZ,nh,yP]
theorem afc:(dV.int .lss).run P (.int k a) (.int k b)=some (.bool (decide (a<b))):=by
 simp [dV.run,jK,l1,V.dZ,nh,pW]
 rw [Bool.eq_iff_iff];simp
theorem ae_:(dV.int .leq).run P (.int k a) (.int k b)=some (.bool (decide (a≤b))):=by simp [dV.run,jK,l1,V.dZ,nh,pW]
theorem aeZ:(dV.int .gtr).run P (.int k a) (.int k b)=some (.bool (decide (b<a))):=by
 simp [dV.run,jK,l1,V.dZ,nh,pW]
 rw [Bool.eq_iff_iff];simp
theorem aeY:(dV.int .geq).run P (.int k a) (.int k b)=some (.bool (decide (b≤a))):=by simp [dV.run,jK,l1,V.dZ,nh,pW]
theorem aey (x y:Bool):(dV.vY false).run P (.bool x) (.bool y)=some (.bool (x == y)):=by simp [dV.run,ik,yR,pw]
theorem aeC (x y:Bool):(dV.vY true).run P (.bool x) (.bool y)=some (.bool (!(x == y))):=by simp [dV.run,ik,yR,pw]
theorem akE (x:Bool):p8 .not (.bool x)=some (.bool (!x)):=(rfl)
theorem akD:p8 .neg (.int k a)=some (.int k (k.wrap (0-a))):=(rfl)
theorem wrap_i64 {n:Int} (ab:-9223372036854775808≤n) (ae:n≤9223372036854775807):IntKind.i64.wrap n=n:=by
 exact Go.IntWalk.i64_in n ⟨ab,ae⟩
end
section
variable {P:Program} {r:aR} {h:af} {Q:de→aR→af→Prop}
theorem Zm {ops:List bD}:b7 P (.ar ops) r h Q=rv P ops r h (Q .normal):=(rfl)
theorem Zn {a b:bx}:b7 P (.seq a b) r h Q=b7 P a r h fun e bw aa=>e.andThen (b7 P b bw aa Q) (Q e bw aa):=(rfl)
theorem akl {A B:Prop}:de.andThen .normal A B=A:=(rfl)
theorem akm {A B:Prop}:de.andThen .ret A B=B:=(rfl)
theorem akk {A B:Prop} {i:Nat}:de.andThen (.exit i) A B=B:=(rfl)
theorem agC {id:Nat}:de.leave id .normal=.normal:=(rfl)
theorem agD {id:Nat}:de.leave id .ret=.ret:=(rfl)
theorem agB {id i:Nat}:de.leave id (.exit i)=if i=id then .normal else .exit i:=(rfl)
end
end Go.Proofs.YthemdhlheglhoaaGreatDoor.aX
namespace Go.Proofs.YthemdhlheglhoaaGreatDoor.aX
variable [Lay]
open Go Go.RowKit
def vd {α:Type} (o:Option α) (k:α→Prop):Prop:=
 match o with
 | some v=>k v
 | none=>False
@[congr] theorem amT {α:Type} {o b8:Option α} {k:α→Prop} (h:o=b8):vd o k=vd b8 k:=by rw [h]
def V.opt (c:Bool) (v:V):V:=bif c then v else .tuple []
theorem ah7 (v:V):V.opt true v=v:=(rfl)
theorem ah4 (v:V):V.opt false v=.tuple []:=(rfl)
@[congr] theorem amG {c gP:Bool} {v dn:V} (h:c=gP) (bs:gP=true→v=dn):V.opt c v=V.opt gP dn:=by
 subst h
 cases c with
 | true=>rw [bs rfl]
 | false=>rfl
def V.bif (t:Bool) (a b:V):V:=bif t then a else b
theorem akP (a b:V):V.bif true a b=a:=(rfl)
theorem akO (a b:V):V.bif false a b=b:=(rfl)
theorem VL (t a b:Bool):V.bif t (.bool a) (.bool b)=.bool (bif t then a else b):=by cases t<;>rfl
theorem VM (t:Bool) (k:IntKind) (a b:Int):V.bif t (.int k a) (.int k b)=.int k (if t=true then a else b):=by cases t<;>rfl
theorem VO (t x:Bool):(bif t then true else x)=(t||x):=by cases t<;>rfl
theorem VK (t x:Bool):(bif t then x else false)=(t&&x):=by cases t<;>rfl
@[congr] theorem alF {t rp:Bool} {a bm b bP:V} (h:t=rp) (bq:rp=true→a=bm) (ag:rp=false→b=bP):V.bif t a b=V.bif rp bm bP:=by
 subst h
 cases t with
 | true=>rw [V.bif,V.bif,bq rfl];rfl
 | false=>rw [V.bif,V.bif,ag rfl];rfl
def eZ (c:Bool) (A:Prop):Prop:=c=true→A
@[congr] theorem alw {c gP:Bool} {A jc:Prop} (h:c=gP) (bq:gP=true→A=jc):eZ c A=eZ gP jc:=by
 subst h
 exact propext ⟨fun q e=>(bq e) ▸ q e,fun q e=>(bq e) ▸ q e⟩
theorem TQ (c:Bool):eZ c True=True:=propext ⟨fun _=>trivial,fun _ _=>trivial⟩
theorem TS (A:Prop):eZ true A=A:=propext ⟨fun q=>q rfl,fun q _=>q⟩
theorem TR (A:Prop):eZ false A=True:=propext ⟨fun _=>trivial,fun _ e=>by cases e⟩
def took (v:V) (want:Bool):Bool:=
 match v with
 | .bool b=>b == want
 | _=>false
theorem akq (b w:Bool):took (.bool b) w=(b == w):=(rfl)
theorem aks (ad:List V) (w:Bool):took (.tuple ad) w=false:=(rfl)
theorem akr (c:Bool) (v:V) (w:Bool):took (.opt c v) w=(c&&took v w):=by cases c<;>rfl
def ft (v:V):Prop:=
 match v with
 | .bool _=>True
 | .tuple _=>True
 | _=>False
theorem ael (b:Bool):ft (.bool b)=True:=(rfl)
theorem aen (ad:List V):ft (.tuple ad)=True:=(rfl)
theorem aem (c b:Bool):ft (.opt c (.bool b))=True:=by cases c<;>rfl
def G.nx:G→Bool
 | .fH _ | .pick .. | .build .. | .eu _ | .kd .. | .sy _ | .bin .. | .un .. | .fn .. | .zZ .. | .Bn .. | .uy .. | .oQ .. | .fv .. | .il .. | .tL .. | .tM .. | .cD .. | .w3 .. | .ll .. | .iU .. | .look .. | .ext .. | .uP _ | .dK _=>true
 | .hW (.int _) _=>true
 | .len .map _=>false
 | .len _ _=>true
 | _=>false
def V.q' {α:Type} (v:V) (d:α) (f:List V→α):α:=
 match v with
 | .agg cs=>f cs
 | _=>d
def V.Ad {α:Type} (v:V) (d:α) (f:List V→α):α:=
 match v with
 | .tuple cs=>f cs
 | _=>d
def An (c a b:V):Option V:=
 match c with
 | .bool t=>some (V.bif t a b)
 | _=>none
theorem ain (t:Bool) (a b:V):An (.bool t) a b=some (V.bif t a b):=(rfl)
def Az (n:Nat) (x:V) (bR aC m3:Option V):Option V:=
 match x with
 | .b6=>DQ bR aC m3
 | .slice b off uL cap=>xG n b off uL cap bR aC m3
 | .eC b off uL idx=>xF n b off uL idx bR aC m3
 | .hA b off lq idx=>DR b off lq idx bR aC m3
 | _=>none
noncomputable def G.kP (P:Program) (g:G) (r:aR) (h:af):Option V:=
 match g with
 | .fH x=>some (x.a6 r)
 | .pick c a b=>An (c.a6 r) (a.a6 r) (b.a6 r)
 | .build z bg=>(match h6 z (jD r bg) with
   | some cs=>some (.agg cs)
   | none=>none)
 | .eu x=>l5 h (x.a6 r)
 | .kd n x=>l4 n h (x.a6 r)
 | .sy x=>sx (x.a6 r)
 | .bin k x y=>k.run P (x.a6 r) (y.a6 r)
 | .un op x=>p8 op (x.a6 r)
 | .hW (.int k) x=>(x.a6 r).dZ none fun _ n=>some (.int k (k.wrap n))
 | .fn f eB=>some (.func f (aV.fy r eB))
 | .zZ f first=>some (.nE f (aV.fy r first))
 | .Bn t z ok x=>yz t z ok (x.a6 r)
 | .uy t x=>some (.iface t (x.a6 r))
 | .oQ x bR aC m3=>kQ (x.a6 r) (aV.opt r bR) (aV.opt r aC) (aV.opt r m3)
 | .fv n x bR aC m3=>Az n (x.a6 r) (aV.opt r bR) (aV.opt r aC) (aV.opt r m3)
 | .il off x=>(x.a6 r).h' none fun b o=>some (.ptr b (o+off))
 | .tL off x=>(x.a6 r).q' none fun cs=>cs[off]?
 | .tM off n x=>(x.a6 r).q' none fun cs=>some (.agg ((cs.drop off).take n))
 | .cD n x i=>(uD n).run (x.a6 r) (i.a6 r)
 | .w3 n s x i=>(uC n s).run (x.a6 r) (i.a6 r)
 | .ll x i=>q4.run (x.a6 r) (i.a6 r)
 | .iU t x i=>(q3 P t).run (x.a6 r) (i.a6 r)
 | .look k z ok x i=>nD k.eq z ok h (x.a6 r) (i.a6 r)
 | .ext x i=>(x.a6 r).Ad none fun ad=>ad[i]?
 | .len (.arr n) _=>some (.int .i64 n)
 | .len .str x=>(nB .string).run (x.a6 r)
 | .len .slice x=>(nB (.slice 0)).run (x.a6 r)
 | .uP args=>jO (fun b a=>!Int.leB a b) (aV.fy r args)
 | .dK args=>jO (fun b a=>!Int.leB b a) (aV.fy r args)
 | _=>none
section
variable {P:Program} {r:aR} {h:af}
theorem pure_run {g:G} (ah:g.nx=true) (call:dx):g.run P call r h=aY.of h (g.kP P r h):=by
 cases g<;>simp only [G.nx] at ah<;>try (cases ah;done)
 all_goals simp only [G.run,G.kP]
 case fH x=>rfl
 case pick c a b=>
  generalize c.a6 r=q
  cases q<;>rfl
 case build z bg=>
  generalize h6 z (jD r bg)=q
  cases q<;>rfl
 case hW k x=>
  cases k<;>simp only at ah<;>try (cases ah;done)
  simp only [rC.run]
  generalize x.a6 r=q
  cases q<;>rfl
 case fn f eB=>rfl
 case zZ f first=>rfl
 case uy t x=>rfl
 case fv n x bR aC m3=>
  unfold Az
  generalize x.a6 r=q
  cases q<;>rfl
 case tL off x=>
  generalize x.a6 r=q
  cases q<;>rfl
 case tM off n x=>
  generalize x.a6 r=q
  cases q<;>rfl
 case ext x i=>
  generalize x.a6 r=q
  cases q<;>rfl
 case len k x=>
  cases k<;>simp only at ah<;>first | rfl | (cases ah;done)
theorem NX {g:G} (ah:g.nx=true) {K:V→af→Prop}:g.wp P r h K=vd (g.kP P r h) fun v=>K v h:=by
 have e:g.wp P r h K=∃v aa,g.run P kf r h=.val v aa∧K v aa:=by
  cases g<;>first | rfl | (simp [G.nx] at ah;done)
 rw [e,pure_run ah]
 apply propext
 cases bs:g.kP P r h with
 | none=>exact ⟨fun ⟨v,aa,q,_⟩=>(by cases q),fun q=>q.elim⟩
 | some v=>
   constructor
   · rintro ⟨v1,ab,q,k⟩
     simp only [aY.of,aY.val.injEq] at q
     obtain ⟨rfl,rfl⟩:=q
     exact k
   · intro k
     exact ⟨v,h,rfl,k⟩
theorem QL {d:Option Nat} {g:G} {rs:List Nat} {K:aR→V→af→Prop} (ah:g.nx=true):bD.wp P ⟨d,g,none,rs⟩ r h K=vd (g.kP P (r.trim rs) h) fun v=>K (r.set d v) v h:=by
 rw [QK,NX ah]
theorem QJ {d:Option Nat} {g:G} {j:Nat} {want:Bool} {rs:List Nat} {K:aR→V→af→Prop} (ah:g.nx=true):bD.wp P ⟨d,g,some (j,want),rs⟩ r h K=
 (ft (r.trim rs j)∧eZ (took (r.trim rs j) want) ((g.kP P (r.trim rs) h).isSome=true)∧
   K (r.set d (V.opt (took (r.trim rs j) want) ((g.kP P (r.trim rs) h).getD .bad))) (V.opt (took (r.trim rs j) want) ((g.kP P (r.trim rs) h).getD .bad)) h):=by
 rw [QI,NX ah]
 generalize r.trim rs j=q
 generalize g.kP P (r.trim rs) h=o
 apply propext
 cases q<;>simp only [gate,ft,took,false_and,true_and]
 case bool b=>
  cases b<;>cases want<;>cases o<;>simp [vd,eZ,V.opt]
 case tuple ad=>simp [eZ,V.opt]
@[congr] theorem amY {os:List bD} {r bw:aR} {h aa:af} {K:aR→af→Prop} (aK:r=bw) (aS:h=aa):rv P os r h K=rv P os bw aa K:=by rw [aK,aS]
@[congr] theorem amW {os:List bD} {r bw:aR} {h aa:af} {K:List fR→aR→af→Prop} (aK:r=bw) (aS:h=aa):km P os r h K=km P os bw aa K:=by rw [aK,aS]
@[congr] theorem alu {o:bD} {r bw:aR} {h aa:af} {K:aR→V→af→Prop} (aK:r=bw) (aS:h=aa):o.wp P r h K=o.wp P bw aa K:=by rw [aK,aS]
@[congr] theorem alv {g:G} {r bw:aR} {h aa:af} {K:V→af→Prop} (aK:r=bw) (aS:h=aa):g.wp P r h K=g.wp P bw aa K:=by rw [aK,aS]
@[congr] theorem amV {c:bx} {r bw:aR} {h aa:af} {Q:de→aR→af→Prop} (aK:r=bw) (aS:h=aa):b7 P c r h Q=b7 P c bw aa Q:=by rw [aK,aS]
@[congr] theorem alr {f:FuncId} {a bm:List V} {h aa:af} {K:V→af→Prop} (aK:a=bm) (aS:h=aa):bB P f a h K=bB P f bm aa K:=by rw [aK,aS]
noncomputable def iw (k:cb) (off:Nat):Option V:=k.nL none fun n cs=>bif Nat.blt off n then some (T.get .bad (al off) cs) else none
noncomputable def kI (n:Nat) (k:cb) (off:Nat):Option V:=k.nL none fun m cs=>bif Nat.ble (off+n) m then some (.agg (j7 cs off n)) else none
theorem agX (b:aP) (off:Nat):l5 h (.ptr b off)=iw (h.get b) off:=(rfl)
theorem agZ (n:Nat) (b:aP) (off:Nat):l4 n h (.ptr b off)=kI n (h.get b) off:=(rfl)
theorem P6 {ad:List V} {off:Nat}:(bif Nat.blt off ad.length then some (T.get .bad (al off) (dD .e 0 ad)) else none)=ad[off]? :=by
 have:=B8 ad 0 off .e
 rw [Nat.zero_add] at this
 rw [this]
 by_cases aT:off<ad.length
 · rw [show Nat.blt off ad.length=true from by rw [Nat.blt_eq];exact aT,if_pos aT]
   simp [List.getElem?_eq_getElem aT]
 · rw [show Nat.blt off ad.length=false from by rw [←Bool.not_eq_true,Nat.blt_eq];exact aT]
   rw [List.getElem?_eq_none (by omega)]
   rfl
theorem P4 (ad:List V) (cy:Nat) (st:Bool) (off:Nat):iw (.a1 ad cy st) off=ad[off]? :=P6
theorem P5 (ad:List V) (off:Nat):iw (.ro ad) off=ad[off]? :=P6
theorem P9 {ad:List V} {off n:Nat}:(bif Nat.ble (off+n) ad.length then some (V.agg (j7 (dD .e 0 ad) off n)) else none)=if off+n≤ad.length then some (.agg ((ad.drop off).take n)) else none:=by
 by_cases aT:off+n≤ad.length
 · rw [show Nat.ble (off+n) ad.length=true from by rw [Nat.ble_eq];exact aT,if_pos aT,B9 ad n off aT]
   rfl
 · rw [show Nat.ble (off+n) ad.length=false from by rw [←Bool.not_eq_true,Nat.ble_eq];exact aT,if_neg aT]
   rfl
theorem zR (n:Nat) (ad:List V) (cy:Nat) (st:Bool) (off:Nat):kI n (.a1 ad cy st) off=if off+n≤ad.length then some (.agg ((ad.drop off).take n)) else none:=P9
theorem P8 (n:Nat) (ad:List V) (off:Nat):kI n (.ro ad) off=if off+n≤ad.length then some (.agg ((ad.drop off).take n)) else none:=P9
theorem Rd.eu {b:aP} {ad:List V} (H:Rd h b ad) (off:Nat):iw (h.get b) off=ad[off]? :=by
 rcases H with H | ⟨_,_,H⟩<;>rw [H]
 · exact P5 ad off
 · exact P4 ad _ _ off
theorem Rd.kd {b:aP} {ad:List V} (H:Rd h b ad) (n off:Nat):kI n (h.get b) off=if off+n≤ad.length then some (.agg ((ad.drop off).take n)) else none:=by
 rcases H with H | ⟨_,_,H⟩<;>rw [H]
 · exact P8 n ad off
 · exact zR n ad _ _ off
def over:List V→List V→List V
 | ad,[]=>ad
 | [],_::_=>[]
 | _::ad,w::ws=>w::over ad ws
def nM:List V→Nat→List V→List V
 | ad,0,ws=>over ad ws
 | [],_+1,_=>[]
 | v::ad,n+1,ws=>v::nM ad n ws
theorem Q0:∀(ad ws:List V),ws.length≤ad.length→over ad ws=ws++ad.drop ws.length
 | ad,[],_=>by cases ad<;>rfl
 | [],_::_,h=>by simp at h
 | v::ad,w::ws,h=>by
   simp only [over,List.cons_append,List.length_cons,List.drop_succ_cons]
   rw [Q0 ad ws (by simpa using h)]
theorem DT:∀(ad:List V) (off:Nat) (ws:List V),off+ws.length≤ad.length→nM ad off ws=hS ad off ws
 | ad,0,ws,h=>by
   cases ad<;>simp only [nM,hS,List.take_zero,List.nil_append,Nat.zero_add]<;>exact Q0 _ ws (by omega)
 | [],n+1,ws,h=>by simp at h
 | v::ad,n+1,ws,h=>by
   simp only [List.length_cons] at h
   simp only [nM,hS]
   rw [DT ad n ws (by omega)]
   simp only [hS,List.take_succ_cons,List.cons_append]
   rw [show n+1+ws.length=n+ws.length+1 from by omega,List.drop_succ_cons]
theorem ajW (ad:List V) (off:Nat) (ws:List V) (h:off+ws.length≤ad.length):(nM ad off ws).length=ad.length:=by
 rw [DT ad off ws h,p5 ad off ws h]
noncomputable def xc (n:Nat) (h:af) (b:aP) (off:Nat) (y:V) (k:cb):Option af:=
 bif Nat.beq y.cells.length n then k.on none fun m cs cy st=>
  bif Nat.ble (off+y.cells.length) m&&eS y.cells then some (h.set b (.cells m (dD cs off y.cells) cy st)) else none else none
theorem aj2 (n:Nat) (b:aP) (off:Nat) (y:V):oR n h (.ptr b off) y=xc n h b off y (h.get b):=(rfl)
theorem ago {n:Nat} {b:aP} {off:Nat} {y:V} {ad:List V} {cy:Nat} {st:Bool} (ab:y.cells.length=n) (ae:eS y.cells=true) (aG:off+n≤ad.length):
 xc n h b off y (.a1 ad cy st)=some (h.set b (.a1 (nM ad off y.cells) cy st)):=by
 unfold xc
 rw [show Nat.beq y.cells.length n=true from by rw [Nat.beq_eq];exact ab]
 simp only [cond_true,cb.a1,cb.on]
 rw [show Nat.ble (off+y.cells.length) ad.length=true from by rw [Nat.ble_eq,ab];exact aG,ae]
 simp only [Bool.and_true,cond_true,Option.some.injEq]
 rw [ajW ad off _ (by rw [ab];exact aG),DT ad off _ (by rw [ab];exact aG),JI _ ad off (by rw [ab];exact aG)]
theorem ku (k:cb):(h.new k).get (al h.next)=k:=by rw [af.hI,if_pos rfl]
theorem hI (b:aP) (k:cb):(h.new k).get b=if al h.next=b then k else h.get b:=af.hI h b k
theorem c4 (b bP:aP) (k:cb):(h.set b k).get bP=if b=bP then k else h.get bP:=af.c4 h b bP k
def Old (h:af) (b:aP):Prop:=dG b<h.next
theorem Je {b:aP} {i:Nat} (ag:Old h b) (aC:h.next≤i):(al i=b)=False:=by
 apply propext
 constructor
 · intro e
   unfold Old at ag
   rw [←e,cK] at ag
   omega
 · exact False.elim
theorem QP {k:cb}:Old (h.new k) (al h.next):=by unfold Old;rw [cK];exact Nat.lt_succ_self _
def BS (off:Nat) (x:V):Option V:=x.h' none fun b o=>some (.ptr b (o+off))
theorem aaT (off:Nat) (b:aP) (o:Nat):BS off (.ptr b o)=some (.ptr b (o+off)):=(rfl)
theorem ahL {α:Type} (ad:List V) (d:α) (f:List V→α):V.Ad (.tuple ad) d f=f ad:=(rfl)
theorem ahK {α:Type} (ad:List V) (d:α) (f:List V→α):V.q' (.agg ad) d f=f ad:=(rfl)
def lp (x:V):Option V:=(nB (.slice 0)).run x
theorem agJ (b:aP) (off n c:Nat):lp (.slice b off n c)=some (.int .i64 n):=(rfl)
theorem agH (b:aP) (off n c:Nat):lp (.eC b off n c)=some (.int .i64 n):=(rfl)
theorem agK (b:aP) (off n c:Nat):lp (.hA b off n c)=some (.int .i64 0):=(rfl)
theorem agI:lp .b6=some (.int .i64 0):=(rfl)
def CT (x:V):Option V:=(nB .string).run x
theorem agL (s:List UInt8):CT (.str s)=some (.int .i64 s.length):=(rfl)
def iT (n:Nat) (x i:V):Option V:=(uD n).run x i
theorem Ix (n:Nat) (b:aP) (off len cap:Nat) (k:IntKind) (i:Int):iT n (.slice b off len cap) (.int k i)=if 0≤i∧i<len then some (.ptr b (off+i.toNat * n)) else none:=by
 simp only [iT,uD,V.dZ,sk,pW]
 by_cases ab:0≤i<;>by_cases ae:(len:Int)≤i<;>simp [ab,ae]<;>omega
theorem Iw (n:Nat) (b:aP) (off len cap:Nat) (k:IntKind) (i:Int):iT n (.eC b off len cap) (.int k i)=if 0≤i∧i<len then some (.ptr b (off+i.toNat * n)) else none:=by
 simp only [iT,uD,V.dZ,sk,pW]
 by_cases ab:0≤i<;>by_cases ae:(len:Int)≤i<;>simp [ab,ae]<;>omega
def BE (k:IntKind) (x:V):Option V:=x.dZ none fun _ n=>some (.int k (k.wrap n))
theorem Z8 (k bt:IntKind) (n:Int):BE k (.int bt n)=some (.int k (k.wrap n)):=(rfl)
end
end Go.Proofs.YthemdhlheglhoaaGreatDoor.aX
namespace Go.Proofs.YthemdhlheglhoaaGreatDoor.aX
variable [Lay]
open Go Go.RowKit
structure hU where
 all:List bD
 asks:List (Nat × List Nat)
 es:List fR
def ia (D:Option hU) (r:aR) (h:af) (v:V):Option hU:=
 match D with
 | none=>none
 | some d=>some ⟨d.all,d.asks,d.es++[⟨r,h,v⟩]⟩
inductive g_ where
 | os (D:Option hU) (os:List bD)
 | c (b:bx)
 | aW (id:Nat)
section
variable (P:Program)
noncomputable def tv (D:Option hU) (es:List fR) (ay:af):Prop:=
 match D with
 | none=>True
 | some d=>n1 P d.all (d.es++es) ay d.asks
noncomputable def bp:List g_→de→aR→af→(de→aR→af→Prop)→Prop
 | [],e,r,h,Q=>Q e r h
 | .os D os::aM,e,r,h,Q=>match e with
   | .normal=>km P os r h fun es bw aa=>tv P D es aa∧bp aM .normal bw aa Q
   | e=>bp aM e r h Q
 | .c b::aM,e,r,h,Q=>match e with
   | .normal=>b7 P b r h fun e bw aa=>bp aM e bw aa Q
   | e=>bp aM e r h Q
 | .aW id::aM,e,r,h,Q=>bp aM (e.leave id) r h Q
noncomputable def dr (o:Option V) (d:Option Nat) (D:Option hU) (os:List bD) (aM:List g_) (r:aR) (h:af) (Q:de→aR→af→Prop):Prop:=
 vd o fun v=>bp P (.os (ia D r h v) os::aM) .normal (r.set d v) h Q
noncomputable def ja (o:aY) (d:Option Nat) (D:Option hU) (os:List bD) (aM:List g_) (r:aR) (bb:af) (Q:de→aR→af→Prop):Prop:=
 match o with
 | .val v h=>bp P (.os (ia D r bb v) os::aM) .normal (r.set d v) h Q
 | _=>False
noncomputable def fU (v:V) (want:Bool) (d:Option Nat) (g:G) (rs:List Nat) (D:Option hU) (os:List bD) (aM:List g_) (r:aR) (h:af) (Q:de→aR→af→Prop):Prop:=
 gate v want (bp P (.os D (⟨d,g,none,rs⟩::os)::aM) .normal r h Q) (bp P (.os (ia D r h (.tuple [])) os::aM) .normal (r.set d (.tuple [])) h Q)
noncomputable def vQ (v:V) (a b:bx) (aM:List g_) (r:aR) (h:af) (Q:de→aR→af→Prop):Prop:=
 match v with
 | .bool t=>(t=true→bp P (.c a::aM) .normal r h Q)∧(t=false→bp P (.c b::aM) .normal r h Q)
 | _=>False
noncomputable def ps (f:FuncId) (args:List V) (d:Option Nat) (D:Option hU) (os:List bD) (aM:List g_) (r:aR) (h:af) (Q:de→aR→af→Prop):Prop:=
 bB P f args h fun v aa=>bp P (.os (ia D r h v) os::aM) .normal (r.set d v) aa Q
noncomputable def D6 (xs:List V) (d:Option Nat) (D:Option hU) (os:List bD) (aM:List g_) (r:aR) (h:af) (Q:de→aR→af→Prop):Prop:=
 LL P xs h fun v aa=>bp P (.os (ia D r h v) os::aM) .normal (r.set d v) aa Q
noncomputable def Gv (g:FuncId) (xs:List V) (d:Option Nat) (D:Option hU) (os:List bD) (aM:List g_) (r:aR) (h:af) (Q:de→aR→af→Prop):Prop:=
 if g=4294967296 then D6 P xs d D os aM r h Q else ps P g xs d D os aM r h Q
noncomputable def vO (f:V) (args:List V) (d:Option Nat) (D:Option hU) (os:List bD) (aM:List g_) (r:aR) (h:af) (Q:de→aR→af→Prop):Prop:=
 ∃g xs,f.target args=some (g,xs)∧Gv P g xs d D os aM r h Q
noncomputable def uM (b:bx) (aM:List g_) (r:aR) (h:af) (Q:de→aR→af→Prop):Prop:=b7 P (.loop b) r h fun e bw aa=>bp P aM e bw aa Q
end
section
variable {P:Program} {r:aR} {h:af} {Q:de→aR→af→Prop} {aM:List g_} {os:List bD} {D:Option hU}
theorem aiB (r:aR) (h:af) (v:V):ia none r h v=none:=(rfl)
theorem aiC (all:List bD) (asks:List (Nat × List Nat)) (es:List fR) (r:aR) (h:af) (v:V):ia (some ⟨all,asks,es⟩) r h v=some ⟨all,asks,es++[⟨r,h,v⟩]⟩:=(rfl)
theorem cL {c:bx} (H:bp P [.c c] .normal r h Q):b7 P c r h Q:=H
theorem afl {e:de}:bp P [] e r h Q=Q e r h:=(rfl)
theorem aeA {e:de} {id:Nat}:bp P (.aW id::aM) e r h Q=bp P aM (e.leave id) r h Q:=(rfl)
theorem aft {a b:bx}:bp P (.c (.seq a b)::aM) .normal r h Q=bp P (.c a::.c b::aM) .normal r h Q:=by
 simp only [bp]
 rw [Zn]
 congr 1
 funext e bw aa
 cases e<;>rfl
theorem aeB {id:Nat} {b:bx}:bp P (.c (.block id b)::aM) .normal r h Q=bp P (.c b::.aW id::aM) .normal r h Q:=(rfl)
theorem Tj:∀(os:List bD) (r:aR) (h:af) (K:aR→af→Prop),km P os r h (fun _ r h=>K r h)=rv P os r h K
 | [],_,_,_=>rfl
 | o::os,r,h,K=>by
   simp only [km,rv]
   congr 1
   funext bw v aa
   exact Tj os bw aa K
theorem afq {ops:List bD}:bp P (.c (.ar ops)::aM) .normal r h Q=bp P (.os none ops::aM) .normal r h Q:=by
 simp only [bp,tv,true_and]
 rw [Tj,Zm]
theorem afu:bp P (.c .skip::aM) .normal r h Q=bp P aM .normal r h Q:=(rfl)
theorem afr:bp P (.c .ret::aM) .normal r h Q=bp P aM .ret r h Q:=(rfl)
theorem aeS {i:Nat}:bp P (.c (.exit i)::aM) .normal r h Q=bp P aM (.exit i) r h Q:=(rfl)
theorem aeK {b:bx}:bp P (.c b::aM) .ret r h Q=bp P aM .ret r h Q:=(rfl)
theorem aeH {b:bx} {i:Nat}:bp P (.c b::aM) (.exit i) r h Q=bp P aM (.exit i) r h Q:=(rfl)
theorem aeI {c:aV} {a b:bx}:bp P (.c (.cond c a b)::aM) .normal r h Q=vQ P (c.a6 r) a b aM r h Q:=by
 simp only [bp,b7]
 cases c.a6 r<;>rfl
theorem JQ {f:aV} {bg:List Nat} {au:Nat} {a b:bx} {g:FuncId} {cs:List V} (bs:f.a6 r=.func g cs) (aH:g≠dk) (ag:∃fn,P.funcs[g]? =some fn∧fn.body.isSome=true)
 (H:∀l,vs P l au r bg a b→l.st=0→l.dc=none→bB P g (.func dk [.ptr (al (h.next+1)) 0]::cs) ((h.new .er).new (.cr l)) fun _ aa=>
   ∃cR,aa.get (al (h.next+1))=.cr cR∧cR.st≠1∧bp P aM (cR.dc.getD .normal) (r.set (some dY) (.tuple (.ptr (al h.next) 0::(r dY).list))) (aa.set (al (h.next+1)) .dead) Q):
 bp P (.c (.range f bg au a b)::aM) .normal r h Q:=by
 simp only [bp,b7]
 exact ⟨g,cs,bs,aH,ag,H⟩
theorem afb {b:bx}:bp P (.c (.loop b)::aM) .normal r h Q=uM P b aM r h Q:=(rfl)
theorem aeQ {ops:List bD} {asks:List (Nat × List Nat)}:bp P (.c (.draw ops asks)::aM) .normal r h Q=bp P (.os (some ⟨ops,asks,[]⟩) ops::aM) .normal r h Q:=(rfl)
theorem afo:bp P (.os none []::aM) .normal r h Q=bp P aM .normal r h Q:=by
 simp only [bp,km,tv,true_and]
theorem aeP {all:List bD} {asks:List (Nat × List Nat)} {es:List fR}:bp P (.os (some ⟨all,asks,es⟩) []::aM) .normal r h Q=(n1 P all es h asks∧bp P aM .normal r h Q):=by
 simp only [bp,km,tv,List.append_nil]
theorem vI (D:Option hU) (r:aR) (h:af) (v:V) (es:List fR) (ay:af):tv P (ia D r h v) es ay=tv P D (⟨r,h,v⟩::es) ay:=by
 cases D with
 | none=>rfl
 | some d=>simp only [ia,tv,List.append_assoc,List.cons_append,List.nil_append]
theorem gX {d:Option Nat} {g:G} {rs:List Nat} (ah:g.nx=true):bp P (.os D (⟨d,g,none,rs⟩::os)::aM) .normal r h Q=dr P (g.kP P (r.trim rs) h) d D os aM r h Q:=by
 simp only [bp,km,dr]
 rw [QL ah]
 simp only [vI]
theorem gW {d:Option Nat} {g:G} {j:Nat} {want:Bool} {rs:List Nat} (ah:g.nx=true):bp P (.os D (⟨d,g,some (j,want),rs⟩::os)::aM) .normal r h Q=
 (ft (r.trim rs j)∧eZ (took (r.trim rs j) want) ((g.kP P (r.trim rs) h).isSome=true)∧
   dr P (some (V.opt (took (r.trim rs j) want) ((g.kP P (r.trim rs) h).getD .bad))) d D os aM r h Q):=by
 simp only [bp,km,dr,vd]
 rw [QJ ah]
 simp only [vI]
def G.PA:G→Bool
 | .call .. | .nb .. =>true
 | _=>false
theorem ln {d:Option Nat} {g:G} {rs:List Nat} (ah:g.nx=false) (aI:g.PA=false):bp P (.os D (⟨d,g,none,rs⟩::os)::aM) .normal r h Q=ja P (g.run P kf (r.trim rs) h) d D os aM r h Q:=by
 simp only [bp,km]
 rw [QK]
 have e:∀K:V→af→Prop,g.wp P (r.trim rs) h K=∃v aa,g.run P kf (r.trim rs) h=.val v aa∧K v aa:=by
  intro K
  cases g<;>first | rfl | (simp [G.PA] at aI;done)
 rw [e]
 unfold ja
 simp only [bp,vI]
 cases g.run P kf (r.trim rs) h with
 | fail=>exact propext ⟨fun ⟨v,aa,q,_⟩=>(by cases q),fun q=>q.elim⟩
 | cH v1 ab=>exact propext ⟨fun ⟨v,aa,q,_⟩=>(by cases q),fun q=>q.elim⟩
 | val v1 ab=>
   apply propext
   constructor
   · rintro ⟨v,aa,q,k⟩
     simp only [aY.val.injEq] at q
     obtain ⟨rfl,rfl⟩:=q
     exact k
   · intro k
     exact ⟨_,_,rfl,k⟩
theorem kb {d:Option Nat} {g:G} {j:Nat} {want:Bool} {rs:List Nat} (ah:g.nx=false):bp P (.os D (⟨d,g,some (j,want),rs⟩::os)::aM) .normal r h Q=fU P (r.trim rs j) want d g rs D os aM r h Q:=by
 simp only [fU,bp,km,vI]
 rw [QI]
 rfl
theorem PL {d:Option Nat} {f:FuncId} {args:List aV} {rs:List Nat}:bp P (.os D (⟨d,.call f args,none,rs⟩::os)::aM) .normal r h Q=ps P f (aV.fy (r.trim rs) args) d D os aM r h Q:=by
 simp only [ps,bp,km,vI]
 rfl
theorem aeG {d:Option Nat} {f:aV} {args:List aV} {rs:List Nat}:bp P (.os D (⟨d,.nb f args,none,rs⟩::os)::aM) .normal r h Q=vO P (f.a6 (r.trim rs)) (aV.fy (r.trim rs) args) d D os aM r h Q:=by
 simp only [vO,Gv,D6,ps,bp,km,vI]
 rfl
theorem Zs {f:V} {g:FuncId} {xs args:List V} {d:Option Nat} (ay:f.target args=some (g,xs)):vO P f args d D os aM r h Q=Gv P g xs d D os aM r h Q:=by
 apply propext
 constructor
 · rintro ⟨NV,am2,q,k⟩
   rw [ay] at q
   simp only [Option.some.injEq,Prod.mk.injEq] at q
   obtain ⟨rfl,rfl⟩:=q
   exact k
 · intro k
   exact ⟨_,_,ay,k⟩
theorem jy {g:FuncId} {cs args:List V} {d:Option Nat}:vO P (.func g cs) args d D os aM r h Q=if g=4294967296 then D6 P (args++cs) d D os aM r h Q else ps P g (args++cs) d D os aM r h Q:=Zs rfl
@[congr] theorem amM {o b8:Option V} {d:Option Nat} (e:o=b8):dr P o d D os aM r h Q=dr P b8 d D os aM r h Q:=by rw [e]
@[congr] theorem amL {o b8:aY} {d:Option Nat} (e:o=b8):ja P o d D os aM r h Q=ja P b8 d D os aM r h Q:=by rw [e]
@[congr] theorem alL {v dn:V} {a b:bx} (e:v=dn):vQ P v a b aM r h Q=vQ P dn a b aM r h Q:=by rw [e]
@[congr] theorem alV {v dn:V} {want:Bool} {d:Option Nat} {g:G} {rs:List Nat} (e:v=dn):fU P v want d g rs D os aM r h Q=fU P dn want d g rs D os aM r h Q:=by rw [e]
@[congr] theorem alJ {f v8:V} {args yy:List V} {d:Option Nat} (aK:f=v8) (aS:args=yy):vO P f args d D os aM r h Q=vO P v8 yy d D os aM r h Q:=by rw [aK,aS]
@[congr] theorem alI {f:FuncId} {args yy:List V} {d:Option Nat} (aS:args=yy):ps P f args d D os aM r h Q=ps P f yy d D os aM r h Q:=by rw [aS]
@[congr] theorem amX {e dj:de} {bw:aR} {aa:af} (cS:e=dj) (aK:r=bw) (aS:h=aa):bp P aM e r h Q=bp P aM dj bw aa Q:=by rw [cS,aK,aS]
@[congr] theorem ams {b:bx} {bw:aR} {aa:af} (aK:r=bw) (aS:h=aa):uM P b aM r h Q=uM P b aM bw aa Q:=by rw [aK,aS]
theorem aj8 {v:V} {d:Option Nat}:dr P (some v) d D os aM r h Q=bp P (.os (ia D r h v) os::aM) .normal (r.set d v) h Q:=(rfl)
theorem ajP {v:V} {aa:af} {d:Option Nat}:ja P (.val v aa) d D os aM r h Q=bp P (.os (ia D r h v) os::aM) .normal (r.set d v) aa Q:=(rfl)
theorem MQ {t:Bool} {a b:bx}:vQ P (.bool t) a b aM r h Q=((t=true→bp P (.c a::aM) .normal r h Q)∧(t=false→bp P (.c b::aM) .normal r h Q)):=(rfl)
theorem NZ {b:Bool} {d:Option Nat} {g:G} {rs:List Nat}:fU P (.bool b) true d g rs D os aM r h Q=((b=true→bp P (.os D (⟨d,g,none,rs⟩::os)::aM) .normal r h Q)∧(b=false→bp P (.os (ia D r h (.tuple [])) os::aM) .normal (r.set d (.tuple [])) h Q)):=(rfl)
theorem NY {b:Bool} {d:Option Nat} {g:G} {rs:List Nat}:fU P (.bool b) false d g rs D os aM r h Q=((b=false→bp P (.os D (⟨d,g,none,rs⟩::os)::aM) .normal r h Q)∧(b=true→bp P (.os (ia D r h (.tuple [])) os::aM) .normal (r.set d (.tuple [])) h Q)):=(rfl)
theorem abo {ad:List V} {want:Bool} {d:Option Nat} {g:G} {rs:List Nat}:fU P (.tuple ad) want d g rs D os aM r h Q=bp P (.os (ia D r h (.tuple [])) os::aM) .normal (r.set d (.tuple [])) h Q:=(rfl)
theorem abi {c b:Bool} {want:Bool} {d:Option Nat} {f:FuncId} {args:List aV} {rs:List Nat} (v:V)
 (bs:(c&&(b == want))=true→fh P f (aV.fy (r.trim rs) args) h v h)
 (H:bp P (.os (ia D r h (V.opt (c&&(b == want)) v)) os::aM) .normal (r.set d (V.opt (c&&(b == want)) v)) h Q):fU P (V.opt c (.bool b)) want d (.call f args) rs D os aM r h Q:=by
 unfold fU
 rw [PL]
 cases c with
 | false=>exact H
 | true=>
   simp only [V.opt,cond_true,Bool.true_and] at bs H ⊢
   cases b<;>cases want<;>simp only [gate]
   · exact ⟨fun _=>⟨v,h,bs rfl,H⟩,fun e=>by cases e⟩
   · exact ⟨fun e=>(by cases e),fun _=>H⟩
   · exact ⟨fun e=>(by cases e),fun _=>H⟩
   · exact ⟨fun _=>⟨v,h,bs rfl,H⟩,fun e=>by cases e⟩
def sC (v:V) (o:Option af):aY:=gB v o
theorem ah8 (v:V) (aa:af):sC v (some aa)=.val v aa:=(rfl)
def Mb (b:Bool) (o:aY):aY:=bif b then o else .fail
theorem VT (o:aY):Mb true o=o:=(rfl)
noncomputable def Bs (n:Nat) (h:af) (o:Option (List V)):aY:=
 match o with
 | some cs=>sC (.slice (al h.next) 0 n n) (fV h cs)
 | none=>.fail
theorem VU (n:Nat) (cs:List V):Bs n h (some cs)=sC (.slice (al h.next) 0 n n) (fV h cs):=(rfl)
theorem ajk {n size:Nat} {z:List V} {bg:List (Nat × Nat × aV)}:(G.hG n size z bg).run P kf r h=Bs n h (h6 (iE z n) (jD r bg)):=by
 simp only [G.run]
 cases h6 (iE z n) (jD r bg) with
 | none=>rfl
 | some cs=>
   simp only [Bs,sC,gB]
   cases fV h cs<;>rfl
theorem aaY (cells:List V):h6 cells []=some cells:=(rfl)
theorem aaW {cells:List V} {off size:Nat} {v:V} {rest:List (Nat × Nat × V)} (ab:v.fK=true) (ae:v.cells.length=size) (aG:off+size≤cells.length):
 h6 cells ((off,size,v)::rest)=h6 (nM cells off v.cells) rest:=by
 simp only [h6]
 rw [ab,show Nat.beq v.cells.length size=true from by rw [Nat.beq_eq];exact ae,show Nat.ble (off+v.cells.length) cells.length=true from by rw [Nat.ble_eq,ae];exact aG]
 simp only [Bool.and_true,cond_true]
 congr 1
 have il:∀(ws cs:List V) (o:Nat),o+ws.length≤cs.length→qH cs o ws=hS cs o ws:=by
  intro ws
  induction ws with
  | nil=>intro cs o _;simp [qH,hS]
  | cons w ws bk=>
    intro cs o aT
    simp only [List.length_cons] at aT
    simp only [qH]
    rw [bk (cs.set o w) (o+1) (by simp;omega),Sj cs o w ws (by omega)]
 rw [il _ _ _ (by rw [ae];exact aG),DT _ _ _ (by rw [ae];exact aG)]
def Bu (o:Option (List V)):Option V:=
 match o with
 | some cs=>some (.agg cs)
 | none=>none
theorem VW (cs:List V):Bu (some cs)=some (.agg cs):=(rfl)
theorem aaM:jD r []=[]:=(rfl)
theorem aaL {o s:Nat} {x:aV} {bg:List (Nat × Nat × aV)}:jD r ((o,s,x)::bg)=(o,s,x.a6 r)::jD r bg:=(rfl)
noncomputable def qw (P:Program) (o:bD) (e:fR) (H:af):Prop:=o.wp P e.r H fun _ dn _=>dn=e.v
theorem Vz {ops:List bD} {es:List fR} {ay:af}:n1 P ops es ay []=True:=(rfl)
theorem Vy {ops:List bD} {es:List fR} {ay:af} {p:Nat} {fe:List Nat} {rest:List (Nat × List Nat)}:n1 P ops es ay ((p,fe)::rest)=(qx P ops[p]? es[p]? es ay fe∧n1 P ops es ay rest):=(rfl)
theorem Vv {o:Option bD} {e:Option fR} {es:List fR} {ay:af}:qx P o e es ay []=True:=(rfl)
theorem Vs {o:bD} {e:fR} {es:List fR} {ay:af} {s:Nat} {fe:List Nat}:qx P (some o) (some e) es ay (s::fe)=(qw P o e (wD es ay s)∧qx P (some o) (some e) es ay fe):=(rfl)
def Hq (o:Option fR) (ay:af):af:=
 match o with
 | some e=>e.h
 | none=>ay
theorem acw (es:List fR) (ay:af) (s:Nat):wD es ay s=Hq es[s]? ay:=(rfl)
theorem acy (e:fR) (ay:af):Hq (some e) ay=e.h:=(rfl)
theorem acx (ay:af):Hq none ay=ay:=(rfl)
theorem L0 {d:Option Nat} {g:G} {rs:List Nat} {e:fR} {H:af} (ah:g.nx=true):qw P ⟨d,g,none,rs⟩ e H=(g.kP P (e.r.trim rs) H=some e.v):=by
 unfold qw
 rw [QL ah]
 apply propext
 cases g.kP P (e.r.trim rs) H with
 | none=>exact ⟨fun q=>q.elim,fun q=>(by cases q)⟩
 | some v=>exact ⟨fun q=>by rw [show v=e.v from q],fun q=>by cases q;rfl⟩
theorem LZ {d:Option Nat} {g:G} {j:Nat} {want:Bool} {rs:List Nat} {e:fR} {H:af} (ah:g.nx=true):qw P ⟨d,g,some (j,want),rs⟩ e H=
 (ft (e.r.trim rs j)∧eZ (took (e.r.trim rs j) want) ((g.kP P (e.r.trim rs) H).isSome=true)∧V.opt (took (e.r.trim rs j) want) ((g.kP P (e.r.trim rs) H).getD .bad)=e.v):=by
 unfold qw
 rw [QJ ah]
theorem Vt {d:Option Nat} {x:aV} {rs:List Nat} {e:fR} {H:af}:qw P ⟨d,.eu x,none,rs⟩ e H=(l5 H (x.a6 (e.r.trim rs))=some e.v):=L0 rfl
theorem Vu {d:Option Nat} {n:Nat} {x:aV} {rs:List Nat} {e:fR} {H:af}:qw P ⟨d,.kd n x,none,rs⟩ e H=(l4 n H (x.a6 (e.r.trim rs))=some e.v):=L0 rfl
theorem Vw {d:Option Nat} {x:aV} {j:Nat} {want:Bool} {rs:List Nat} {e:fR} {H:af}:qw P ⟨d,.eu x,some (j,want),rs⟩ e H=
 (ft (e.r.trim rs j)∧eZ (took (e.r.trim rs j) want) ((l5 H (x.a6 (e.r.trim rs))).isSome=true)∧V.opt (took (e.r.trim rs j) want) ((l5 H (x.a6 (e.r.trim rs))).getD .bad)=e.v):=LZ rfl
theorem Vx {d:Option Nat} {n:Nat} {x:aV} {j:Nat} {want:Bool} {rs:List Nat} {e:fR} {H:af}:qw P ⟨d,.kd n x,some (j,want),rs⟩ e H=
 (ft (e.r.trim rs j)∧eZ (took (e.r.trim rs j) want) ((l4 n H (x.a6 (e.r.trim rs))).isSome=true)∧V.opt (took (e.r.trim rs j) want) ((l4 n H (x.a6 (e.r.trim rs))).getD .bad)=e.v):=LZ rfl
end
end Go.Proofs.YthemdhlheglhoaaGreatDoor.aX
namespace Go.Proofs.YthemdhlheglhoaaGreatDoor.aX
variable [Lay]
open Go Go.RowKit
noncomputable def DK (x:V) (h:af):aY:=
 match x with
 | .str s=>.val (.ptr (al h.next) 0) (h.new (.iter s 0))
 | _=>.fail
theorem ajd (s:List UInt8) (h:af):DK (.str s) h=.val (.ptr (al h.next) 0) (h.new (.iter s 0)):=(rfl)
section
variable {P:Program} {r:aR} {h:af} {Q:de→aR→af→Prop} {aM:List g_} {os:List bD} {D:Option hU} {d:Option Nat} {rs:List Nat}
theorem afh {x:aV}:bp P (.os D (⟨d,(.fH x),none,rs⟩::os)::aM) .normal r h Q=dr P (some (x.a6 (r.trim rs))) d D os aM r h Q:=gX rfl
theorem af8 {x:aV} {j:Nat} {want:Bool}:bp P (.os D (⟨d,(.fH x),some (j,want),rs⟩::os)::aM) .normal r h Q=(ft (r.trim rs j)∧eZ (took (r.trim rs j) want) ((some (x.a6 (r.trim rs))).isSome=true)∧dr P (some (V.opt (took (r.trim rs j) want) ((some (x.a6 (r.trim rs))).getD .bad))) d D os aM r h Q):=gW rfl
theorem afp {c a b:aV}:bp P (.os D (⟨d,(.pick c a b),none,rs⟩::os)::aM) .normal r h Q=dr P (An (c.a6 (r.trim rs)) (a.a6 (r.trim rs)) (b.a6 (r.trim rs))) d D os aM r h Q:=gX rfl
theorem agb {c a b:aV} {j:Nat} {want:Bool}:bp P (.os D (⟨d,(.pick c a b),some (j,want),rs⟩::os)::aM) .normal r h Q=(ft (r.trim rs j)∧eZ (took (r.trim rs j) want) ((An (c.a6 (r.trim rs)) (a.a6 (r.trim rs)) (b.a6 (r.trim rs))).isSome=true)∧dr P (some (V.opt (took (r.trim rs j) want) ((An (c.a6 (r.trim rs)) (a.a6 (r.trim rs)) (b.a6 (r.trim rs))).getD .bad))) d D os aM r h Q):=gW rfl
theorem aeF {z:List V} {bg:List (Nat × Nat × aV)}:bp P (.os D (⟨d,(.build z bg),none,rs⟩::os)::aM) .normal r h Q=dr P (Bu (h6 z (jD (r.trim rs) bg))) d D os aM r h Q:=gX rfl
theorem afG {z:List V} {bg:List (Nat × Nat × aV)} {j:Nat} {want:Bool}:bp P (.os D (⟨d,(.build z bg),some (j,want),rs⟩::os)::aM) .normal r h Q=(ft (r.trim rs j)∧eZ (took (r.trim rs j) want) ((Bu (h6 z (jD (r.trim rs) bg))).isSome=true)∧dr P (some (V.opt (took (r.trim rs j) want) ((Bu (h6 z (jD (r.trim rs) bg))).getD .bad))) d D os aM r h Q):=gW rfl
theorem ae5 {x:aV}:bp P (.os D (⟨d,(.eu x),none,rs⟩::os)::aM) .normal r h Q=dr P (l5 h (x.a6 (r.trim rs))) d D os aM r h Q:=gX rfl
theorem afY {x:aV} {j:Nat} {want:Bool}:bp P (.os D (⟨d,(.eu x),some (j,want),rs⟩::os)::aM) .normal r h Q=(ft (r.trim rs j)∧eZ (took (r.trim rs j) want) ((l5 h (x.a6 (r.trim rs))).isSome=true)∧dr P (some (V.opt (took (r.trim rs j) want) ((l5 h (x.a6 (r.trim rs))).getD .bad))) d D os aM r h Q):=gW rfl
theorem ae6 {n:Nat} {x:aV}:bp P (.os D (⟨d,(.kd n x),none,rs⟩::os)::aM) .normal r h Q=dr P (l4 n h (x.a6 (r.trim rs))) d D os aM r h Q:=gX rfl
theorem afZ {n:Nat} {x:aV} {j:Nat} {want:Bool}:bp P (.os D (⟨d,(.kd n x),some (j,want),rs⟩::os)::aM) .normal r h Q=(ft (r.trim rs j)∧eZ (took (r.trim rs j) want) ((l4 n h (x.a6 (r.trim rs))).isSome=true)∧dr P (some (V.opt (took (r.trim rs j) want) ((l4 n h (x.a6 (r.trim rs))).getD .bad))) d D os aM r h Q):=gW rfl
theorem afm {x:aV}:bp P (.os D (⟨d,(.sy x),none,rs⟩::os)::aM) .normal r h Q=dr P (sx (x.a6 (r.trim rs))) d D os aM r h Q:=gX rfl
theorem af_ {x:aV} {j:Nat} {want:Bool}:bp P (.os D (⟨d,(.sy x),some (j,want),rs⟩::os)::aM) .normal r h Q=(ft (r.trim rs j)∧eZ (took (r.trim rs j) want) ((sx (x.a6 (r.trim rs))).isSome=true)∧dr P (some (V.opt (took (r.trim rs j) want) ((sx (x.a6 (r.trim rs))).getD .bad))) d D os aM r h Q):=gW rfl
theorem aez {k:dV} {x y:aV}:bp P (.os D (⟨d,(.bin k x y),none,rs⟩::os)::aM) .normal r h Q=dr P (k.run P (x.a6 (r.trim rs)) (y.a6 (r.trim rs))) d D os aM r h Q:=gX rfl
theorem afD {k:dV} {x y:aV} {j:Nat} {want:Bool}:bp P (.os D (⟨d,(.bin k x y),some (j,want),rs⟩::os)::aM) .normal r h Q=(ft (r.trim rs j)∧eZ (took (r.trim rs j) want) ((k.run P (x.a6 (r.trim rs)) (y.a6 (r.trim rs))).isSome=true)∧dr P (some (V.opt (took (r.trim rs j) want) ((k.run P (x.a6 (r.trim rs)) (y.a6 (r.trim rs))).getD .bad))) d D os aM r h Q):=gW rfl
theorem afz {o:UnOp} {x:aV}:bp P (.os D (⟨d,(.un o x),none,rs⟩::os)::aM) .normal r h Q=dr P (p8 o (x.a6 (r.trim rs))) d D os aM r h Q:=gX rfl
theorem agh {o:UnOp} {x:aV} {j:Nat} {want:Bool}:bp P (.os D (⟨d,(.un o x),some (j,want),rs⟩::os)::aM) .normal r h Q=(ft (r.trim rs j)∧eZ (took (r.trim rs j) want) ((p8 o (x.a6 (r.trim rs))).isSome=true)∧dr P (some (V.opt (took (r.trim rs j) want) ((p8 o (x.a6 (r.trim rs))).getD .bad))) d D os aM r h Q):=gW rfl
theorem aeX {f:FuncId} {cs:List aV}:bp P (.os D (⟨d,(.fn f cs),none,rs⟩::os)::aM) .normal r h Q=dr P (some (V.func f (aV.fy (r.trim rs) cs))) d D os aM r h Q:=gX rfl
theorem afS {f:FuncId} {cs:List aV} {j:Nat} {want:Bool}:bp P (.os D (⟨d,(.fn f cs),some (j,want),rs⟩::os)::aM) .normal r h Q=(ft (r.trim rs j)∧eZ (took (r.trim rs j) want) ((some (V.func f (aV.fy (r.trim rs) cs))).isSome=true)∧dr P (some (V.opt (took (r.trim rs j) want) ((some (V.func f (aV.fy (r.trim rs) cs))).getD .bad))) d D os aM r h Q):=gW rfl
theorem ae2 {t:TypeId} {x:aV}:bp P (.os D (⟨d,(.uy t x),none,rs⟩::os)::aM) .normal r h Q=dr P (some (V.iface t (x.a6 (r.trim rs)))) d D os aM r h Q:=gX rfl
theorem afV {t:TypeId} {x:aV} {j:Nat} {want:Bool}:bp P (.os D (⟨d,(.uy t x),some (j,want),rs⟩::os)::aM) .normal r h Q=(ft (r.trim rs j)∧eZ (took (r.trim rs j) want) ((some (V.iface t (x.a6 (r.trim rs)))).isSome=true)∧dr P (some (V.opt (took (r.trim rs j) want) ((some (V.iface t (x.a6 (r.trim rs)))).getD .bad))) d D os aM r h Q):=gW rfl
theorem afw {x:aV} {bR aC m3:Option aV}:bp P (.os D (⟨d,(.oQ x bR aC m3),none,rs⟩::os)::aM) .normal r h Q=dr P (kQ (x.a6 (r.trim rs)) (aV.opt (r.trim rs) bR) (aV.opt (r.trim rs) aC) (aV.opt (r.trim rs) m3)) d D os aM r h Q:=gX rfl
theorem age {x:aV} {bR aC m3:Option aV} {j:Nat} {want:Bool}:bp P (.os D (⟨d,(.oQ x bR aC m3),some (j,want),rs⟩::os)::aM) .normal r h Q=(ft (r.trim rs j)∧eZ (took (r.trim rs j) want) ((kQ (x.a6 (r.trim rs)) (aV.opt (r.trim rs) bR) (aV.opt (r.trim rs) aC) (aV.opt (r.trim rs) m3)).isSome=true)∧dr P (some (V.opt (took (r.trim rs j) want) ((kQ (x.a6 (r.trim rs)) (aV.opt (r.trim rs) bR) (aV.opt (r.trim rs) aC) (aV.opt (r.trim rs) m3)).getD .bad))) d D os aM r h Q):=gW rfl
theorem afv {n:Nat} {x:aV} {bR aC m3:Option aV}:bp P (.os D (⟨d,(.fv n x bR aC m3),none,rs⟩::os)::aM) .normal r h Q=dr P (Az n (x.a6 (r.trim rs)) (aV.opt (r.trim rs) bR) (aV.opt (r.trim rs) aC) (aV.opt (r.trim rs) m3)) d D os aM r h Q:=gX rfl
theorem agd {n:Nat} {x:aV} {bR aC m3:Option aV} {j:Nat} {want:Bool}:bp P (.os D (⟨d,(.fv n x bR aC m3),some (j,want),rs⟩::os)::aM) .normal r h Q=(ft (r.trim rs j)∧eZ (took (r.trim rs j) want) ((Az n (x.a6 (r.trim rs)) (aV.opt (r.trim rs) bR) (aV.opt (r.trim rs) aC) (aV.opt (r.trim rs) m3)).isSome=true)∧dr P (some (V.opt (took (r.trim rs j) want) ((Az n (x.a6 (r.trim rs)) (aV.opt (r.trim rs) bR) (aV.opt (r.trim rs) aC) (aV.opt (r.trim rs) m3)).getD .bad))) d D os aM r h Q):=gW rfl
theorem aeU {o:Nat} {x:aV}:bp P (.os D (⟨d,(.il o x),none,rs⟩::os)::aM) .normal r h Q=dr P (BS o (x.a6 (r.trim rs))) d D os aM r h Q:=gX rfl
theorem afP {o:Nat} {x:aV} {j:Nat} {want:Bool}:bp P (.os D (⟨d,(.il o x),some (j,want),rs⟩::os)::aM) .normal r h Q=(ft (r.trim rs j)∧eZ (took (r.trim rs j) want) ((BS o (x.a6 (r.trim rs))).isSome=true)∧dr P (some (V.opt (took (r.trim rs j) want) ((BS o (x.a6 (r.trim rs))).getD .bad))) d D os aM r h Q):=gW rfl
theorem aeV {o:Nat} {x:aV}:bp P (.os D (⟨d,(.tL o x),none,rs⟩::os)::aM) .normal r h Q=dr P ((x.a6 (r.trim rs)).q' none fun cs=>cs[o]?) d D os aM r h Q:=gX rfl
theorem afQ {o:Nat} {x:aV} {j:Nat} {want:Bool}:bp P (.os D (⟨d,(.tL o x),some (j,want),rs⟩::os)::aM) .normal r h Q=(ft (r.trim rs j)∧eZ (took (r.trim rs j) want) (((x.a6 (r.trim rs)).q' none fun cs=>cs[o]?).isSome=true)∧dr P (some (V.opt (took (r.trim rs j) want) (((x.a6 (r.trim rs)).q' none fun cs=>cs[o]?).getD .bad))) d D os aM r h Q):=gW rfl
theorem aeW {o n:Nat} {x:aV}:bp P (.os D (⟨d,(.tM o n x),none,rs⟩::os)::aM) .normal r h Q=dr P ((x.a6 (r.trim rs)).q' none fun cs=>some (V.agg ((cs.drop o).take n))) d D os aM r h Q:=gX rfl
theorem afR {o n:Nat} {x:aV} {j:Nat} {want:Bool}:bp P (.os D (⟨d,(.tM o n x),some (j,want),rs⟩::os)::aM) .normal r h Q=(ft (r.trim rs j)∧eZ (took (r.trim rs j) want) (((x.a6 (r.trim rs)).q' none fun cs=>some (V.agg ((cs.drop o).take n))).isSome=true)∧dr P (some (V.opt (took (r.trim rs j) want) (((x.a6 (r.trim rs)).q' none fun cs=>some (V.agg ((cs.drop o).take n))).getD .bad))) d D os aM r h Q):=gW rfl
theorem ae0 {n:Nat} {x i:aV}:bp P (.os D (⟨d,(.cD n x i),none,rs⟩::os)::aM) .normal r h Q=dr P (iT n (x.a6 (r.trim rs)) (i.a6 (r.trim rs))) d D os aM r h Q:=gX rfl
theorem afT {n:Nat} {x i:aV} {j:Nat} {want:Bool}:bp P (.os D (⟨d,(.cD n x i),some (j,want),rs⟩::os)::aM) .normal r h Q=(ft (r.trim rs j)∧eZ (took (r.trim rs j) want) ((iT n (x.a6 (r.trim rs)) (i.a6 (r.trim rs))).isSome=true)∧dr P (some (V.opt (took (r.trim rs j) want) ((iT n (x.a6 (r.trim rs)) (i.a6 (r.trim rs))).getD .bad))) d D os aM r h Q):=gW rfl
theorem ae1 {m n:Nat} {x i:aV}:bp P (.os D (⟨d,(.w3 m n x i),none,rs⟩::os)::aM) .normal r h Q=dr P ((uC m n).run (x.a6 (r.trim rs)) (i.a6 (r.trim rs))) d D os aM r h Q:=gX rfl
theorem afU {m n:Nat} {x i:aV} {j:Nat} {want:Bool}:bp P (.os D (⟨d,(.w3 m n x i),some (j,want),rs⟩::os)::aM) .normal r h Q=(ft (r.trim rs j)∧eZ (took (r.trim rs j) want) (((uC m n).run (x.a6 (r.trim rs)) (i.a6 (r.trim rs))).isSome=true)∧dr P (some (V.opt (took (r.trim rs j) want) (((uC m n).run (x.a6 (r.trim rs)) (i.a6 (r.trim rs))).getD .bad))) d D os aM r h Q):=gW rfl
theorem ae4 {x i:aV}:bp P (.os D (⟨d,(.ll x i),none,rs⟩::os)::aM) .normal r h Q=dr P (q4.run (x.a6 (r.trim rs)) (i.a6 (r.trim rs))) d D os aM r h Q:=gX rfl
theorem afX {x i:aV} {j:Nat} {want:Bool}:bp P (.os D (⟨d,(.ll x i),some (j,want),rs⟩::os)::aM) .normal r h Q=(ft (r.trim rs j)∧eZ (took (r.trim rs j) want) ((q4.run (x.a6 (r.trim rs)) (i.a6 (r.trim rs))).isSome=true)∧dr P (some (V.opt (took (r.trim rs j) want) ((q4.run (x.a6 (r.trim rs)) (i.a6 (r.trim rs))).getD .bad))) d D os aM r h Q):=gW rfl
theorem ae3 {t:TypeId} {x i:aV}:bp P (.os D (⟨d,(.iU t x i),none,rs⟩::os)::aM) .normal r h Q=dr P ((q3 P t).run (x.a6 (r.trim rs)) (i.a6 (r.trim rs))) d D os aM r h Q:=gX rfl
theorem afW {t:TypeId} {x i:aV} {j:Nat} {want:Bool}:bp P (.os D (⟨d,(.iU t x i),some (j,want),rs⟩::os)::aM) .normal r h Q=(ft (r.trim rs j)∧eZ (took (r.trim rs j) want) (((q3 P t).run (x.a6 (r.trim rs)) (i.a6 (r.trim rs))).isSome=true)∧dr P (some (V.opt (took (r.trim rs j) want) (((q3 P t).run (x.a6 (r.trim rs)) (i.a6 (r.trim rs))).getD .bad))) d D os aM r h Q):=gW rfl
theorem afa {k:ju} {z:V} {ok:Bool} {x i:aV}:bp P (.os D (⟨d,(.look k z ok x i),none,rs⟩::os)::aM) .normal r h Q=dr P (nD k.eq z ok h (x.a6 (r.trim rs)) (i.a6 (r.trim rs))) d D os aM r h Q:=gX rfl
theorem af4 {k:ju} {z:V} {ok:Bool} {x i:aV} {j:Nat} {want:Bool}:bp P (.os D (⟨d,(.look k z ok x i),some (j,want),rs⟩::os)::aM) .normal r h Q=(ft (r.trim rs j)∧eZ (took (r.trim rs j) want) ((nD k.eq z ok h (x.a6 (r.trim rs)) (i.a6 (r.trim rs))).isSome=true)∧dr P (some (V.opt (took (r.trim rs j) want) ((nD k.eq z ok h (x.a6 (r.trim rs)) (i.a6 (r.trim rs))).getD .bad))) d D os aM r h Q):=gW rfl
theorem aeT {x:aV} {i:Nat}:bp P (.os D (⟨d,(.ext x i),none,rs⟩::os)::aM) .normal r h Q=dr P ((x.a6 (r.trim rs)).Ad none fun ad=>ad[i]?) d D os aM r h Q:=gX rfl
theorem afO {x:aV} {i:Nat} {j:Nat} {want:Bool}:bp P (.os D (⟨d,(.ext x i),some (j,want),rs⟩::os)::aM) .normal r h Q=(ft (r.trim rs j)∧eZ (took (r.trim rs j) want) (((x.a6 (r.trim rs)).Ad none fun ad=>ad[i]?).isSome=true)∧dr P (some (V.opt (took (r.trim rs j) want) (((x.a6 (r.trim rs)).Ad none fun ad=>ad[i]?).getD .bad))) d D os aM r h Q):=gW rfl
theorem aff {args:List aV}:bp P (.os D (⟨d,(.uP args),none,rs⟩::os)::aM) .normal r h Q=dr P (jO (fun b a=>!Int.leB a b) (aV.fy (r.trim rs) args)) d D os aM r h Q:=gX rfl
theorem af7 {args:List aV} {j:Nat} {want:Bool}:bp P (.os D (⟨d,(.uP args),some (j,want),rs⟩::os)::aM) .normal r h Q=(ft (r.trim rs j)∧eZ (took (r.trim rs j) want) ((jO (fun b a=>!Int.leB a b) (aV.fy (r.trim rs) args)).isSome=true)∧dr P (some (V.opt (took (r.trim rs j) want) ((jO (fun b a=>!Int.leB a b) (aV.fy (r.trim rs) args)).getD .bad))) d D os aM r h Q):=gW rfl
theorem afi {args:List aV}:bp P (.os D (⟨d,(.dK args),none,rs⟩::os)::aM) .normal r h Q=dr P (jO (fun b a=>!Int.leB b a) (aV.fy (r.trim rs) args)) d D os aM r h Q:=gX rfl
theorem af9 {args:List aV} {j:Nat} {want:Bool}:bp P (.os D (⟨d,(.dK args),some (j,want),rs⟩::os)::aM) .normal r h Q=(ft (r.trim rs j)∧eZ (took (r.trim rs j) want) ((jO (fun b a=>!Int.leB b a) (aV.fy (r.trim rs) args)).isSome=true)∧dr P (some (V.opt (took (r.trim rs j) want) ((jO (fun b a=>!Int.leB b a) (aV.fy (r.trim rs) args)).getD .bad))) d D os aM r h Q):=gW rfl
theorem aeM {k:IntKind} {x:aV}:bp P (.os D (⟨d,(.hW (.int k) x),none,rs⟩::os)::aM) .normal r h Q=dr P (BE k (x.a6 (r.trim rs))) d D os aM r h Q:=gX rfl
theorem afL {k:IntKind} {x:aV} {j:Nat} {want:Bool}:bp P (.os D (⟨d,(.hW (.int k) x),some (j,want),rs⟩::os)::aM) .normal r h Q=(ft (r.trim rs j)∧eZ (took (r.trim rs j) want) ((BE k (x.a6 (r.trim rs))).isSome=true)∧dr P (some (V.opt (took (r.trim rs j) want) ((BE k (x.a6 (r.trim rs))).getD .bad))) d D os aM r h Q):=gW rfl
theorem ae9 {x:aV}:bp P (.os D (⟨d,(.len .slice x),none,rs⟩::os)::aM) .normal r h Q=dr P (lp (x.a6 (r.trim rs))) d D os aM r h Q:=gX rfl
theorem af2 {x:aV} {j:Nat} {want:Bool}:bp P (.os D (⟨d,(.len .slice x),some (j,want),rs⟩::os)::aM) .normal r h Q=(ft (r.trim rs j)∧eZ (took (r.trim rs j) want) ((lp (x.a6 (r.trim rs))).isSome=true)∧dr P (some (V.opt (took (r.trim rs j) want) ((lp (x.a6 (r.trim rs))).getD .bad))) d D os aM r h Q):=gW rfl
theorem ae' {x:aV}:bp P (.os D (⟨d,(.len .str x),none,rs⟩::os)::aM) .normal r h Q=dr P (CT (x.a6 (r.trim rs))) d D os aM r h Q:=gX rfl
theorem af3 {x:aV} {j:Nat} {want:Bool}:bp P (.os D (⟨d,(.len .str x),some (j,want),rs⟩::os)::aM) .normal r h Q=(ft (r.trim rs j)∧eZ (took (r.trim rs j) want) ((CT (x.a6 (r.trim rs))).isSome=true)∧dr P (some (V.opt (took (r.trim rs j) want) ((CT (x.a6 (r.trim rs))).getD .bad))) d D os aM r h Q):=gW rfl
theorem ae7 {n:Nat} {x:aV}:bp P (.os D (⟨d,(.len (.arr n) x),none,rs⟩::os)::aM) .normal r h Q=dr P (some (V.int .i64 n)) d D os aM r h Q:=gX rfl
theorem af0 {n:Nat} {x:aV} {j:Nat} {want:Bool}:bp P (.os D (⟨d,(.len (.arr n) x),some (j,want),rs⟩::os)::aM) .normal r h Q=(ft (r.trim rs j)∧eZ (took (r.trim rs j) want) ((some (V.int .i64 n)).isSome=true)∧dr P (some (V.opt (took (r.trim rs j) want) ((some (V.int .i64 n)).getD .bad))) d D os aM r h Q):=gW rfl
theorem afk {z:List V}:bp P (.os D (⟨d,(.new z),none,rs⟩::os)::aM) .normal r h Q=ja P (sC (.ptr (al h.next) 0) (fV h z)) d D os aM r h Q:=ln rfl rfl
theorem af' {z:List V} {j:Nat} {want:Bool}:bp P (.os D (⟨d,(.new z),some (j,want),rs⟩::os)::aM) .normal r h Q=fU P (r.trim rs j) want d (.new z) rs D os aM r h Q:=kb rfl
theorem aeD {x:aV}:bp P (.os D (⟨d,(.box x),none,rs⟩::os)::aM) .normal r h Q=ja P (Mb (x.a6 (r.trim rs)).fK (sC (.ptr (al h.next) 0) (fV h (x.a6 (r.trim rs)).cells))) d D os aM r h Q:=ln rfl rfl
theorem afE {x:aV} {j:Nat} {want:Bool}:bp P (.os D (⟨d,(.box x),some (j,want),rs⟩::os)::aM) .normal r h Q=fU P (r.trim rs j) want d (.box x) rs D os aM r h Q:=kb rfl
theorem aeE {n m:Nat} {z:List V} {bg:List (Nat × Nat × aV)}:bp P (.os D (⟨d,(.hG n m z bg),none,rs⟩::os)::aM) .normal r h Q=ja P (Bs n h (h6 (iE z n) (jD (r.trim rs) bg))) d D os aM r h Q:=by rw [ln rfl rfl,ajk]
theorem afF {n m:Nat} {z:List V} {bg:List (Nat × Nat × aV)} {j:Nat} {want:Bool}:bp P (.os D (⟨d,(.hG n m z bg),some (j,want),rs⟩::os)::aM) .normal r h Q=fU P (r.trim rs j) want d (.hG n m z bg) rs D os aM r h Q:=kb rfl
theorem afx {n:Nat} {x y:aV}:bp P (.os D (⟨d,(.st n x y),none,rs⟩::os)::aM) .normal r h Q=ja P (sC .bad (oR n h (x.a6 (r.trim rs)) (y.a6 (r.trim rs)))) d D os aM r h Q:=ln rfl rfl
theorem agf {n:Nat} {x y:aV} {j:Nat} {want:Bool}:bp P (.os D (⟨d,(.st n x y),some (j,want),rs⟩::os)::aM) .normal r h Q=fU P (r.trim rs j) want d (.st n x y) rs D os aM r h Q:=kb rfl
theorem afe {n:Nat} {z:List V} {l c:aV}:bp P (.os D (⟨d,(.zY n z l c),none,rs⟩::os)::aM) .normal r h Q=ja P (C1 n z (l.a6 (r.trim rs)) (c.a6 (r.trim rs)) h) d D os aM r h Q:=ln rfl rfl
theorem af6 {n:Nat} {z:List V} {l c:aV} {j:Nat} {want:Bool}:bp P (.os D (⟨d,(.zY n z l c),some (j,want),rs⟩::os)::aM) .normal r h Q=fU P (r.trim rs j) want d (.zY n z l c) rs D os aM r h Q:=kb rfl
theorem afA {k:ju} {m i x:aV}:bp P (.os D (⟨d,(.l' k m i x),none,rs⟩::os)::aM) .normal r h Q=ja P (sC .bad (mN k.eq h (m.a6 (r.trim rs)) (i.a6 (r.trim rs)) (x.a6 (r.trim rs)))) d D os aM r h Q:=ln rfl rfl
theorem agi {k:ju} {m i x:aV} {j:Nat} {want:Bool}:bp P (.os D (⟨d,(.l' k m i x),some (j,want),rs⟩::os)::aM) .normal r h Q=fU P (r.trim rs j) want d (.l' k m i x) rs D os aM r h Q:=kb rfl
theorem afd {x:Option aV}:bp P (.os D (⟨d,(.sw x),none,rs⟩::os)::aM) .normal r h Q=ja P (pZ (aV.opt (r.trim rs) x) h) d D os aM r h Q:=ln rfl rfl
theorem af5 {x:Option aV} {j:Nat} {want:Bool}:bp P (.os D (⟨d,(.sw x),some (j,want),rs⟩::os)::aM) .normal r h Q=fU P (r.trim rs j) want d (.sw x) rs D os aM r h Q:=kb rfl
theorem afs {x:aV}:bp P (.os D (⟨d,(.xA x),none,rs⟩::os)::aM) .normal r h Q=ja P (DK (x.a6 (r.trim rs)) h) d D os aM r h Q:=(ln rfl rfl).trans (by first | rfl | (unfold DK;simp only [G.run];cases x.a6 (r.trim rs)<;>rfl) | (unfold DK;cases x.a6 (r.trim rs)<;>rfl))
theorem agc {x:aV} {j:Nat} {want:Bool}:bp P (.os D (⟨d,(.xA x),some (j,want),rs⟩::os)::aM) .normal r h Q=fU P (r.trim rs j) want d (.xA x) rs D os aM r h Q:=kb rfl
theorem afn {x:aV}:bp P (.os D (⟨d,(.xn x),none,rs⟩::os)::aM) .normal r h Q=ja P (uS (x.a6 (r.trim rs)) h) d D os aM r h Q:=ln rfl rfl
theorem aga {x:aV} {j:Nat} {want:Bool}:bp P (.os D (⟨d,(.xn x),some (j,want),rs⟩::os)::aM) .normal r h Q=fU P (r.trim rs j) want d (.xn x) rs D os aM r h Q:=kb rfl
theorem aex {n:Nat} {s x:aV}:bp P (.os D (⟨d,(.app n s x),none,rs⟩::os)::aM) .normal r h Q=ja P (kW n (s.a6 (r.trim rs)) (x.a6 (r.trim rs)) h) d D os aM r h Q:=ln rfl rfl
theorem afC {n:Nat} {s x:aV} {j:Nat} {want:Bool}:bp P (.os D (⟨d,(.app n s x),some (j,want),rs⟩::os)::aM) .normal r h Q=fU P (r.trim rs j) want d (.app n s x) rs D os aM r h Q:=kb rfl
theorem aeJ {n:Nat} {hX s:aV}:bp P (.os D (⟨d,(.copy n hX s),none,rs⟩::os)::aM) .normal r h Q=ja P (copyV n (hX.a6 (r.trim rs)) (s.a6 (r.trim rs)) h) d D os aM r h Q:=ln rfl rfl
theorem afJ {n:Nat} {hX s:aV} {j:Nat} {want:Bool}:bp P (.os D (⟨d,(.copy n hX s),some (j,want),rs⟩::os)::aM) .normal r h Q=fU P (r.trim rs j) want d (.copy n hX s) rs D os aM r h Q:=kb rfl
theorem ae8 {x:aV}:bp P (.os D (⟨d,(.len .map x),none,rs⟩::os)::aM) .normal r h Q=ja P (zS [x.a6 (r.trim rs)] h) d D os aM r h Q:=ln rfl rfl
theorem af1 {x:aV} {j:Nat} {want:Bool}:bp P (.os D (⟨d,(.len .map x),some (j,want),rs⟩::os)::aM) .normal r h Q=fU P (r.trim rs j) want d (.len .map x) rs D os aM r h Q:=kb rfl
theorem aeL {x:aV}:bp P (.os D (⟨d,(.hW .bytes x),none,rs⟩::os)::aM) .normal r h Q=ja P (yN.run (x.a6 (r.trim rs)) h) d D os aM r h Q:=ln rfl rfl
theorem afK {x:aV} {j:Nat} {want:Bool}:bp P (.os D (⟨d,(.hW .bytes x),some (j,want),rs⟩::os)::aM) .normal r h Q=fU P (r.trim rs j) want d (.hW .bytes x) rs D os aM r h Q:=kb rfl
theorem aeO {x:aV}:bp P (.os D (⟨d,(.hW .str x),none,rs⟩::os)::aM) .normal r h Q=ja P (pt.run (x.a6 (r.trim rs)) h) d D os aM r h Q:=ln rfl rfl
theorem afN {x:aV} {j:Nat} {want:Bool}:bp P (.os D (⟨d,(.hW .str x),some (j,want),rs⟩::os)::aM) .normal r h Q=fU P (r.trim rs j) want d (.hW .str x) rs D os aM r h Q:=kb rfl
theorem aeN {s hX:TypeId} {x:aV}:bp P (.os D (⟨d,(.hW (.other s hX) x),none,rs⟩::os)::aM) .normal r h Q=ja P ((n_ P s hX).run (x.a6 (r.trim rs)) h) d D os aM r h Q:=ln rfl rfl
theorem afM {s hX:TypeId} {x:aV} {j:Nat} {want:Bool}:bp P (.os D (⟨d,(.hW (.other s hX) x),some (j,want),rs⟩::os)::aM) .normal r h Q=fU P (r.trim rs j) want d (.hW (.other s hX) x) rs D os aM r h Q:=kb rfl
theorem afH {f:FuncId} {args:List aV} {j:Nat} {want:Bool}:bp P (.os D (⟨d,(.call f args),some (j,want),rs⟩::os)::aM) .normal r h Q=fU P (r.trim rs j) want d (.call f args) rs D os aM r h Q:=kb rfl
theorem afI {f:aV} {args:List aV} {j:Nat} {want:Bool}:bp P (.os D (⟨d,(.nb f args),some (j,want),rs⟩::os)::aM) .normal r h Q=fU P (r.trim rs j) want d (.nb f args) rs D os aM r h Q:=kb rfl
end
end Go.Proofs.YthemdhlheglhoaaGreatDoor.aX
namespace Go.Proofs.YthemdhlheglhoaaGreatDoor.aX
variable [Lay]
open Go Go.RowKit
theorem ahj (h:af) (ad:List V):fV h ad=if ad.length≤top then some (h.new (.a1 ad 0 false)) else none:=by
 by_cases ai:ad.length≤top
 · rw [if_pos ai,ahi ai]
 · rw [if_neg ai]
   unfold fV
   rw [show Nat.ble ad.length top=false from by rw [←Bool.not_eq_true,Nat.ble_eq];exact ai]
   rfl
theorem agn (h:af) (n:Nat) (b:aP) (off:Nat) (y:V) (ad:List V) (cy:Nat) (st:Bool):
 xc n h b off y (.a1 ad cy st)=if y.cells.length=n∧eS y.cells=true∧off+n≤ad.length then some (h.set b (.a1 (nM ad off y.cells) cy st)) else none:=by
 by_cases aI:y.cells.length=n∧eS y.cells=true∧off+n≤ad.length
 · rw [if_pos aI,ago aI.1 aI.2.1 aI.2.2]
 · rw [if_neg aI]
   unfold xc
   by_cases ab:y.cells.length=n
   · rw [show Nat.beq y.cells.length n=true from by rw [Nat.beq_eq];exact ab]
     simp only [cond_true,cb.a1,cb.on]
     by_cases ae:eS y.cells=true
     · have aG:¬off+y.cells.length≤ad.length:=fun q=>aI ⟨ab,ae,by omega⟩
       rw [show Nat.ble (off+y.cells.length) ad.length=false from by rw [←Bool.not_eq_true,Nat.ble_eq];exact aG]
       rfl
     · rw [show eS y.cells=false from by simpa using ae,Bool.and_false]
       rfl
   · rw [show Nat.beq y.cells.length n=false from by rw [←Bool.not_eq_true,Nat.beq_eq];exact ab]
     rfl
theorem aaX (cells:List V) (off size:Nat) (v:V) (rest:List (Nat × Nat × V)):
 h6 cells ((off,size,v)::rest)=if v.fK=true∧v.cells.length=size∧off+size≤cells.length then h6 (nM cells off v.cells) rest else none:=by
 by_cases aI:v.fK=true∧v.cells.length=size∧off+size≤cells.length
 · rw [if_pos aI,aaW aI.1 aI.2.1 aI.2.2]
 · rw [if_neg aI]
   simp only [h6]
   cases ag:(v.fK&&(Nat.beq v.cells.length size&&Nat.ble (off+v.cells.length) cells.length)) with
   | false=>rfl
   | true=>
     simp only [Bool.and_eq_true,Nat.beq_eq,Nat.ble_eq] at ag
     exact absurd ⟨ag.1,ag.2.1,by omega⟩ aI
theorem Zx (b:Bool):V.cells (.bool b:V)=[.bool b]:=rfl
theorem ahN (b:Bool):V.one (.bool b:V)=true:=rfl
theorem abu (b:Bool):V.fK (.bool b:V)=true:=rfl
theorem ZB (k:IntKind) (n:Int):V.cells (.int k n:V)=[.int k n]:=rfl
theorem QT (k:IntKind) (n:Int):V.one (.int k n:V)=true:=rfl
theorem aby (k:IntKind) (n:Int):V.fK (.int k n:V)=true:=rfl
theorem ZK (s:List UInt8):V.cells (.str s:V)=[.str s]:=rfl
theorem QU (s:List UInt8):V.one (.str s:V)=true:=rfl
theorem abH (s:List UInt8):V.fK (.str s:V)=true:=rfl
theorem ZG:V.cells (.mG:V)=[.mG]:=rfl
theorem ahV:V.one (.mG:V)=true:=rfl
theorem abD:V.fK (.mG:V)=true:=rfl
theorem ZI (b:aP) (o:Nat):V.cells (.ptr b o:V)=[.ptr b o]:=rfl
theorem ahX (b:aP) (o:Nat):V.one (.ptr b o:V)=true:=rfl
theorem abF (b:aP) (o:Nat):V.fK (.ptr b o:V)=true:=rfl
theorem ZJ (b:aP) (o l c:Nat):V.cells (.slice b o l c:V)=[.slice b o l c]:=rfl
theorem ahY (b:aP) (o l c:Nat):V.one (.slice b o l c:V)=true:=rfl
theorem abG (b:aP) (o l c:Nat):V.fK (.slice b o l c:V)=true:=rfl
theorem Zz (b:aP) (o l c:Nat):V.cells (.eC b o l c:V)=[.eC b o l c]:=rfl
theorem ahP (b:aP) (o l c:Nat):V.one (.eC b o l c:V)=true:=rfl
theorem abw (b:aP) (o l c:Nat):V.fK (.eC b o l c:V)=true:=rfl
theorem ZL (b:aP) (o l c:Nat):V.cells (.hA b o l c:V)=[.hA b o l c]:=rfl
theorem ahZ (b:aP) (o l c:Nat):V.one (.hA b o l c:V)=true:=rfl
theorem abI (b:aP) (o l c:Nat):V.fK (.hA b o l c:V)=true:=rfl
theorem ZH:V.cells (.b6:V)=[.b6]:=rfl
theorem ahW:V.one (.b6:V)=true:=rfl
theorem abE:V.fK (.b6:V)=true:=rfl
theorem ZF:V.cells (.jL:V)=[.jL]:=rfl
theorem ahU:V.one (.jL:V)=true:=rfl
theorem abC:V.fK (.jL:V)=true:=rfl
theorem ZC (b:aP):V.cells (.map b:V)=[.map b]:=rfl
theorem ahR (b:aP):V.one (.map b:V)=true:=rfl
theorem abz (b:aP):V.fK (.map b:V)=true:=rfl
theorem Zy (f:FuncId) (cs:List V):V.cells (.func f cs:V)=[.func f cs]:=rfl
theorem ahO (f:FuncId) (cs:List V):V.one (.func f cs:V)=true:=rfl
theorem abv (f:FuncId) (cs:List V):V.fK (.func f cs:V)=true:=rfl
theorem ZE:V.cells (.iW:V)=[.iW]:=rfl
theorem ahT:V.one (.iW:V)=true:=rfl
theorem abB:V.fK (.iW:V)=true:=rfl
theorem ZA (t:TypeId) (v:V):V.cells (.iface t v:V)=[.iface t v]:=rfl
theorem ahQ (t:TypeId) (v:V):V.one (.iface t v:V)=true:=rfl
theorem abx (t:TypeId) (v:V):V.fK (.iface t v:V)=true:=rfl
theorem ZD:V.cells (.nilIface:V)=[.nilIface]:=rfl
theorem ahS:V.one (.nilIface:V)=true:=rfl
theorem abA:V.fK (.nilIface:V)=true:=rfl
theorem Zw (cs:List V):V.cells (.agg cs)=cs:=rfl
theorem abt (cs:List V):V.fK (.agg cs)=true:=rfl
theorem abJ (cs:List V):V.fK (.tuple cs)=true:=rfl
theorem U5 (n:Nat):n+1+1=n+2:=rfl
theorem U_ (n:Nat):n+2+1=n+3:=rfl
theorem Va (n:Nat):n+3+1=n+4:=rfl
theorem Vb (n:Nat):n+4+1=n+5:=rfl
theorem Vc (n:Nat):n+5+1=n+6:=rfl
theorem Vd (n:Nat):n+6+1=n+7:=rfl
theorem Ve (n:Nat):n+7+1=n+8:=rfl
theorem Vf (n:Nat):n+8+1=n+9:=rfl
theorem Vg (n:Nat):n+9+1=n+10:=rfl
theorem U4 (n:Nat):n+10+1=n+11:=rfl
theorem U6 (n:Nat):n+11+1=n+12:=rfl
theorem U7 (n:Nat):n+12+1=n+13:=rfl
theorem U8 (n:Nat):n+13+1=n+14:=rfl
theorem U9 (n:Nat):n+14+1=n+15:=rfl
theorem U' (n:Nat):n+15+1=n+16:=rfl
theorem uT (n:Nat):(n+1=n)=False:=eq_false (by omega)
theorem ak' (n:Nat):(n=n+1)=False:=eq_false (by omega)
theorem p1 (n:Nat):(n+2=n)=False:=eq_false (by omega)
theorem ak_ (n:Nat):(n=n+2)=False:=eq_false (by omega)
theorem z_ (n:Nat):(n+3=n)=False:=eq_false (by omega)
theorem ala (n:Nat):(n=n+3)=False:=eq_false (by omega)
theorem ahA (n:Nat):(n+4=n)=False:=eq_false (by omega)
theorem alb (n:Nat):(n=n+4)=False:=eq_false (by omega)
theorem QH (n:Nat):(n+5=n)=False:=eq_false (by omega)
theorem alc (n:Nat):(n=n+5)=False:=eq_false (by omega)
theorem ahB (n:Nat):(n+6=n)=False:=eq_false (by omega)
theorem ald (n:Nat):(n=n+6)=False:=eq_false (by omega)
theorem ahC (n:Nat):(n+7=n)=False:=eq_false (by omega)
theorem ale (n:Nat):(n=n+7)=False:=eq_false (by omega)
theorem ahD (n:Nat):(n+8=n)=False:=eq_false (by omega)
theorem alf (n:Nat):(n=n+8)=False:=eq_false (by omega)
theorem abn {P:Program} {r:aR} {h:af} {Q:de→aR→af→Prop} {aM:List g_} {os:List bD} {D:Option hU} {d:Option Nat} {g:G} {rs:List Nat}:fU P (.bool true) true d g rs D os aM r h Q=bp P (.os D (⟨d,g,none,rs⟩::os)::aM) .normal r h Q:=by
 rw [NZ];simp
theorem abk {P:Program} {r:aR} {h:af} {Q:de→aR→af→Prop} {aM:List g_} {os:List bD} {D:Option hU} {d:Option Nat} {g:G} {rs:List Nat}:fU P (.bool false) false d g rs D os aM r h Q=bp P (.os D (⟨d,g,none,rs⟩::os)::aM) .normal r h Q:=by
 rw [NY];simp
theorem abm {P:Program} {r:aR} {h:af} {Q:de→aR→af→Prop} {aM:List g_} {os:List bD} {D:Option hU} {d:Option Nat} {g:G} {rs:List Nat}:fU P (.bool true) false d g rs D os aM r h Q=bp P (.os (ia D r h (.tuple [])) os::aM) .normal (r.set d (.tuple [])) h Q:=by
 rw [NY];simp
theorem abl {P:Program} {r:aR} {h:af} {Q:de→aR→af→Prop} {aM:List g_} {os:List bD} {D:Option hU} {d:Option Nat} {g:G} {rs:List Nat}:fU P (.bool false) true d g rs D os aM r h Q=bp P (.os (ia D r h (.tuple [])) os::aM) .normal (r.set d (.tuple [])) h Q:=by
 rw [NZ];simp
theorem VN (c:Bool) (a b:V):V.bif (!c) a (V.opt c b)=V.bif (!c) a b:=by cases c<;>rfl
theorem ad' (A:Prop):(True→A)=A:=propext ⟨fun q=>q trivial,fun q _=>q⟩
theorem ad9 (A:Prop):(False→A)=True:=propext ⟨fun _=>trivial,fun _ q=>q.elim⟩
section
variable {P:Program}
theorem fG {b:bx} {aM:List g_} {r:aR} {h:af} {Q:de→aR→af→Prop} (I:aR→af→Prop) (μ:aR→af→Nat) (bb:I r h)
 (step:∀r h,I r h→bp P [.c b] .normal r h fun e bw aa=>e.andThen (I bw aa∧μ bw aa<μ r h) (bp P aM e bw aa Q)):uM P b aM r h Q:=
 ⟨I,μ,bb,step⟩
theorem abj {b want:Bool} {d:Option Nat} {f:FuncId} {args:List aV} {rs:List Nat} {os:List bD} {D:Option hU} {aM:List g_} {r:aR} {h:af} {Q:de→aR→af→Prop} (v:V)
 (bs:(b == want)=true→fh P f (aV.fy (r.trim rs) args) h v h)
 (H:bp P (.os (ia D r h (V.opt (b == want) v)) os::aM) .normal (r.set d (V.opt (b == want) v)) h Q):fU P (.bool b) want d (.call f args) rs D os aM r h Q:=by
 have:=abi (P:=P) (c:=true) (b:=b) (want:=want) (d:=d) (f:=f) (args:=args) (rs:=rs) (D:=D) (os:=os) (aM:=aM) (r:=r) (h:=h) (Q:=Q) v
 simp only [V.opt,cond_true,Bool.true_and] at this
 exact this bs H
theorem B5 {b:Bool} {d:Option Nat} {f:FuncId} {args:List aV} {rs:List Nat} {os:List bD} {D:Option hU} {aM:List g_} {r:aR} {h:af} {Q:de→aR→af→Prop} (v:V)
 (bs:(!b)=true→fh P f (aV.fy (r.trim rs) args) h v h)
 (H:bp P (.os (ia D r h (V.opt (!b) v)) os::aM) .normal (r.set d (V.opt (!b) v)) h Q):fU P (.bool b) false d (.call f args) rs D os aM r h Q:=by
 refine abj v ?_ ?_<;>rw [beq_false]<;>assumption
def V.toN:V→Nat
 | .int _ n=>n.toNat
 | _=>0
theorem akp (k:IntKind) (n:Int):V.toN (.int k n)=n.toNat:=rfl
theorem fq {f:FuncId} {args:List V} {d:Option Nat} {os:List bD} {D:Option hU} {aM:List g_} {r:aR} {h:af} {Q:de→aR→af→Prop} {v:V}
 (c:fh P f args h v h) (H:bp P (.os (ia D r h v) os::aM) .normal (r.set d v) h Q):ps P f args d D os aM r h Q:=⟨v,h,c,H⟩
theorem bY {f:FuncId} {args:List V} {d:Option Nat} {os:List bD} {D:Option hU} {aM:List g_} {r:aR} {h:af} {Q:de→aR→af→Prop} {K:V→af→Prop}
 (c:bB P f args h K) (H:∀v aa,K v aa→bp P (.os (ia D r h v) os::aM) .normal (r.set d v) aa Q):ps P f args d D os aM r h Q:=c.mono H
structure Ext (h aa:af):Prop where
 next:h.next≤aa.next
 get:∀b,Old h b→aa.get b=h.get b
theorem Ext.refl (h:af):Ext h h:=⟨Nat.le_refl _,fun _ _=>rfl⟩
theorem Ext.b1 {h aa:af} (e:Ext h aa) {b:aP} (ag:Old h b):Old aa b:=Nat.lt_of_lt_of_le ag e.next
theorem Ext.trans {h aa k1:af} (e:Ext h aa) (dj:Ext aa k1):Ext h k1:=
 ⟨Nat.le_trans e.next dj.next,fun b ag=>(dj.get b (e.b1 ag)).trans (e.get b ag)⟩
theorem Ext.new {h aa:af} (e:Ext h aa) (k:cb):Ext h (aa.new k):=
 ⟨Nat.le_succ_of_le e.next,fun b ag=>by
   rw [hI,if_neg (fun q=>(Je (h:=h) ag e.next) ▸ q)]
   exact e.get b ag⟩
theorem Ext.set {h aa:af} (e:Ext h aa) {i:Nat} (aC:h.next≤i) (k:cb):Ext h (aa.set (al i) k):=
 ⟨e.next,fun b ag=>by
   rw [c4,if_neg (fun q=>(Je (h:=h) ag aC) ▸ q)]
   exact e.get b ag⟩
theorem Ext.rd {h aa:af} (e:Ext h aa) {b:aP} (ag:Old h b) {ad:List V} (H:Rd h b ad):Rd aa b ad:=by
 unfold Rd at H ⊢
 rw [e.get b ag]
 exact H
def kR (h:af) (b:aP) (off:Nat) (ad:List V):Prop:=Old h b∧∃us,Rd h b us∧off+ad.length≤us.length∧(us.drop off).take ad.length=ad
theorem kR.ext {h aa:af} (e:Ext h aa) {b:aP} {off:Nat} {ad:List V} (H:kR h b off ad):kR aa b off ad:=by
 obtain ⟨bb,us,ab,ae,aG⟩:=H
 exact ⟨e.b1 bb,us,e.rd bb ab,ae,aG⟩
theorem kR.eu {h:af} {b:aP} {off:Nat} {ad:List V} (H:kR h b off ad) {i:Nat} (aC:i<ad.length):iw (h.get b) (off+i)=some ad[i]:=by
 obtain ⟨_,us,ab,ae,aG⟩:=H
 rw [ab.eu,List.getElem?_eq_getElem (by omega)]
 congr 1
 have:((us.drop off).take ad.length)[i]? =ad[i]? :=by rw [aG]
 rw [List.getElem?_take_of_lt aC,List.getElem?_drop,List.getElem?_eq_getElem (by omega),List.getElem?_eq_getElem aC] at this
 simpa using this
theorem kR.kd {h:af} {b:aP} {off:Nat} {ad:List V} (H:kR h b off ad) {i n:Nat} (aC:i+n≤ad.length):kI n (h.get b) (off+i)=some (.agg ((ad.drop i).take n)):=by
 obtain ⟨_,us,ab,ae,aG⟩:=H
 rw [ab.kd,if_pos (by omega)]
 congr 2
 have:(((us.drop off).take ad.length).drop i).take n=(ad.drop i).take n:=by rw [aG]
 rw [←this,List.drop_take,List.drop_drop,List.take_take]
 congr 1
 omega
def hn (h:af) (size:Nat) (v:V) (n:Nat) (ad:List V):Prop:=
 ad.length=n * size∧match v with
  | .b6=>n=0
  | .slice b off len _=>len=n∧kR h b off ad
  | .eC b off len _=>len=n∧kR h b off ad
  | .hA _ _ _ _=>n=0
  | _=>False
theorem hn.ext {h aa:af} (e:Ext h aa) {size:Nat} {v:V} {n:Nat} {ad:List V} (H:hn h size v n ad):hn aa size v n ad:=by
 refine ⟨H.1,?_⟩
 have cq:=H.2
 cases v<;>simp only at cq ⊢<;>first | exact cq | exact ⟨cq.1,cq.2.ext e⟩
theorem hn.len {h:af} {size:Nat} {v:V} {n:Nat} {ad:List V} (H:hn h size v n ad):lp v=some (.int .i64 n):=by
 have cq:=H.2
 cases v<;>simp only at cq<;>first
  | (rw [←cq.1];rfl)
  | (subst cq;rfl)
  | (exact cq.elim)
theorem hn.cD {h:af} {size:Nat} {v:V} {n:Nat} {ad:List V} (H:hn h size v n ad) {k:IntKind} {i:Nat} (aC:i<n):
 ∃b off,iT size v (.int k i)=some (.ptr b (off+i * size))∧kR h b off ad:=by
 have cq:=H.2
 cases v<;>simp only at cq<;>first
  | omega
  | (exact cq.elim)
  | skip
 · rename_i b off len cap
   obtain ⟨rfl,ab⟩:=cq
   refine ⟨b,off,?_,ab⟩
   rw [Ix,if_pos (by omega)]
   simp
 · rename_i b off len cap
   obtain ⟨rfl,ab⟩:=cq
   refine ⟨b,off,?_,ab⟩
   rw [Iw,if_pos (by omega)]
   simp
end
end Go.Proofs.YthemdhlheglhoaaGreatDoor.aX
namespace Go.Proofs.YthemdhlheglhoaaGreatDoor.aX
variable [Lay]
open Go Go.RowKit
structure Mod (M:aP→Prop) (h aa:af):Prop where
 next:h.next≤aa.next
 get:∀b,Old h b→¬M b→aa.get b=h.get b
theorem Mod.refl (M:aP→Prop) (h:af):Mod M h h:=⟨Nat.le_refl _,fun _ _ _=>rfl⟩
theorem Mod.b1 {M:aP→Prop} {h aa:af} (e:Mod M h aa) {b:aP} (ag:Old h b):Old aa b:=Nat.lt_of_lt_of_le ag e.next
theorem Mod.trans {M:aP→Prop} {h aa k1:af} (e:Mod M h aa) (dj:Mod M aa k1):Mod M h k1:=
 ⟨Nat.le_trans e.next dj.next,fun b ag hm=>(dj.get b (e.b1 ag) hm).trans (e.get b ag hm)⟩
theorem Mod.mono {M Le:aP→Prop} {h aa:af} (e:Mod M h aa) (hm:∀b,Old h b→M b→Le b):Mod Le h aa:=
 ⟨e.next,fun b ag aU=>e.get b ag fun q=>aU (hm b ag q)⟩
theorem Mod.new {M:aP→Prop} {h aa:af} (e:Mod M h aa) (k:cb):Mod M h (aa.new k):=
 ⟨Nat.le_succ_of_le e.next,fun b ag hm=>by
   rw [hI,if_neg (fun q=>(Je (h:=h) ag e.next) ▸ q)]
   exact e.get b ag hm⟩
theorem Mod.set {M:aP→Prop} {h aa:af} (e:Mod M h aa) {b:aP} (ag:Old h b→M b) (k:cb):Mod M h (aa.set b k):=
 ⟨e.next,fun bP gF hm=>by
   rw [c4]
   by_cases q:b=bP
   · subst q
     exact absurd (ag gF) hm
   · rw [if_neg q]
     exact e.get bP gF hm⟩
theorem Ext.mod {h aa:af} (e:Ext h aa) (M:aP→Prop):Mod M h aa:=⟨e.next,fun b ag _=>e.get b ag⟩
theorem Mod.ext {M:aP→Prop} {h aa:af} (e:Mod M h aa) (hm:∀b,Old h b→¬M b):Ext h aa:=⟨e.next,fun b ag=>e.get b ag (hm b ag)⟩
theorem Ext.ke {h aa k1:af} (e:Ext h aa) {M:aP→Prop} (m:Mod M aa k1) (hm:∀b,M b→h.next≤dG b):Ext h k1:=
 ⟨Nat.le_trans e.next m.next,fun b ag=>by
   have j_:¬M b:=fun q=>by have:=hm b q;unfold Old at ag;omega
   exact (m.get b (e.b1 ag) j_).trans (e.get b ag)⟩
theorem Mod.at {M:aP→Prop} {h aa:af} (e:Mod M h aa) {b:aP} {off:Nat} {ad:List V} (H:kR h b off ad) (hm:¬M b):kR aa b off ad:=by
 obtain ⟨bb,us,ab,ae,aG⟩:=H
 refine ⟨e.b1 bb,us,?_,ae,aG⟩
 unfold Rd at ab ⊢
 rw [e.get b bb hm]
 exact ab
theorem eI {h:af} {i:Nat} (aC:i<h.next):Old h (al i):=by unfold Old;rw [cK];exact aC
theorem z6 {h:af} {b:aP} {i:Nat} (ag:Old h b) (aC:h.next≤i):(b=al i)=False:=by
 apply eq_false
 intro e
 unfold Old at ag
 rw [e,cK] at ag
 omega
def V.aW:V→aP→Prop
 | .slice b _ _ _,bP=>bP=b
 | .eC b _ _ _,bP=>bP=b
 | _,_=>False
theorem hn.one {h:af} {size:Nat} {v:V} {n:Nat} {ad:List V} (H:hn h size v n ad):v.one=true∧v.cells=[v]∧v.fK=true:=by
 have q:=H.2
 cases v<;>simp only at q<;>first | exact ⟨rfl,rfl,rfl⟩ | exact q.elim
theorem hn.mod {M:aP→Prop} {h aa:af} (e:Mod M h aa) {size:Nat} {v:V} {n:Nat} {ad:List V} (H:hn h size v n ad) (hm:∀b,v.aW b→¬M b):hn aa size v n ad:=by
 refine ⟨H.1,?_⟩
 have cq:=H.2
 cases v<;>simp only at cq ⊢<;>first | exact cq | exact ⟨cq.1,e.at cq.2 (hm _ rfl)⟩
theorem hn.b1 {h:af} {size:Nat} {v:V} {n:Nat} {ad:List V} (H:hn h size v n ad) {b:aP} (ag:v.aW b):Old h b:=by
 have cq:=H.2
 cases v<;>simp only [V.aW] at cq ag<;>first | (exact ag.elim) | (subst ag;exact cq.2.1)
def du (B:Nat) (h:af) (size:Nat) (v:V) (n:Nat) (ad:List V):Prop:=
 ad.length=n * size∧match v with
  | .b6=>n=0
  | .slice b off len cap=>len=n∧B≤dG b∧Old h b∧n≤cap∧cap≤top∧∃us cy st,h.get b=.a1 us cy st∧off+cap * size≤us.length∧(us.drop off).take ad.length=ad
  | .eC b off len idx=>len=n∧B≤dG b∧Old h b∧off=0∧idx=0∧∃us st,h.get b=.a1 us size st∧ad.length≤us.length∧us.take ad.length=ad
  | _=>False
theorem du.v {B:Nat} {h:af} {size:Nat} {v:V} {n:Nat} {ad:List V} (H:du B h size v n ad):hn h size v n ad:=by
 obtain ⟨ab,ae⟩:=H
 refine ⟨ab,?_⟩
 cases v<;>simp only at ae ⊢<;>first | exact ae | skip
 · obtain ⟨an,_,az,aN,_,us,cy,st,bM,dL,eP⟩:=ae
   refine ⟨an,az,us,.inr ⟨cy,st,bM⟩,?_,eP⟩
   rw [ab]
   have:=Nat.mul_le_mul_right size aN
   omega
 · obtain ⟨an,_,az,aN,_,us,st,bM,dL,eP⟩:=ae
   subst aN
   exact ⟨an,az,us,.inr ⟨size,st,bM⟩,by omega,by simpa using eP⟩
theorem du.base {B:Nat} {h:af} {size:Nat} {v:V} {n:Nat} {ad:List V} (H:du B h size v n ad) {b:aP} (ag:v.aW b):B≤dG b:=by
 have cq:=H.2
 cases v<;>simp only [V.aW] at cq ag<;>first | (exact ag.elim) | (subst ag;exact cq.2.1)
theorem du.mono {B KO:Nat} {h:af} {size:Nat} {v:V} {n:Nat} {ad:List V} (H:du B h size v n ad) (c2:KO≤B):du KO h size v n ad:=by
 refine ⟨H.1,?_⟩
 have cq:=H.2
 cases v<;>simp only at cq ⊢<;>first | exact cq | exact ⟨cq.1,Nat.le_trans c2 cq.2.1,cq.2.2⟩
theorem du.mod {M:aP→Prop} {h aa:af} (e:Mod M h aa) {B size:Nat} {v:V} {n:Nat} {ad:List V} (H:du B h size v n ad) (hm:∀b,v.aW b→¬M b):du B aa size v n ad:=by
 refine ⟨H.1,?_⟩
 have cq:=H.2
 cases v<;>simp only at cq ⊢<;>first | exact cq | skip
 · obtain ⟨an,az,aN,bM,dL,us,cy,st,eP,hi⟩:=cq
   exact ⟨an,az,e.b1 aN,bM,dL,us,cy,st,by rw [e.get _ aN (hm _ rfl)];exact eP,hi⟩
 · obtain ⟨an,az,aN,bM,dL,us,st,eP,hi⟩:=cq
   exact ⟨an,az,e.b1 aN,bM,dL,us,st,by rw [e.get _ aN (hm _ rfl)];exact eP,hi⟩
theorem du.ext {h aa:af} (e:Ext h aa) {B size:Nat} {v:V} {n:Nat} {ad:List V} (H:du B h size v n ad):du B aa size v n ad:=
 H.mod (e.mod fun _=>False) fun _ _ q=>q
theorem agG {h:af} {size:Nat} {v:V} {n:Nat} {ad:List V} (H:hn h size v n ad):nC v=some n:=by
 have cq:=H.2
 cases v<;>simp only at cq<;>first
  | (rw [←cq.1];rfl)
  | (subst cq;rfl)
  | (exact cq.elim)
theorem Kg {h:af} {b:aP} {off size n:Nat} {ad:List V} (H:kR h b off ad) (ai:ad.length=n * size):nN h size b off n=some ad:=by
 obtain ⟨_,us,ab,ae,aG⟩:=H
 unfold nN
 rw [ab.nL,show Nat.ble (off+n * size) us.length=true from by rw [Nat.ble_eq];omega,B9 us _ off (by omega),←ai,aG]
 rfl
theorem ajX {h:af} {size:Nat} {v:V} {n:Nat} {ad:List V} (H:hn h size v n ad):u6 h size v n=some ad:=by
 obtain ⟨ab,ae⟩:=H
 cases v<;>simp only at ae<;>first
  | (exact ae.elim)
  | (obtain ⟨_,aG⟩:=ae;exact Kg aG ab)
  | (subst ae
     have:ad=[]:=List.eq_nil_of_length_eq_zero (by omega)
     subst this
     rfl)
theorem du.grown {B:Nat} {h:af} {size:Nat} {ad:List V} {n:Nat} {st:Bool} (ai:ad.length=n * size) (c2:B≤h.next):du B (h.new (.a1 ad size st)) size (.eC (al h.next) 0 n 0) n ad:=
 ⟨ai,rfl,by rw [cK];exact c2,QP,rfl,rfl,ad,st,ku _,Nat.le_refl _,List.take_length⟩
theorem Vn {h:af} {size:Nat} {s x:V} {m:Nat} {ad:List V} (cq:hn h size x m ad) (hm:m≤top):kW size s x h=(match s with
 | .b6=>vH size m ad h
 | .slice b off len cap=>vG size b off len cap m ad h
 | .eC b off len idx=>vF size b off len idx m ad h
 | _=>.fail):=by
 unfold kW
 rw [agG cq]
 simp only
 rw [ajX cq]
 simp only
 rw [show Nat.ble m top=true from by rw [Nat.ble_eq];exact hm]
 rfl
theorem SA (A:List V) (o:Nat) (W:List V) (h:o+W.length≤A.length) (q:Nat):(hS A o W)[q]? =if q<o then A[q]? else if q<o+W.length then W[q-o]? else A[q]? :=by
 have ai:(A.take o).length=o:=by rw [List.length_take];omega
 unfold hS
 rw [List.append_assoc]
 by_cases bu:q<o
 · rw [if_pos bu,List.getElem?_append_left (by omega),List.getElem?_take_of_lt bu]
 · rw [if_neg bu,List.getElem?_append_right (by omega),ai]
   by_cases bI:q<o+W.length
   · rw [if_pos bI,List.getElem?_append_left (by omega)]
   · rw [if_neg bI,List.getElem?_append_right (by omega),List.getElem?_drop]
     congr 1
     omega
theorem SB (A:List V) (o j:Nat) (L W:List V) (lR:o+L.length≤A.length) (ei:(A.drop o).take L.length=L) (bK:j+W.length≤L.length):((hS A (o+j) W).drop o).take L.length=hS L j W:=by
 apply List.ext_getElem?
 intro q
 have ai:((A.drop o).take L.length)[q]? =L[q]? :=by rw [ei]
 rw [SA L j W bK]
 by_cases aA:q<L.length
 · rw [List.getElem?_take_of_lt aA,List.getElem?_drop,SA A (o+j) W (by omega)]
   rw [List.getElem?_take_of_lt aA,List.getElem?_drop] at ai
   by_cases bu:q<j
   · rw [if_pos (by omega),if_pos bu,ai]
   · rw [if_neg (by omega),if_neg bu]
     by_cases bI:q<j+W.length
     · rw [if_pos (by omega),if_pos bI]
       congr 1
       omega
     · rw [if_neg (by omega),if_neg bI,ai]
 · rw [List.getElem?_take_eq_none (by omega),if_neg (by omega),if_neg (by omega),List.getElem?_eq_none (by omega)]
theorem LS {B:Nat} {h:af} {size:Nat} {s x:V} {n m:Nat} {us ad:List V} (ca:1≤size) (H1:du B h size s n us) (cq:hn h size x m ad) (c2:B≤h.next) (hlen:(n+m) * size≤top) (aT:eS ad=true):
 ∃v aa,kW size s x h=.val v aa∧du B aa size v (n+m) (us++ad)∧Mod s.aW h aa∧∀b,v.aW b→s.aW b∨h.next≤dG b:=by
 have j_:n+m≤top:=Nat.le_trans (Nat.le_mul_of_pos_right _ ca) hlen
 have k7:=H1.1
 have h8:=cq.1
 have kz:(us++ad).length=(n+m) * size:=by rw [List.length_append,k7,h8,Nat.add_mul]
 rw [Vn cq (by omega)]
 have ae:=H1.2
 cases s<;>simp only at ae ⊢<;>try (exact ae.elim)
 case b6=>
  subst ae
  have:us=[]:=List.eq_nil_of_length_eq_zero (by omega)
  subst this
  unfold vH
  by_cases hm:m=0
  · subst hm
    have:ad=[]:=List.eq_nil_of_length_eq_zero (by omega)
    subst this
    exact ⟨.b6,h,rfl,⟨by simp,rfl⟩,Mod.refl _ _,fun b ag=>.inl ag⟩
  · rw [show Nat.beq m 0=false from by rw [←Bool.not_eq_true,Nat.beq_eq];exact hm]
    simp only [cond_false]
    rw [I7 (by rw [h8];simpa using hlen) ca]
    refine ⟨_,_,rfl,?_,(Mod.refl _ _).new _,fun b ag=>.inr (by rw [show b=al h.next from ag,cK];exact Nat.le_refl _)⟩
    have:=du.grown (B:=B) (h:=h) (size:=size) (ad:=ad) (n:=m) (st:=false) h8 c2
    simpa using this
 case slice b off len cap=>
  obtain ⟨rfl,az,aN,bM,dL,jY,cy,st,eP,hi,iD⟩:=ae
  unfold vG
  by_cases aI:len+m≤cap
  · rw [show Nat.ble (len+m) cap=true from by rw [Nat.ble_eq];exact aI]
    simp only [cond_true]
    have eR:off+len * size+ad.length≤jY.length:=by
     have:=Nat.mul_le_mul_right size aI
     rw [Nat.add_mul] at this
     rw [h8]
     omega
    rw [Own.lay (ad:=jY) (cy:=cy) (st:=st) eP eR aT]
    refine ⟨_,_,rfl,⟨kz,rfl,az,aN,aI,dL,_,cy,st,c4 _ _ _ |>.trans (if_pos rfl),?_,?_⟩,(Mod.refl (V.aW (.slice b off len cap)) h).set (fun _=>rfl) _,fun bP ag=>.inl ag⟩
    · rw [p5 _ _ _ eR];exact hi
    · rw [List.length_append]
      unfold hS
      have eD:off+us.length≤jY.length:=by rw [k7];omega
      have aK:jY.take (off+len * size)=jY.take off++us:=by
       rw [←k7,List.take_add,iD]
      rw [aK,List.append_assoc,List.append_assoc,List.drop_append,List.drop_eq_nil_of_le (by rw [List.length_take];omega),List.nil_append]
      rw [show off - (jY.take off).length=0 from by rw [List.length_take];omega,List.drop_zero]
      rw [←List.append_assoc,List.take_left' (by rw [List.length_append])]
  · rw [show Nat.ble (len+m) cap=false from by rw [←Bool.not_eq_true,Nat.ble_eq];exact aI]
    simp only [cond_false]
    rw [show (Nat.ble (len+m) top&&Nat.ble cap top)=true from by simp only [Bool.and_eq_true,Nat.ble_eq];exact ⟨j_,dL⟩]
    simp only [cond_true]
    have Hf:kR h b off us:=⟨aN,jY,.inr ⟨cy,st,eP⟩,by rw [k7];have:=Nat.mul_le_mul_right size bM;omega,iD⟩
    rw [Kg Hf k7]
    simp only
    rw [I7 (by rw [kz];exact hlen) ca]
    exact ⟨_,_,rfl,du.grown kz c2,(Mod.refl _ _).new _,fun b ag=>.inr (by rw [show b=al h.next from ag,cK];exact Nat.le_refl _)⟩
 case eC b off len idx=>
  obtain ⟨rfl,az,aN,rfl,rfl,jY,st,eP,hi,iD⟩:=ae
  unfold vF
  by_cases hm:m=0
  · subst hm
    have:ad=[]:=List.eq_nil_of_length_eq_zero (by omega)
    subst this
    exact ⟨_,h,rfl,⟨kz,rfl,az,aN,rfl,rfl,jY,st,eP,by simpa using hi,by simpa using iD⟩,Mod.refl _ _,fun b ag=>.inl ag⟩
  · rw [show Nat.beq m 0=false from by rw [←Bool.not_eq_true,Nat.beq_eq];exact hm]
    simp only [cond_false]
    rw [eP]
    simp only [cb.a1,cb.on]
    rw [show (Nat.beq size size&&(Nat.ble (len+m) top&&eS ad)&&Nat.beq 0 (0 * size))=true from by
     simp only [Bool.and_eq_true,Nat.beq_eq,Nat.ble_eq]
     exact ⟨⟨trivial,j_,aT⟩,by omega⟩]
    simp only [cond_true]
    have Hf:kR h b 0 us:=⟨aN,jY,.inr ⟨size,st,eP⟩,by omega,by simpa using iD⟩
    rw [Kg Hf k7]
    simp only
    rw [I7 (by rw [kz];exact hlen) ca]
    exact ⟨_,_,rfl,du.grown (h:=h.set b .dead) kz c2,((Mod.refl (V.aW (.eC b 0 len 0)) h).set (fun _=>rfl) _).new _,fun bP ag=>.inr (by rw [show bP=al h.next from ag,cK];exact Nat.le_refl _)⟩
theorem du.put {B:Nat} {h:af} {size:Nat} {v:V} {n:Nat} {ad:List V} (H:du B h size v n ad) {i:Nat} (aC:i<n) {k:IntKind} {y:V} (a_:y.cells.length=size) (aT:eS y.cells=true):
 ∃b off aa,iT size v (.int k i)=some (.ptr b (off+i * size))∧v.aW b∧oR size h (.ptr b (off+i * size)) y=some aa∧du B aa size v n (hS ad (i * size) y.cells)∧Mod v.aW h aa:=by
 obtain ⟨ab,ae⟩:=H
 have aL:i * size+size≤n * size:=by
  have:=Nat.mul_le_mul_right size (show i+1≤n from aC)
  rw [Nat.add_mul] at this
  omega
 cases v<;>simp only at ae<;>try (first | omega | exact ae.elim)
 case slice b off len cap=>
  obtain ⟨rfl,az,aN,bM,dL,jY,cy,st,eP,hi,iD⟩:=ae
  have aI:=Nat.mul_le_mul_right size bM
  have eR:off+i * size+y.cells.length≤jY.length:=by rw [a_];omega
  refine ⟨b,off,_,?_,rfl,Own.store (ad:=jY) (cy:=cy) (st:=st) eP a_ (by rw [a_] at eR;exact eR) aT,⟨?_,rfl,az,aN,bM,dL,_,cy,st,c4 _ _ _ |>.trans (if_pos rfl),?_,?_⟩,(Mod.refl (V.aW (.slice b off len cap)) h).set (fun _=>rfl) _⟩
  · rw [Ix,if_pos (by omega)];simp
  · rw [p5 _ _ _ (by rw [a_,ab];omega)];exact ab
  · rw [p5 _ _ _ eR];exact hi
  · rw [p5 _ _ _ (by rw [a_,ab];omega)]
    exact SB jY off (i * size) ad y.cells (by rw [ab];omega) iD (by rw [a_,ab];omega)
 case eC b off len idx=>
  obtain ⟨rfl,az,aN,rfl,rfl,jY,st,eP,hi,iD⟩:=ae
  have eR:i * size+y.cells.length≤ad.length:=by rw [a_,ab];omega
  have zs:0+i * size+y.cells.length≤jY.length:=by omega
  refine ⟨b,0,_,?_,rfl,Own.store (ad:=jY) (cy:=size) (st:=st) eP a_ (by rw [a_] at zs;exact zs) aT,⟨?_,rfl,az,aN,rfl,rfl,_,st,c4 _ _ _ |>.trans (if_pos rfl),?_,?_⟩,(Mod.refl (V.aW (.eC b 0 len 0)) h).set (fun _=>rfl) _⟩
  · rw [Iw,if_pos (by omega)];simp
  · rw [p5 _ _ _ eR];exact ab
  · rw [p5 _ _ _ eR,p5 _ _ _ zs];exact hi
  · rw [p5 _ _ _ eR]
    have:=SB jY 0 (i * size) ad y.cells (by omega) (by simpa using iD) eR
    simpa using this
theorem ah5 (r:aR):aV.opt r none=none:=(rfl)
theorem ah6 (r:aR) (x:aV):aV.opt r (some x)=some (x.a6 r):=(rfl)
theorem Ma (d y:Nat):bound none d y=some d:=rfl
theorem ahq (b:aP) (o:Nat):sx (.ptr b o)=some (.ptr b o):=rfl
theorem ag' (k bt:IntKind) (a b:Int):jO (fun b a=>!Int.leB a b) [.int k a,.int bt b]=some (.int k (if b<a then b else a)):=by
 simp only [jO,uX,V.dZ,pW]
 by_cases h:b<a
 · rw [if_pos h]
   have:¬a≤b:=by omega
   simp [this]
 · rw [if_neg h]
   have:a≤b:=by omega
   simp [this]
theorem ahb (k bt:IntKind) (a b:Int):jO (fun b a=>!Int.leB b a) [.int k a,.int bt b]=some (.int k (if a<b then b else a)):=by
 simp only [jO,uX,V.dZ,pW]
 by_cases h:a<b
 · rw [if_pos h]
   have:¬b≤a:=by omega
   simp [this]
 · rw [if_neg h]
   have:b≤a:=by omega
   simp [this]
end Go.Proofs.YthemdhlheglhoaaGreatDoor.aX
namespace Go.Proofs.YthemdhlheglhoaaGreatDoor.aX
variable [Lay]
open Go Go.RowKit Go.ChangeShapes Go.WideShapes
section
variable {H:Type} {enc:TypeId × Value→H} {P:Program}
end
end Go.Proofs.YthemdhlheglhoaaGreatDoor.aX
namespace Go.Proofs.YthemdhlheglhoaaGreatDoor.aX
variable [Lay]
open Go Go.RowKit
theorem a'.below {aw:Fr} {E:Env} {h:af} {w ao:World} (s:a' aw E h w) (ag:Below w.heap.size w ao):a' aw E h ao:=by
 have ca:aw.w.heap.size≤w.heap.size:=s.frame.size
 have fz:∀(k:Nat) (o:Obj),w.heap[k]? =some o→ao.heap[k]? =some o:=by
  intro k o aE
  rw [ag.block k,aE]
  by_cases aL:k<w.heap.size
  · exact aL
  · rw [Array.getElem?_eq_none (by omega)] at aE
    cases aE
 refine ⟨fun b ah=>?_,s.oL,s.inj,s.fresh,s.frame.trans (ag.mono ca),s.laid,s.base⟩
 have:=s.aW b ah
 cases aE:h.get b<;>rw [aE] at this<;>simp only [gM] at this ⊢
 · obtain ⟨an,p,c,el,bW,az,aN,bM,dL⟩:=this
   exact ⟨an,p,c,el,bW,az,aN,fz _ _ bM,dL⟩
 · obtain ⟨an,p,c,el,bW,az,aN,bM,dL⟩:=this
   exact ⟨an,p,c,el,bW,az,aN,fz _ _ bM,dL⟩
 · obtain ⟨p,an,az,aN,bM⟩:=this
   exact ⟨p,an,az,aN,fz _ _ bM⟩
 · obtain ⟨p,a,an,az,aN,bM⟩:=this
   exact ⟨p,a,an,az,fz _ _ aN,bM⟩
 · obtain ⟨p,o,an,az,aN,bM⟩:=this
   exact ⟨p,o,an,az,fz _ _ aN,bM⟩
 · obtain ⟨p,an,az,aN⟩:=this
   exact ⟨p,an,az,fz _ _ aN⟩
 · obtain ⟨p,a,c,l,an,az,aN,bM⟩:=this
   exact ⟨p,a,c,l,an,az,fz _ _ aN,bM⟩
 · obtain ⟨p,m,a,an,az,aN,bM,dL⟩:=this
   exact ⟨p,m,a,an,az,aN,fz _ _ bM,dL⟩
theorem agj {P:Program} {f:FuncId} {args:List V} {v:V} {h:af} (H:∀E xs w,Lay.ok w→bc E args xs→Calls P f xs.toArray w fun e ao=>∃x,e=.returned x∧Rel E v x∧Below w.heap.size w ao)
 (aw:Fr) (E:Env) (w:World) (xs:List Value) (aq:bc E args xs) (s:a' aw E h w):Calls P f xs.toArray w fun e ao=>∃av x,e=.returned x∧E.le av∧Rel av v x∧a' aw av h ao:=by
 refine (H E xs w (Lay.fz s.laid s.frame) aq).mono fun e ao q=>?_
 obtain ⟨x,rfl,bs,ag⟩:=q
 exact ⟨E,x,rfl,Env.le.refl E,bs,s.below ag⟩
theorem aaR {P:Program} {f:FuncId} {fn:Func} {e:Array Value→Sem Value} (ay:P.funcs[f]? =some fn) (aU:(fn.name == "runtime.NumGoroutine")=false) (ag:fn.body.isNone=true) (ab:Extern.findNext fn=none) (ae:Extern.find fn=some e)
 {xs:Array Value} {x:Value} {w:World} (aJ:(e xs).run P w=.ok x w):(callFunc f xs).run P w=.ok (.value x) w:=by
 simp only [callFunc,Sem.run_bind,run_program,Result.andThen_ok,ay]
 rw [if_neg (by rw [aU];simp),if_pos ag]
 simp only [Sem.run_bind,ab,ae]
 have hm:(mark (.extern f)).run P w=.ok () w:=rfl
 rw [hm]
 simp only [Result.andThen_ok,aJ,Sem.run_pure]
def zJ (c:Nat):List UInt8→Nat→Int
 | [],_=>-1
 | b::l,i=>bif Nat.beq b.toNat c then .ofNat i else zJ c l (i+1)
theorem PD (c:Nat) (aI:c<256):∀(l:List UInt8) (i:Nat),zJ c l i=if Lib.indexByte l c.toUInt8=-1 then -1 else Lib.indexByte l c.toUInt8+i
 | [],i=>by simp [zJ,Lib.indexByte]
 | b::l,i=>by
   have iO:=Lib.indexByte_ge l c.toUInt8
   have r_:(b.toNat=c)↔(b == c.toUInt8)=true:=by
    rw [beq_iff_eq,←UInt8.toNat_inj]
    have:c.toUInt8.toNat=c:=by
     show c % 256=c
     omega
    rw [this]
   have e:Lib.indexByte (b::l) c.toUInt8=if (b == c.toUInt8)=true then 0 else if (Lib.indexByte l c.toUInt8 == -1)=true then -1 else Lib.indexByte l c.toUInt8+1:=rfl
   simp only [zJ,PD c aI l (i+1),ho]
   by_cases h:b.toNat=c
   · rw [if_pos (r_.1 h)] at e
     rw [if_pos h,e]
     simp
   · rw [if_neg (fun e=>h (r_.2 e))] at e
     rw [if_neg h]
     by_cases ae:Lib.indexByte l c.toUInt8=-1
     · rw [ae] at e
       simp only [beq_self_eq_true,if_true] at e
       simp [ae,e]
     · have aG:(Lib.indexByte l c.toUInt8 == -1)=false:=by simpa using ae
       rw [aG] at e
       simp only [Bool.false_eq_true,if_false] at e
       rw [if_neg ae,e,if_neg (by omega)]
       omega
def preB:List UInt8→List UInt8→Bool
 | [],_=>true
 | _::_,[]=>false
 | a::x,b::y=>bif Nat.beq a.toNat b.toNat then preB x y else false
theorem Jw:∀(x y:List UInt8),preB x y=x.isPrefixOf y
 | [],y=>by cases y<;>rfl
 | _::_,[]=>rfl
 | a::x,b::y=>by
   simp only [preB,List.isPrefixOf,ho,Jw x y]
   by_cases h:a.toNat=b.toNat
   · have:a=b:=UInt8.toNat_inj.1 h
     subst this
     simp
   · have:(a == b)=false:=by
      rw [beq_eq_false_iff_ne]
      exact fun e=>h (by rw [e])
     rw [if_neg h,this]
     rfl
def hasB:List UInt8→List UInt8→Bool
 | [],sub=>preB sub []
 | b::l,sub=>bif preB sub (b::l) then true else hasB l sub
theorem Oh:∀(s sub:List UInt8),hasB s sub=Lib.contains s sub
 | [],sub=>by
   simp only [hasB,Jw,Lib.contains,Lib.index]
   cases sub<;>simp
 | b::l,sub=>by
   simp only [hasB,Jw]
   have bk:=Oh l sub
   unfold Lib.contains at bk ⊢
   unfold Lib.index
   cases h:sub.isPrefixOf (b::l) with
   | true=>simp
   | false=>
     simp only [cond_false,Bool.false_eq_true,if_false,bk]
     have iO:=Lib.index_ge l sub
     cases ae:(Lib.index l sub == -1) with
     | true=>
       have:Lib.index l sub=-1:=by simpa using ae
       simp [this]
     | false=>
       have:Lib.index l sub≠-1:=by simpa using ae
       simp only [Bool.false_eq_true,if_false]
       rw [Bool.eq_iff_iff,decide_eq_true_eq,decide_eq_true_eq]
       omega
def GB:vw:=⟨fun args h=>match args with
 | [x,y]=>(match x with
   | .str s=>(match y with
     | .str sub=>bif Nat.ble s.length 100000 then .val (.bool (hasB s sub)) h else .fail
     | _=>.fail)
   | _=>.fail)
 | _=>.fail⟩
theorem ZV {args:List V} {h aa:af} {v:V} (he:GB.run args h=.val v aa):∃s sub,args=[.str s,.str sub]∧s.length≤100000∧v=.bool (Lib.contains s sub)∧aa=h:=by
 simp only [GB] at he
 split at he
 case h_2=>cases he
 split at he
 case h_2=>cases he
 split at he
 case h_2=>cases he
 obtain ⟨aI,ab⟩:=jg he
 simp only [aY.val.injEq] at ab
 obtain ⟨rfl,rfl⟩:=ab
 exact ⟨_,_,rfl,Nat.le_of_ble_eq_true aI,by rw [Oh],rfl⟩
def CL:vw:=⟨fun args h=>match args with
 | [x,y]=>(match x with
   | .str s=>(match y with
     | .int k c=>bif ng k .u8&&(Int.leB 0 c&&Nat.blt c.toNat 256) then .val (.int .i64 (zJ c.toNat s 0)) h else .fail
     | _=>.fail)
   | _=>.fail)
 | _=>.fail⟩
theorem aef {args:List V} {h aa:af} {v:V} (he:CL.run args h=.val v aa):∃s c,args=[.str s,.int .u8 c]∧v=.int .i64 (Lib.indexByte s c.toNat.toUInt8)∧aa=h:=by
 simp only [CL] at he
 split at he
 case h_2=>cases he
 split at he
 case h_2=>cases he
 split at he
 case h_2=>cases he
 rename_i s _ k c
 obtain ⟨aI,ab⟩:=jg he
 simp only [Bool.and_eq_true,Nat.blt_eq] at aI
 have aE:=r1 aI.1
 subst aE
 simp only [aY.val.injEq] at ab
 obtain ⟨rfl,rfl⟩:=ab
 refine ⟨s,c,rfl,?_,rfl⟩
 rw [PD _ aI.2.2]
 by_cases h:Lib.indexByte s c.toNat.toUInt8=-1
 · rw [if_pos h,h]
 · rw [if_neg h]
   simp
theorem aee {P:Program} {f:FuncId} {fn:Func} (ay:P.funcs[f]? =some fn) (aU:(fn.name == "runtime.NumGoroutine")=false) (ag:fn.body.isNone=true) (ab:Extern.findNext fn=none) (ae:Extern.find fn=some Extern.BytealgIndexByte.indexByte)
 {args:List V} {h aa:af} {v:V} (he:CL.run args h=.val v aa) (aw:Fr) (E:Env) (w:World) (xs:List Value) (aq:bc E args xs) (s:a' aw E h w):
 ∃av x ao,(callFunc f xs.toArray).run P w=.ok (.value x) ao∧E.le av∧Rel av v x∧a' aw av aa ao:=by
 obtain ⟨t,c,rfl,rfl,rfl⟩:=aef he
 obtain ⟨y,cJ,rfl,an,z,iH,rfl,az,rfl⟩:=aq
 simp only [Rel] at an az
 subst an az
 exact ⟨E,_,w,aaR ay aU ag ab ae (Lib.run_indexByteString _ _ _),Env.le.refl E,by simp [Rel],s⟩
theorem ZP {P:Program} {f:FuncId} (a_:Nat.beq f dk=false) {v:V} (bs:∀E x,x=.bool true→Rel E v x) (jj:∃fn,P.funcs[f]? =some fn∧fn.body.isSome=true) (H:∀w,Lay.ok w→Calls P f #[] w fun e ao=>e=.returned (.bool true)∧Below w.heap.size w ao) (h:af):
 fh P f [] h v h:=by
 refine ⟨fun e=>by subst e;simp at a_,.inl ⟨jj,fun aw E w xs aq s=>?_⟩⟩
 simp only [bc] at aq
 subst aq
 refine (H w (Lay.fz s.laid s.frame)).mono fun e ao q=>?_
 obtain ⟨rfl,ag⟩:=q
 exact ⟨E,_,rfl,fun _ _ q=>q,bs E _ rfl,s.below ag⟩
noncomputable def p9 (E:Env) (h:af) (p:ih):Env:=fun b=>if b=al h.next then some p else E b
theorem Tb (E:Env) (h:af) (p:ih):p9 E h p (al h.next)=some p:=if_pos rfl
theorem Kx {aw:Fr} {E:Env} {h:af} {w:World} (s:a' aw E h w) (p:ih):E.le (p9 E h p):=fun b q aA=>by
 unfold p9
 rw [if_neg (fun e=>by rw [e,s.fresh _ (Nat.le_refl _)] at aA;cases aA)]
 exact aA
theorem ajH {W:World} {E:Env} {h:af} (s:a' ⟨W,fun _=>none⟩ E h W) (p:ih) (k:cb) (aT:k.own=false) (aE:gM W.heap.size (p9 E h p) W (al h.next) k):
 a' ⟨W,fun _=>none⟩ (p9 E h p) (h.new k) W:=by
 refine ⟨fun b _=>?_,fun _ _ h=>(by cases h),fun b bP q ej ab ae aK aS aA=>?_,fun i aC=>?_,s.frame,s.laid,fun b q n cs st ab aK=>by
  rw [hI] at ab
  by_cases bu:al h.next=b
  · rw [if_pos bu] at ab;rw [ab] at aT;cases aT
  · rw [if_neg bu] at ab
    unfold p9 at aK
    rw [if_neg (fun e=>bu e.symm)] at aK
    exact s.base _ _ _ _ _ ab aK⟩
 · rw [hI]
   by_cases e:al h.next=b
   · subst e
     rw [if_pos rfl]
     exact aE
   · rw [if_neg e]
     exact (s.aW b rfl).mono (Kx s p)
 · rw [hI] at ab ae
   by_cases bu:al h.next=b
   · rw [if_pos bu,aT] at ab;cases ab
   · by_cases bI:al h.next=bP
     · rw [if_pos bI,aT] at ae;cases ae
     · rw [if_neg bu] at ab
       rw [if_neg bI] at ae
       unfold p9 at aK aS
       rw [if_neg (fun e=>bu e.symm)] at aK
       rw [if_neg (fun e=>bI e.symm)] at aS
       exact s.inj b bP q ej ab ae aK aS aA
 · rw [eU] at aC
   unfold p9
   rw [if_neg (fun e=>by have:=dW e;omega)]
   exact s.fresh i (by omega)
theorem ajI {W:World} {E:Env} {h:af} (s:a' ⟨W,fun _=>none⟩ E h W) {k base cap:Nat} {c:Array Value} {el:TypeId} {bW:Nat × Nat} (aE:W.heap[k]? =some (.cells c el bW)) {ad:List V}
 (aI:base+ad.length≤c.size) (aJ:∀i v y,ad[i]? =some v→c[base+i]? =some y→Rel E v y):
 a' ⟨W,fun _=>none⟩ (p9 E h ⟨k,base,cap⟩) (h.new (.ro ad)) W:=by
 refine ajH s _ _ rfl ?_
 have aL:k<W.heap.size:=by
  by_cases aL:k<W.heap.size
  · exact aL
  · rw [Array.getElem?_eq_none (by omega)] at aE
    cases aE
 refine ⟨trivial,⟨k,base,cap⟩,c,el,bW,Tb _ _ _,aL,aE,aI,fun i y aC a_=>?_⟩
 have:T.get .bad (al i) (dD .e 0 ad)=ad[i]:=by
  have:=B8 ad 0 i .e
  rw [Nat.zero_add] at this
  rw [this,if_pos aC,List.getElem?_eq_getElem aC]
  rfl
 rw [this]
 exact Rel.mono (Kx s _) _ _ (aJ i _ y (List.getElem?_eq_getElem aC) a_)
end Go.Proofs.YthemdhlheglhoaaGreatDoor.aX
