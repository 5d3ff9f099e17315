/- The abstract machine and its walks (a verified interpreter of the model's code: plain definitions and lemmas, no condition). Printed by a program from longer texts: names made short. -/
import Derived.Test.YtgmhjhgoamjeeaaGreatDoorM3
import Derived.IntWalk
import Derived.ChangeArms
import Derived.DataReads
set_option linter.unusedSectionVars false
set_option linter.unusedSimpArgs false
set_option linter.unusedVariables false
set_option maxHeartbeats 64000000
noncomputable section
namespace Go.Proofs.YtgmhjhgoamjeeaaGreatDoor.aX
section
open Go Go.RowKit
variable [Lay]
inductive aT where
 | t (n:Nat)
 | c (v:V)
abbrev bc:=Nat->V
def aT.aP (r:bc):aT->V
 | .t n=>r n
 | .c v=>v
def aT.fx (r:bc):List aT->List V
 | []=>[]
 | x::xs=>x.aP r::aT.fx r xs
def rx:Operand->aT
 | .tmp t=>bif Nat.ble t top then .t t else .c .bad
 | .const v=>.c (hb v)
 | .func f=>bif Nat.beq f dr then .c .bad else .c (.func f [])
 | .global _=>.c .bad
def nk:List Operand->List aT
 | []=>[]
 | x::xs=>rx x::nk xs
def aT.opt (r:bc):Option aT->Option V
 | none=>none
 | some x=>some (x.aP r)
def tb:Option Operand->Option aT
 | none=>none
 | some x=>some (rx x)
inductive e1 where
 | int (op:BinOp)
 | str (op:BinOp)
 | shl
 | shr
 | AK (neg:Bool)
 | k3 (neg:Bool) (k:Nat)
 | other (op:BinOp) (t:TypeId)
def e1.run (P:Program):e1->V->V->Option V
 | .int op=>(mi op).run
 | .str op=>(tf op).run
 | .shl=>(w8 true).run
 | .shr=>(w8 false).run
 | .AK neg=>(jg neg qQ).run
 | .k3 neg k=>(jg neg (gM k)).run
 | .other op t=>(r' P op t).run
inductive tt where
 | int (k:IntKind)
 | bytes
 | str
 | other (s d:TypeId)
def tt.run (P:Program):tt->V->ae->a7
 | .int k=>fun x h=>x.ej .fail fun _ n=>.val (.int k (k.wrap n)) h
 | .bytes=>Az.run
 | .str=>tO.run
 | .other s d=>(qM P s d).run
inductive ja where
 | int | str | bool
def ja.eq:ja->dD
 | .int=>j1
 | .str=>jh
 | .bool=>qQ
inductive C6 where
 | arr (n:Nat)
 | str
 | slice
 | map
inductive G where
 | bad
 | cM (x:aT)
 | pick (c a b:aT)
 | new (z:List V)
 | box (x:aT)
 | build (z:List V) (bn:List (Nat × Nat × aT))
 | hz (len size:Nat) (z:List V) (bn:List (Nat × Nat × aT))
 | dJ (x:aT)
 | fh (size:Nat) (x:aT)
 | st (size:Nat) (x y:aT)
 | sY (x:aT)
 | bin (k:e1) (x y:aT)
 | un (op:UnOp) (x:aT)
 | eB (k:tt) (x:aT)
 | fn (f:FuncId) (eG:List aT)
 | B0 (f:FuncId) (first:List aT)
 | Dq (t:TypeId) (z:Option V) (ok:Bool) (x:aT)
 | sN (t:TypeId) (x:aT)
 | yU (size:Nat) (z:List V) (l c:aT)
 | rG (x:aT) (bP ax ea:Option aT)
 | eZ (size:Nat) (x:aT) (bP ax ea:Option aT)
 | dH (off:Nat) (x:aT)
 | oH (off:Nat) (x:aT)
 | vC (off size:Nat) (x:aT)
 | cr (size:Nat) (x i:aT)
 | ur (n size:Nat) (x i:aT)
 | lJ (x i:aT)
 | jJ (t:TypeId) (x i:aT)
 | look (k:ja) (z:V) (ok:Bool) (x i:aT)
 | o_ (k:ja) (m i x:aT)
 | sW (x:Option aT)
 | zj (x:aT)
 | wQ (x:aT)
 | ext (x:aT) (i:Nat)
 | call (f:FuncId) (args:List aT)
 | lD (f:aT) (args:List aT)
 | len (k:C6) (x:aT)
 | app (size:Nat) (s x:aT)
 | copy (size:Nat) (d s:aT)
 | yV (args:List aT)
 | ea (args:List aT)
 | Pj (z:List V) (x:aT)
 | xP (x:aT)
 | Aj (size:Nat) (z:List V) (s x:aT)
 | yQ (z:V) (ok:Bool) (x i:aT)
 | looks (k:TypeId) (z:V) (ok:Bool) (x i:aT)
 | CA (m i x:aT)
 | zA (k:TypeId) (m i x:aT)
 | BZ (z:V) (m i:aT)
 | yT (k:TypeId) (z:V) (m i:aT)
 | x1 (m s x:aT)
 | w4 (x:aT)
 | lS (x:aT)
 | vy (x:aT)
 | wV (neg:Bool) (x y:aT)
def kq (r:bc):List (Nat × Nat × aT)->List (Nat × Nat × V)
 | []=>[]
 | (o,s,x)::bn=>(o,s,x.aP r)::kq r bn
def iJ:List V->List (Nat × Nat × V)->Option (List V)
 | cells,[]=>some cells
 | cells,(off,size,v)::rest=>bif v.eO&&(Nat.beq v.cells.length size&&Nat.ble (off+v.cells.length) cells.length) then iJ (sr cells off v.cells) rest else none
def C6.run:C6->V->ae->a7
 | .arr n=>fun _ h=>.val (.int .i64 n) h
 | .str=>fun x h=>a7.of h ((o1 .string).run x)
 | .slice=>fun x h=>a7.of h ((o1 (.slice 0)).run x)
 | .map=>fun x h=>BQ [x] h
def zc (neg:Bool) (h:ae) (x y:V):Option V:=
 match js h x y with
 | some b=>some (.bool (bif neg then !b else b))
 | none=>none
def G.run (P:Program) (g:G) (call:dO) (r:bc) (h:ae):a7:=
 match g with
 | .bad=>.fail
 | .cM x=>.val (x.aP r) h
 | .pick c a b=>match c.aP r with
   | .bool t=>.val (bif t then a.aP r else b.aP r) h
   | _=>.fail
 | .new z=>gF (.ptr (aw h.next) 0) (fR h z)
 | .box x=>bif (x.aP r).eO then gF (.ptr (aw h.next) 0) (fR h (x.aP r).cells) else .fail
 | .build z bn=>(match iJ z (kq r bn) with
   | some cs=>.val (.agg cs) h
   | none=>.fail)
 | .hz n _ z bn=>match iJ (im z n) (kq r bn) with
   | some cs=>(match fR h cs with
     | some ab=>.val (.slice (aw h.next) 0 n n) ab
     | none=>.fail)
   | none=>.fail
 | .dJ x=>a7.of h (nb h (x.aP r))
 | .fh n x=>a7.of h (na n h (x.aP r))
 | .st n x y=>gF .bad (w_ n h (x.aP r) (y.aP r))
 | .sY x=>a7.of h (uH (x.aP r))
 | .bin k x y=>a7.of h (k.run P (x.aP r) (y.aP r))
 | .un op x=>a7.of h (rJ op (x.aP r))
 | .eB k x=>k.run P (x.aP r) h
 | .fn f eG=>.val (.func f (aT.fx r eG)) h
 | .B0 f first=>.val (.lN f (aT.fx r first)) h
 | .Dq t z ok x=>a7.of h (An t z ok (x.aP r))
 | .sN t x=>.val (.iface t (x.aP r)) h
 | .yU n z l c=>uC n z (l.aP r) (c.aP r) h
 | .rG x bP ax m3=>a7.of h (mv (x.aP r) (aT.opt r bP) (aT.opt r ax) (aT.opt r m3))
 | .eZ n x bP ax m3=>a7.of h (match x.aP r with
   | .bg=>Gs (aT.opt r bP) (aT.opt r ax) (aT.opt r m3)
   | .slice b off wI cap=>uX n b off wI cap (aT.opt r bP) (aT.opt r ax) (aT.opt r m3)
   | .eh b off wI idx=>w9 n b off wI idx (aT.opt r bP) (aT.opt r ax) (aT.opt r m3)
   | .gI b off kL idx=>Gt b off kL idx (aT.opt r bP) (aT.opt r ax) (aT.opt r m3)
   | _=>none)
 | .dH off x=>a7.of h ((x.aP r).iQ none fun b o=>some (.ptr b (o+off)))
 | .oH off x=>a7.of h (match x.aP r with
   | .agg cs=>cs[off]?
   | _=>none)
 | .vC off n x=>a7.of h (match x.aP r with
   | .agg cs=>some (.agg ((cs.drop off).take n))
   | _=>none)
 | .cr n x i=>a7.of h ((wy n).run (x.aP r) (i.aP r))
 | .ur n s x i=>a7.of h ((sP n s).run (x.aP r) (i.aP r))
 | .lJ x i=>a7.of h (sR.run (x.aP r) (i.aP r))
 | .jJ t x i=>a7.of h ((sQ P t).run (x.aP r) (i.aP r))
 | .look k z ok x i=>a7.of h (gk k.eq z ok h (x.aP r) (i.aP r))
 | .o_ k m i x=>gF .bad (jT k.eq h (m.aP r) (i.aP r) (x.aP r))
 | .sW x=>rn (aT.opt r x) h
 | .zj x=>(match x.aP r with
   | .str s=>.val (.ptr (aw h.next) 0) (h.new (.iter s 0))
   | _=>.fail)
 | .wQ x=>wO (x.aP r) h
 | .ext x i=>(match x.aP r with
   | .tuple ag=>a7.of h ag[i]?
   | _=>.fail)
 | .call f args=>call f (aT.fx r args) h
 | .lD f args=>(f.aP r).y5 (aT.fx r args) fun g xs=>call g xs h
 | .len k x=>k.run (x.aP r) h
 | .app n s x=>jZ n (s.aP r) (x.aP r) h
 | .copy n d s=>copyV n (d.aP r) (s.aP r) h
 | .yV args=>a7.of h (kN (fun b a=>!Int.leB a b) (aT.fx r args))
 | .ea args=>a7.of h (kN (fun b a=>!Int.leB b a) (aT.fx r args))
 | .Pj z x=>DE z (x.aP r) h
 | .xP x=>a7.of h (tN (x.aP r))
 | .Aj n z s x=>Dm n z (s.aP r) (x.aP r) h
 | .yQ z ok x i=>a7.of h (ha ⟨js h⟩ z ok h (x.aP r) (i.aP r))
 | .looks k z ok x i=>a7.of h (bif lg P k (i.aP r) then ha (structEq P k) z ok h (x.aP r) (i.aP r) else none)
 | .CA m i x=>gF .bad (jT ⟨js h⟩ h (m.aP r) (i.aP r) (x.aP r))
 | .zA k m i x=>gF .bad (bif lg P k (i.aP r) then jT (structEq P k) h (m.aP r) (i.aP r) (x.aP r) else none)
 | .BZ z m i=>DS z (m.aP r) (i.aP r) h
 | .yT k z m i=>xX P k z (m.aP r) (i.aP r) h
 | .x1 m s x=>gF .bad (qP h (m.aP r) (s.aP r) (x.aP r))
 | .w4 x=>rangeMap (x.aP r) h
 | .lS x=>gm (x.aP r) h
 | .vy x=>so (x.aP r) h
 | .wV neg x y=>a7.of h (zc neg h (x.aP r) (y.aP r))
def Lw (P:Program) (op:BinOp) (t:TypeId):e1:=
 match op with
 | .shl=>.shl
 | .shr=>.shr
 | op=>match ba P t with
   | none=>.other op t
   | some aO=>match aO.bj with
     | .int _=>.int op
     | .string=>.str op
     | .bool=>(match op with
       | .eql=>.AK false
       | .neq=>.AK true
       | _=>.other op t)
     | .pointer _=>(match op with
       | .eql=>.k3 false 1
       | .neq=>.k3 true 1
       | _=>.other op t)
     | .slice _=>(match op with
       | .eql=>.k3 false 2
       | .neq=>.k3 true 2
       | _=>.other op t)
     | .map _ _=>(match op with
       | .eql=>.k3 false 3
       | .neq=>.k3 true 3
       | _=>.other op t)
     | .func _ _ _=>(match op with
       | .eql=>.k3 false 4
       | .neq=>.k3 true 4
       | _=>.other op t)
     | _=>.other op t
def LA (P:Program) (op:BinOp) (t:TypeId) (lit:Bool):e1:=
 bif lit then (match ba P t with
  | some aO=>match aO.bj with
    | .interface _=>match op with
      | .eql=>.k3 false 5
      | .neq=>.k3 true 5
      | _=>.k3 false 99
    | _=>.k3 false 99
  | none=>.k3 false 99) else Lw P op t
def Lz (P:Program) (s d:TypeId):tt:=
 match ba P s,ba P d with
 | some uW,some oB=>match oB.bj with
   | .int k=>.int k
   | .string=>match uW.bj with
     | .slice e=>match ba P e with
       | some bd=>match bd.bj with
         | .int .u8=>.str
         | _=>.other s d
       | none=>.other s d
     | _=>.other s d
   | .slice e=>match ba P e with
     | some bd=>match bd.bj with
       | .int .u8=>.bytes
       | _=>.other s d
     | none=>.other s d
   | _=>.other s d
 | _,_=>.other s d
def qf (place:Nat->Option (Nat × Nat)):List (Nat × Operand)->Option (List (Nat × Nat × aT))
 | []=>some []
 | (i,x)::bn=>match place i with
   | none=>none
   | some (off,size)=>match qf place bn with
     | none=>none
     | some l=>some ((off,size,rx x)::l)
def Lx (P:Program) (t:TypeId) (bn:List (Nat × Operand)):G:=
 match ba P t with
 | some aO=>match aO.zero with
   | some z=>match aO.bj with
     | .struct b5=>bif D4 P b5.toList then (match qf (x4 P b5) bn with
       | some l=>.build z.cells l
       | none=>.bad) else .bad
     | .array _ e=>match ba P e with
       | some bd=>(match qf (fun i=>some (i * bd.size,bd.size)) bn with
         | some l=>.build z.cells l
         | none=>.bad)
       | none=>.bad
     | _=>.bad
   | none=>.bad
 | none=>.bad
def LB (P:Program) (t:TypeId) (len:Nat) (bn:List (Nat × Operand)):G:=
 match ba P t with
 | some aO=>match aO.bj with
   | .slice e=>match ba P e with
     | some bd=>match bd.zero with
       | some z=>bif Nat.ble (len * bd.size) 1000000&&Nat.beq z.cells.length bd.size then
          (match qf (fun i=>some (i * bd.size,bd.size)) bn with
          | some l=>.hz len bd.size z.cells l
          | none=>.bad) else .bad
       | none=>.bad
     | none=>.bad
   | _=>.bad
 | none=>.bad
def wB:TypeDesc->Option ja
 | .int _=>some .int
 | .string=>some .str
 | .bool=>some .bool
 | _=>none
def HY (P:Program) (t:TypeId):Option (List V):=
 match ba P t with
 | some aO=>match aO.bj with
   | .slice e=>match ba P e with
     | some bd=>match bd.zero with
       | some z=>some z.cells
       | none=>none
     | none=>none
   | _=>none
 | none=>none
theorem Z3 (P:Program) (t:TypeId):Ax P t=HY P t:=rfl
def F' (P:Program) (c:Call):G:=
 match c.callee with
 | .value (.func f)=>bif Nat.beq f dr then .bad else .call f (nk c.args.toList)
 | .value x=>.lD (rx x) (nk c.args.toList)
 | .invoke _ _=>.bad
 | .builtin b=>match b with
   | .len=>match c.argTypes.toList,c.args.toList with
     | [t],[x]=>(match ba P t with
       | some aO=>(match aO.bj with
         | .map _ _=>.len .map (rx x)
         | .array n _=>.len (.arr n) (rx x)
         | .string=>.len .str (rx x)
         | .slice _=>.len .slice (rx x)
         | _=>.bad)
       | none=>.bad)
     | _,_=>.bad
   | .append=>match c.argTypes.toList,c.args.toList with
     | [t,u],[s,x]=>(match ba P t,ba P u with
       | some aO,some tk=>(match tk.bj with
         | .int _=>(match aO.bj with
           | .slice e=>(match ba P e with
             | none=>.bad
             | some bd=>match bd.zero with
               | none=>.bad
               | some z=>bif Nat.ble 1 bd.size&&Nat.ble bd.bytes 4096&&Nat.beq z.cells.length bd.size then .Aj bd.size z.cells (rx s) (rx x) else .bad)
           | _=>.bad)
         | _=>match aO.bj with
           | .slice e=>(match ba P e with
             | none=>.bad
             | some bd=>match bd.zero with
               | none=>.bad
               | some z=>bif Nat.ble 1 bd.size&&Nat.ble bd.bytes 4096&&Nat.beq z.cells.length bd.size then .app bd.size (rx s) (rx x) else .bad)
           | _=>.bad)
       | _,_=>.bad)
     | _,_=>.bad
   | .copy=>match c.argTypes.toList,c.args.toList with
     | t::_,[d,s]=>(match ba P t with
       | some aO=>(match aO.bj with
         | .slice e=>(match ba P e with
           | some bd=>.copy bd.size (rx d) (rx s)
           | none=>.bad)
         | _=>.bad)
       | none=>.bad)
     | _,_=>.bad
   | .min=>.yV (nk c.args.toList)
   | .max=>.ea (nk c.args.toList)
   | .clear=>match c.argTypes.toList,c.args.toList with
     | [t],[x]=>(match HY P t with
       | some z=>.Pj z (rx x)
       | none=>.bad)
     | _,_=>.bad
   | .cap=>match c.argTypes.toList,c.args.toList with
     | [t],[x]=>(match ba P t with
       | some aO=>bif BF aO.bj then .xP (rx x) else .bad
       | none=>.bad)
     | _,_=>.bad
   | _=>.bad
def uR (P:Program) (op:Op):G:=
 match op with
 | .move x=>.cM (rx x)
 | .assign x=>.cM (rx x)
 | .pick c a b=>.pick (rx c) (rx a) (rx b)
 | .alloc t=>(match ba P t with
   | some aO=>(match aO.zero with
     | some z=>.new z.cells
     | none=>.bad)
   | none=>.bad)
 | .box _ x=>.box (rx x)
 | .build t bn=>Lx P t bn.toList
 | .buildSlice t n bn=>LB P t n bn.toList
 | .load t x=>(match ba P t with
   | none=>.bad
   | some aO=>bif aO.agg then .fh aO.size (rx x) else bif Nat.beq aO.size 1 then .dJ (rx x) else .bad)
 | .store t x y=>(match ba P t with
   | none=>.bad
   | some aO=>.st aO.size (rx x) (rx y))
 | .nilCheck x=>.sY (rx x)
 | .binOp op t x y _=>.bin (LA P op t (rm x||rm y)) (rx x) (rx y)
 | .unOp op _ x=>.un op (rx x)
 | .convert s d x=>.eB (Lz P s d) (rx x)
 | .makeFunc (.func f) first eG=>bif first.isEmpty&&!Nat.beq f dr then .fn f (nk eG.toList) else bif eG.isEmpty&&!Nat.beq f dr then .B0 f (nk first.toList) else .bad
 | .makeInterface t x=>(match ba P t with
   | some aO=>bif Nat.beq (eT aO.bj) 5 then .bad else .sN t (rx x)
   | none=>.bad)
 | .makeSlice t l c=>(match ba P t with
   | some aO=>(match aO.bj with
     | .slice e=>(match ba P e with
       | some bd=>(match bd.zero with
         | some z=>bif Nat.ble bd.bytes 4096 then .yU bd.size z.cells (rx l) (rx c) else .bad
         | none=>.bad)
       | none=>.bad)
     | _=>.bad)
   | none=>.bad)
 | .slice t x bP ax ea=>(match ba P t with
   | none=>.bad
   | some aO=>match aO.bj with
     | .string=>.rG (rx x) (tb bP) (tb ax) (tb ea)
     | .slice e=>(match ba P e with
       | none=>.bad
       | some bd=>.eZ bd.size (rx x) (tb bP) (tb ax) (tb ea))
     | _=>.bad)
 | .fieldAddr t x i=>(match qW P t i with
   | none=>.bad
   | some f=>match ba P f.type with
     | none=>.bad
     | some kr=>bif Nat.beq kr.size 0 then .bad else .dH f.offset (rx x))
 | .field t x i=>(match qW P t i with
   | none=>.bad
   | some f=>match ba P f.type with
     | none=>.bad
     | some aO=>bif aO.agg then .vC f.offset aO.size (rx x) else .oH f.offset (rx x))
 | .indexAddr t x i=>(match ba P t with
   | none=>.bad
   | some aO=>match aO.bj with
     | .slice e=>(match ba P e with
       | none=>.bad
       | some bd=>.cr bd.size (rx x) (rx i))
     | .array n e=>(match ba P e with
       | none=>.bad
       | some bd=>.ur n bd.size (rx x) (rx i))
     | _=>.bad)
 | .index t x i=>(match ba P t with
   | none=>.bad
   | some aO=>match aO.bj with
     | .string=>.lJ (rx x) (rx i)
     | _=>.jJ t (rx x) (rx i))
 | .range t x=>(match ba P t with
   | some aO=>(match aO.bj with
     | .string=>.zj (rx x)
     | .map _ _=>.w4 (rx x)
     | _=>.bad)
   | none=>.bad)
 | .next it s=>bif s then .wQ (rx it) else .lS (rx it)
 | .entry it=>.vy (rx it)
 | .lookup t x k ok=>(match ba P t with
   | some aO=>(match aO.bj with
     | .map br e=>(match ba P br with
       | some fY=>(match ba P e with
         | some bd=>(match bd.zero with
           | some z=>(match wB fY.bj with
             | some cT=>.look cT z ok (rx x) (rx k)
             | none=>bif kG fY.bj then .bad else bif iU P br then .yQ z ok (rx x) (rx k) else bif lT P br then .looks br z ok (rx x) (rx k) else .bad)
           | none=>.bad)
         | none=>.bad)
       | none=>.bad)
     | _=>.bad)
   | none=>.bad)
 | .mapUpdate t m k x | .insert t m k x=>(match ba P t with
   | some aO=>(match aO.bj with
     | .map br _=>(match ba P br with
       | some fY=>(match wB fY.bj with
         | some cT=>.o_ cT (rx m) (rx k) (rx x)
         | none=>bif kG fY.bj then .bad else bif iU P br then .CA (rx m) (rx k) (rx x) else bif lT P br then .zA br (rx m) (rx k) (rx x) else .bad)
       | none=>.bad)
     | _=>.bad)
   | none=>.bad)
 | .mapEntry t m k=>(match ba P t with
   | some aO=>(match aO.bj with
     | .map br e=>(match ba P e with
       | some bd=>(match bd.zero with
         | some z=>bif iU P br then .BZ z (rx m) (rx k) else bif lT P br then .yT br z (rx m) (rx k) else .bad
         | none=>.bad)
       | none=>.bad)
     | _=>.bad)
   | none=>.bad)
 | .entryStore _ m st x=>.x1 (rx m) (rx st) (rx x)
 | .makeMap t x=>(match ba P t with
   | some aO=>bif Nat.beq (eT aO.bj) 3 then .sW (tb x) else .bad
   | none=>.bad)
 | .extract x i=>.ext (rx x) i
 | .typeAssert x _ t ok=>(match ba P t with
   | some aO=>bif Nat.beq (eT aO.bj) 5 then .bad else .Dq t aO.zero ok (rx x)
   | none=>.bad)
 | .call c=>F' P c
 | _=>.bad
def dW (cP:bC):bc:=fun t=>T.get .bad (aw t) cP
theorem eJ (cP:bC) (x:Operand):(bS x).run cP=(rx x).aP (dW cP):=by
 cases x with
 | tmp t=>
   simp only [bS,rx];cases Nat.ble t top<;>rfl
 | const v=>rfl
 | func f=>
   simp only [bS,rx];cases Nat.beq f dr<;>rfl
 | global g=>rfl
theorem x2 (cP:bC):∀xs:List Operand,(qT xs).run cP=aT.fx (dW cP) (nk xs)
 | []=>rfl
 | x::xs=>by simp only [qT,nk,aT.fx,eJ,x2 cP xs]
theorem K5 (cP:bC) (x:Option Operand):(ry x).run cP=aT.opt (dW cP) (tb x):=by
 cases x with
 | none=>rfl
 | some x=>simp only [ry,tb,aT.opt,eJ]
theorem D5 (cP:bC) {place:Nat->Option (Nat × Nat)}:∀{bn:List (Nat × Operand)} {l:List (Nat × Nat × aT)},qf place bn=some l->∀cells,mM place cells ((uM bn).run cP)=iJ cells (kq (dW cP) l)
 | [],l,h,cells=>by simp only [qf,aps] at h;subst h;rfl
 | (i,x)::bn,l,h,cells=>by
   simp only [qf] at h;cases af:place i with
   | none=>rw [af] at h;cases h
   | some os=>
     obtain ⟨off,size⟩:=os;rw [af] at h;simp only at h;cases aA:qf place bn with
     | none=>rw [aA] at h;cases h
     | some eS=>
       rw [aA] at h;simp only [aps] at h;subst h;simp only [uM,mM,af,kq,iJ,eJ];cases ((rx x).aP (dW cP)).eO&&(Nat.beq ((rx x).aP (dW cP)).cells.length size&&Nat.ble (off + ((rx x).aP (dW cP)).cells.length) cells.length) with
       | false=>rfl
       | true=>exact D5 cP aA _
section
variable {P:Program}
theorem ak5 (op:BinOp) (t:TypeId):(Lw P op t).run P=(r' P op t).run:=by
 unfold Lw r';cases op<;>first | rfl | skip
 all_goals
  cases aE:ba P t with
  | none=>simp only [e1.run];unfold r';rw [aE]
  | some aO=>
    simp only;cases hu:aO.bj<;>first | rfl | (simp only [e1.run];unfold r';rw [aE];simp only [hu];done) | (simp only [e1.run];unfold pF hk;simp only [aE,hu];first | done | rfl)
theorem ak9 (op:BinOp) (t:TypeId) (lit:Bool):(LA P op t lit).run P=(Ao P op t lit).run:=by
 unfold LA Ao;cases lit with
 | false=>simp only [apA];exact ak5 op t
 | true=>
   simp only [apu];cases ba P t with
   | none=>rfl
   | some aO=>
     simp only;cases aO.bj<;>first | rfl | (cases op<;>rfl)
theorem ak7 (s d:TypeId):(Lz P s d).run P=(qM P s d).run:=by
 unfold Lz
 split
 . rename_i uW oB aZ aH
   split
   . rename_i k hu;simp only [tt.run];unfold qM;rw [aZ,aH];simp only [hu]
   . rename_i hu
     split
     . rename_i e bs
       split
       . rename_i bd he
         split
         . rename_i hw;simp only [tt.run];unfold qM;rw [aZ,aH];simp only [hu,bs,he,hw]
         . rfl
       . rfl
     . rfl
   . rename_i e hu
     split
     . rename_i bd he
       split
       . rename_i hw;simp only [tt.run];unfold qM;rw [aZ,aH];simp only [hu,he,hw]
       . rfl
     . rfl
   . rfl
 . rfl
theorem Kl {d:TypeDesc} {cT:ja} (h:wB d=some cT):kG d=true/\lf d=cT.eq:=by cases d<;>simp only [wB] at h<;>first | (cases h;done) | (cases h;exact ⟨rfl,rfl⟩)
theorem ak6 {c:Call} {call:dO} {cP:bC} {h ab:ae} {v:V} (he:(F' P c).run P call (dW cP) h=.val v ab):(sc P c).run call cP h=.val v ab:=by
 unfold F' at he;unfold sc
 split at he
 . rename_i f ao;rw [ao];cases a6:Nat.beq f dr with
   | true=>rw [a6] at he;cases he
   | false=>
     rw [a6] at he;simp only [apA,G.run] at he;simpa only [bS,a6,apA,qS,V.y5,x2,aqF] using he
 . rename_i x aj ao;rw [ao];simp only [G.run] at he;simpa only [eJ,x2] using he
 . cases he
 . rename_i b ao;rw [ao];simp only [x2];cases b<;>simp only at he<;>try (cases he;done)
   case len=>
    split at he
    . rename_i t x aE aj;cases k_:ba P t with
      | none=>rw [k_] at he;cases he
      | some aO=>
        rw [k_] at he;simp only at he;simp only [qK,aE,k_,aj,nk,aT.fx];cases hu:aO.bj<;>rw [hu] at he<;>first | (cases he;done) | (simpa only [uy,apu,apA,G.run,C6.run,o1,a7.of] using he)
    . cases he
   case append=>
    split at he
    . rename_i t u s x aE aj
      split at he
      . rename_i aO tk k_ um;simp only [qK,aE,aj,nk,aT.fx,Dl,k_,um]
        split at he
        . rename_i k aeV
          split at he
          . rename_i e cl;cases eD:ba P e with
            | none=>rw [eD] at he;cases he
            | some bd=>
              rw [eD] at he;simp only at he;cases bk:bd.zero with
              | none=>rw [bk] at he;cases he
              | some z=>
                rw [bk] at he;simp only at he;cases ah:(Nat.ble 1 bd.size&&Nat.ble bd.bytes 4096&&Nat.beq z.cells.length bd.size) with
                | false=>rw [ah] at he;cases he
                | true=>
                  rw [ah] at he;simp only [apu,G.run] at he;simp only [aeV,cl,eD,bk,ah,apu];exact he
          . cases he
        . rename_i c4
          split at he
          . rename_i e cl;cases eD:ba P e with
            | none=>rw [eD] at he;cases he
            | some bd=>
              rw [eD] at he;simp only at he;cases bk:bd.zero with
              | none=>rw [bk] at he;cases he
              | some z=>
                rw [bk] at he;simp only at he;cases ah:(Nat.ble 1 bd.size&&Nat.ble bd.bytes 4096&&Nat.beq z.cells.length bd.size) with
                | false=>rw [ah] at he;cases he
                | true=>
                  rw [ah] at he;simp only [apu,G.run] at he;cases J2:tk.bj<;>first
                   | (exact absurd J2 (c4 _))
                   | (simp only [cl,eD,bk,ah,apu];exact he)
          . cases he
      . cases he
    . cases he
   case copy=>
    split at he
    . rename_i t bq d s aE aj;cases k_:ba P t with
      | none=>rw [k_] at he;cases he
      | some aO=>
        rw [k_] at he;simp only at he
        split at he
        . rename_i e cl;cases eD:ba P e with
          | none=>rw [eD] at he;cases he
          | some bd=>
            rw [eD] at he;simp only [G.run] at he;simp only [qK,aE,aj,nk,aT.fx,DF,k_,cl,eD];exact he
        . cases he
    . cases he
   case min=>exact he
   case max=>exact he
   case clear=>
    split at he
    . rename_i t x aE aj;cases ao:HY P t with
      | none=>rw [ao] at he;cases he
      | some z=>
        rw [ao] at he;simp only [G.run] at he;simp only [qK,aE,aj,nk,aT.fx,Z3,ao];exact he
    . cases he
   case cap=>
    split at he
    . rename_i t x aE aj;cases k_:ba P t with
      | none=>rw [k_] at he;cases he
      | some aO=>
        rw [k_] at he;simp only at he;cases ah:BF aO.bj with
        | false=>rw [ah] at he;cases he
        | true=>
          rw [ah] at he;simp only [apu,G.run] at he;simp only [qK,aE,aj,nk,aT.fx,k_,ah,apu];exact he
    . cases he
theorem UO {o:Oper} {call:dO} {cP:bC} {h ab:ae} {v:V} (he:(uR P o.op).run P call (dW cP) h=.val v ab):(e' P o).run call cP h=.val v ab:=by
 obtain ⟨dst,op,type,pos,after,guard⟩:=o;cases op<;>simp only [uR] at he<;>try (cases he;done)
 all_goals simp only [e']
 case move x=>simpa only [eJ,G.run] using he
 case assign x=>simpa only [eJ,G.run] using he
 case pick c a b=>
  simp only [eJ,G.run] at he ⊢;generalize (rx c).aP (dW cP)=q at he ⊢;cases q<;>exact he
 case alloc t=>
  cases aE:ba P t with
  | none=>rw [aE] at he;cases he
  | some aO=>
    rw [aE] at he;simp only at he ⊢;cases bk:aO.zero with
    | none=>rw [bk] at he;cases he
    | some z=>rw [bk] at he;exact he
 case box t x=>simpa only [eJ,G.run] using he
 case build t bn=>
  unfold Lx at he;unfold Dx;cases aE:ba P t with
  | none=>rw [aE] at he;cases he
  | some aO=>
    rw [aE] at he;simp only at he ⊢;cases bk:aO.zero with
    | none=>rw [bk] at he;cases he
    | some z=>
      rw [bk] at he;simp only at he ⊢;cases hu:aO.bj<;>rw [hu] at he<;>simp only at he ⊢<;>try (cases he;done)
      . rename_i n e;cases eD:ba P e with
        | none=>rw [eD] at he;cases he
        | some bd=>
          rw [eD] at he;simp only at he ⊢;cases af:qf (fun i=>some (i * bd.size,bd.size)) bn.toList with
          | none=>rw [af] at he;cases he
          | some l=>
            rw [af] at he;simp only [G.run] at he;rw [D5 cP af];cases av:iJ z.cells (kq (dW cP) l) with
            | none=>rw [av] at he;cases he
            | some cs=>rw [av] at he;exact he
      . rename_i b5;cases aB:D4 P b5.toList with
        | false=>rw [aB] at he;cases he
        | true=>
          rw [aB] at he;simp only [apu] at he ⊢;cases af:qf (x4 P b5) bn.toList with
          | none=>rw [af] at he;cases he
          | some l=>
            rw [af] at he;simp only [G.run] at he;rw [D5 cP af];cases av:iJ z.cells (kq (dW cP) l) with
            | none=>rw [av] at he;cases he
            | some cs=>rw [av] at he;exact he
 case buildSlice t n bn=>
  unfold LB at he;unfold vr;cases aE:ba P t with
  | none=>rw [aE] at he;cases he
  | some aO=>
    rw [aE] at he;simp only at he ⊢;cases hu:aO.bj<;>rw [hu] at he<;>simp only at he ⊢<;>try (cases he;done)
    rename_i e;cases eD:ba P e with
    | none=>rw [eD] at he;cases he
    | some bd=>
      rw [eD] at he;simp only at he ⊢;cases bk:bd.zero with
      | none=>rw [bk] at he;cases he
      | some z=>
        rw [bk] at he;simp only at he ⊢;cases ah:(Nat.ble (n * bd.size) 1000000&&Nat.beq z.cells.length bd.size) with
        | false=>rw [ah] at he;cases he
        | true=>
          rw [ah] at he;simp only [apu] at he ⊢;cases af:qf (fun i=>some (i * bd.size,bd.size)) bn.toList with
          | none=>rw [af] at he;cases he
          | some l=>
            rw [af] at he;simp only [G.run] at he;rw [D5 cP af];exact he
 case load t x=>
  unfold p_;cases aE:ba P t with
  | none=>rw [aE] at he;cases he
  | some aO=>
    rw [aE] at he;simp only at he ⊢;cases bt:aO.agg with
    | true=>rw [bt] at he;simpa only [apu,eJ,G.run] using he
    | false=>
      rw [bt] at he;simp only [apA] at he ⊢;cases aZ:Nat.beq aO.size 1 with
      | true=>rw [aZ] at he;simpa only [apu,eJ,G.run] using he
      | false=>rw [aZ] at he;cases he
 case store t x y=>
  unfold td;cases aE:ba P t with
  | none=>rw [aE] at he;cases he
  | some aO=>rw [aE] at he;simpa only [eJ,G.run] using he
 case nilCheck x=>simpa only [eJ,G.run] using he
 case binOp op t x y t2=>simpa only [eJ,G.run,ak9] using he
 case unOp op t x=>simpa only [eJ,G.run] using he
 case convert s d x=>simpa only [eJ,G.run,ak7] using he
 case makeFunc fn first eG=>
  cases fn<;>simp only at he<;>try (cases he;done)
  simp only;cases av:(first.isEmpty&&!Nat.beq _ dr) with
  | true=>rw [av] at he;simpa only [apu,x2,G.run] using he
  | false=>
    rw [av] at he;simp only [apA] at he ⊢;cases jl:(eG.isEmpty&&!Nat.beq _ dr) with
    | true=>rw [jl] at he;simpa only [apu,x2,G.run] using he
    | false=>rw [jl] at he;cases he
 case typeAssert x u4 t ok=>
  cases aE:ba P t with
  | none=>rw [aE] at he;cases he
  | some aO=>
    rw [aE] at he;simp only at he ⊢;cases ah:Nat.beq (eT aO.bj) 5 with
    | true=>rw [ah] at he;cases he
    | false=>rw [ah] at he;simpa only [apA,eJ,G.run] using he
 case makeInterface t x=>
  cases aE:ba P t with
  | none=>rw [aE] at he;cases he
  | some aO=>
    rw [aE] at he;simp only at he ⊢;cases ah:Nat.beq (eT aO.bj) 5 with
    | true=>rw [ah] at he;cases he
    | false=>rw [ah] at he;simpa only [apA,eJ,G.run] using he
 case makeSlice t l c=>
  unfold wK;cases aE:ba P t with
  | none=>rw [aE] at he;cases he
  | some aO=>
    rw [aE] at he;simp only at he ⊢;cases hu:aO.bj<;>rw [hu] at he<;>simp only at he ⊢<;>try (cases he;done)
    rename_i e;cases eD:ba P e with
    | none=>rw [eD] at he;cases he
    | some bd=>
      rw [eD] at he;simp only at he ⊢;cases bk:bd.zero with
      | none=>rw [bk] at he;cases he
      | some z=>
        rw [bk] at he;simp only at he ⊢;cases ah:Nat.ble bd.bytes 4096 with
        | false=>rw [ah] at he;cases he
        | true=>rw [ah] at he;simpa only [apu,eJ,G.run] using he
 case slice t x bP ax m3=>
  unfold Gr;cases aE:ba P t with
  | none=>rw [aE] at he;cases he
  | some aO=>
    rw [aE] at he;simp only at he ⊢;cases hu:aO.bj<;>rw [hu] at he<;>simp only at he ⊢<;>try (cases he;done)
    . simpa only [eJ,K5,G.run] using he
    . rename_i e;cases eD:ba P e with
      | none=>rw [eD] at he;cases he
      | some bd=>
        rw [eD] at he;simp only [eJ,K5,G.run] at he ⊢;generalize (rx x).aP (dW cP)=q at he ⊢;cases q<;>exact he
 case fieldAddr t x i=>
  unfold D1;cases av:qW P t i with
  | none=>rw [av] at he;cases he
  | some f=>
    rw [av] at he;simp only at he ⊢;cases aE:ba P f.type with
    | none=>rw [aE] at he;cases he
    | some kr=>
      rw [aE] at he;simp only at he ⊢;cases ah:Nat.beq kr.size 0 with
      | true=>rw [ah] at he;cases he
      | false=>rw [ah] at he;simpa only [apA,eJ,G.run] using he
 case field t x i=>
  unfold D2;cases av:qW P t i with
  | none=>rw [av] at he;cases he
  | some f=>
    rw [av] at he;simp only [qe] at he ⊢;cases aE:ba P f.type with
    | none=>rw [aE] at he;cases he
    | some kr=>
      rw [aE] at he;simp only at he ⊢;cases ah:kr.agg with
      | true=>
        rw [ah] at he;simp only [apu,eJ,G.run] at he ⊢;generalize (rx x).aP (dW cP)=q at he ⊢;cases q<;>exact he
      | false=>
        rw [ah] at he;simp only [apA,eJ,G.run] at he ⊢;generalize (rx x).aP (dW cP)=q at he ⊢;cases q<;>exact he
 case indexAddr t x i=>
  unfold E7;cases aE:ba P t with
  | none=>rw [aE] at he;cases he
  | some aO=>
    rw [aE] at he;simp only at he ⊢;cases hu:aO.bj<;>rw [hu] at he<;>simp only at he ⊢<;>try (cases he;done)
    all_goals
     rename_i e;cases eD:ba P e with
     | none=>rw [eD] at he;cases he
     | some bd=>rw [eD] at he;simpa only [eJ,G.run] using he
 case index t x i=>
  cases aE:ba P t with
  | none=>rw [aE] at he;cases he
  | some aO=>
    rw [aE] at he;simp only at he;cases hu:aO.bj<;>rw [hu] at he<;>simp only [G.run] at he
    case string=>
     unfold sQ;rw [aE];simp only [hu];simpa only [eJ] using he
    all_goals simpa only [eJ] using he
 case range t x=>
  unfold F7;cases aE:ba P t with
  | none=>rw [aE] at he;cases he
  | some aO=>
    rw [aE] at he;simp only at he ⊢;cases hu:aO.bj<;>rw [hu] at he<;>simp only at he ⊢<;>try (cases he;done)
    all_goals simp only [eJ,G.run] at he ⊢
    all_goals first
     | exact he
     | (generalize (rx x).aP (dW cP)=q at he ⊢
        cases q<;>exact he)
 case next it b=>
  cases b<;>simpa only [apu,apA,eJ,G.run] using he
 case entry it=>simpa only [eJ,G.run] using he
 case mapEntry t m k=>
  unfold Fq;cases aE:ba P t with
  | none=>rw [aE] at he;cases he
  | some aO=>
    rw [aE] at he;simp only at he ⊢;cases hu:aO.bj<;>rw [hu] at he<;>simp only at he ⊢<;>try (cases he;done)
    rename_i br e;cases eD:ba P e with
    | none=>rw [eD] at he;cases he
    | some bd=>
      rw [eD] at he;simp only at he ⊢;cases bk:bd.zero with
      | none=>rw [bk] at he;cases he
      | some z=>
        rw [bk] at he;simp only at he ⊢;cases af:iU P br with
        | true=>rw [af] at he;simpa only [apu,eJ,G.run] using he
        | false=>
          rw [af] at he;simp only [apA] at he ⊢;cases aZ:lT P br with
          | true=>rw [aZ] at he;simpa only [apu,eJ,G.run] using he
          | false=>rw [aZ] at he;cases he
 case entryStore t m st x=>simpa only [eJ,G.run] using he
 case lookup t x k ok=>
  unfold Fo;cases aE:ba P t with
  | none=>rw [aE] at he;cases he
  | some aO=>
    rw [aE] at he;simp only at he ⊢;cases hu:aO.bj<;>rw [hu] at he<;>simp only at he ⊢<;>try (cases he;done)
    rename_i br e;cases aB:ba P br with
    | none=>rw [aB] at he;cases he
    | some fY=>
      rw [aB] at he;simp only at he ⊢;cases eD:ba P e with
      | none=>rw [eD] at he;cases he
      | some bd=>
        rw [eD] at he;simp only at he ⊢;cases bk:bd.zero with
        | none=>rw [bk] at he;cases he
        | some z=>
          rw [bk] at he;simp only at he ⊢;cases j5:wB fY.bj with
          | none=>
            rw [j5] at he;simp only at he ⊢;cases av:kG fY.bj with
            | true=>rw [av] at he;cases he
            | false=>
              rw [av] at he;simp only [apA] at he ⊢;cases af:iU P br with
              | true=>rw [af] at he;simpa only [apu,eJ,G.run] using he
              | false=>
                rw [af] at he;simp only [apA] at he ⊢;cases aZ:lT P br with
                | true=>rw [aZ] at he;simpa only [apu,eJ,G.run] using he
                | false=>rw [aZ] at he;cases he
          | some cT=>
            rw [j5] at he;obtain ⟨ak,al⟩:=Kl j5;simp only [ak,al,apu];simpa only [eJ,G.run] using he
 case mapUpdate t m k x=>
  unfold pa;cases aE:ba P t with
  | none=>rw [aE] at he;cases he
  | some aO=>
    rw [aE] at he;simp only at he ⊢;cases hu:aO.bj<;>rw [hu] at he<;>simp only at he ⊢<;>try (cases he;done)
    rename_i br e;cases aB:ba P br with
    | none=>rw [aB] at he;cases he
    | some fY=>
      rw [aB] at he;simp only at he ⊢;cases j5:wB fY.bj with
      | none=>
        rw [j5] at he;simp only at he ⊢;cases av:kG fY.bj with
        | true=>rw [av] at he;cases he
        | false=>
          rw [av] at he;simp only [apA] at he ⊢;cases af:iU P br with
          | true=>rw [af] at he;simpa only [apu,eJ,G.run] using he
          | false=>
            rw [af] at he;simp only [apA] at he ⊢;cases aZ:lT P br with
            | true=>rw [aZ] at he;simpa only [apu,eJ,G.run] using he
            | false=>rw [aZ] at he;cases he
      | some cT=>
        rw [j5] at he;obtain ⟨ak,al⟩:=Kl j5;simp only [ak,al,apu];simpa only [eJ,G.run] using he
 case insert t m k x=>
  unfold pa;cases aE:ba P t with
  | none=>rw [aE] at he;cases he
  | some aO=>
    rw [aE] at he;simp only at he ⊢;cases hu:aO.bj<;>rw [hu] at he<;>simp only at he ⊢<;>try (cases he;done)
    rename_i br e;cases aB:ba P br with
    | none=>rw [aB] at he;cases he
    | some fY=>
      rw [aB] at he;simp only at he ⊢;cases j5:wB fY.bj with
      | none=>
        rw [j5] at he;simp only at he ⊢;cases av:kG fY.bj with
        | true=>rw [av] at he;cases he
        | false=>
          rw [av] at he;simp only [apA] at he ⊢;cases af:iU P br with
          | true=>rw [af] at he;simpa only [apu,eJ,G.run] using he
          | false=>
            rw [af] at he;simp only [apA] at he ⊢;cases aZ:lT P br with
            | true=>rw [aZ] at he;simpa only [apu,eJ,G.run] using he
            | false=>rw [aZ] at he;cases he
      | some cT=>
        rw [j5] at he;obtain ⟨ak,al⟩:=Kl j5;simp only [ak,al,apu];simpa only [eJ,G.run] using he
 case makeMap t x=>
  unfold yR;cases aE:ba P t with
  | none=>rw [aE] at he;cases he
  | some aO=>
    rw [aE] at he;simp only at he ⊢;cases ah:Nat.beq (eT aO.bj) 3 with
    | false=>rw [ah] at he;cases he
    | true=>rw [ah] at he;simpa only [apu,K5,G.run] using he
 case extract x i=>
  simp only [eJ,G.run] at he ⊢;generalize (rx x).aP (dW cP)=q at he ⊢;cases q<;>exact he
 case call c=>exact ak6 he
end
end
section
open Go Go.RowKit
variable [Lay]
def eV (P:Program) (f:FuncId) (args:List V) (h:ae) (v:V) (ab:ae):Prop:=
 f≠dr/\(((∃fn,P.funcs[f]? =some fn/\fn.body.isSome=true)/\∀(ay:Fr) E w xs,bf E args xs->a8 ay E h w->
  Calls P f xs.toArray w fun e w'=>∃ar x,e=.returned x/\E.le ar/\Rel ar v x/\a8 ay ar ab w')\/
 ∀(ay:Fr) E w xs,bf E args xs->a8 ay E h w->∃ar x w',(callFunc f xs.toArray).run P w=.ok (.value x) w'/\E.le ar/\Rel ar v x/\a8 ay ar ab w')
def Na (P:Program) (args:List V) (b:aL) (h:ae) (v:V) (ab:ae):Prop:=
 ∀(ay:Fr) E w xs p,bf E args xs->a8 ay E h w->E b=some p->
  ∃f tmps assign body,(Instr.yield p.aW xs.toArray).run P w=.ok (.round p.aW f tmps assign body) w/\
   RoundIn (b4 none) 0 P p.aW f tmps assign body w fun e w'=>∃ar x,e=.returned x/\E.le ar/\Rel ar v x/\a8 ay ar ab w'
theorem eV.calls {P:Program} (bE:ec P) {f:FuncId} {args:List V} {h ab:ae} {v:V} (H:eV P f args h v ab) (ah:∃fn,P.funcs[f]? =some fn/\fn.body.isSome=true) (ay:Fr) (E:Env) (w:World) (xs:List Value) (aj:bf E args xs) (s:a8 ay E h w):
 Calls P f xs.toArray w fun e w'=>∃ar x,e=.returned x/\E.le ar/\Rel ar v x/\a8 ay ar ab w':=by
 rcases H.2 with ⟨_,H⟩ | H
 . exact H ay E w xs aj s
 . obtain ⟨ar,x,w',aC,_⟩:=H ay E w xs aj s;obtain ⟨fn,aa,ad⟩:=ah;rw [uV bE aa ad] at aC;cases aC
def c9 (P:Program) (f:FuncId) (args:List V) (h:ae) (K:V->ae->Prop):Prop:=∃v ab,eV P f args h v ab/\K v ab
def Xr (P:Program) (args:List V) (b:aL) (h:ae) (K:V->ae->Prop):Prop:=∃v ab,Na P args b h v ab/\K v ab
def Nb (P:Program) (xs:List V) (h:ae) (K:V->ae->Prop):Prop:=∃cp b,xs=cp++[.ptr b 0]/\Xr P cp b h K
def CJ (P:Program) (g:FuncId) (xs:List V) (h:ae) (K:V->ae->Prop):Prop:=if g=dr then Nb P xs h K else c9 P g xs h K
def V.target (v:V) (args:List V):Option (FuncId × List V):=
 match v with
 | .func g cs=>some (g,args++cs)
 | .lN g cs=>some (g,cs++args)
 | _=>none
theorem TS {v:V} {args xs:List V} {g:FuncId} (h:v.target args=some (g,xs)) (F:FuncId->List V->a7):v.y5 args F=F g xs:=by
 cases v<;>simp only [V.target] at h<;>try (cases h;done)
 all_goals (simp only [aps,aqD] at h;obtain ⟨rfl,rfl⟩:=h;rfl)
theorem c9.mono {P:Program} {f:FuncId} {args:List V} {h:ae} {K nv:V->ae->Prop} (c:c9 P f args h K) (aB:∀v ab,K v ab->nv v ab):c9 P f args h nv:=by obtain ⟨v,ab,ak,al⟩:=c;exact ⟨v,ab,ak,aB v ab al⟩
def ln:dO:=fun _ _ _=>.fail
theorem FB (P:Program):gq P ln/\gJ P ln:=
 ⟨⟨fun _ f args h v ab _ he=>by simp [ln] at he,fun _ f args h v ab _ he=>by simp [ln] at he,fun _ args b h v ab he=>by simp [ln] at he,fun args h v ab he=>by simp [ln] at he⟩,fun f args h v ab he=>by simp [ln] at he⟩
open Classical in
def ng (f:FuncId) (args:List V) (h:ae) (v:V) (ab:ae):dO:=
 fun f1 bD aa=>if f1=f/\bD=args/\aa=h then .val v ab else .fail
theorem TY {P:Program} {f:FuncId} {args:List V} {h ab:ae} {v:V} (H:eV P f args h v ab):gq P (ng f args h v ab)/\gJ P (ng f args h v ab):=by
 refine ⟨⟨fun ay f1 bD aa v1 kt _ he=>?_,fun ay f1 bD aa v1 kt _ he=>?_,fun ay bD b aa v1 kt he=>?_,fun bD aa v1 kt he=>?_⟩,fun f1 bD aa v1 kt he=>?_⟩
 . unfold ng at he
   split at he
   . rename_i ao;obtain ⟨rfl,rfl,rfl⟩:=ao;simp only [a7.val.injEq] at he;obtain ⟨rfl,rfl⟩:=he;intro E w xs aj s;rcases H.2 with H | H
     . exact .inl ⟨H.1,H.2 ay E w xs aj s⟩
     . exact .inr (H ay E w xs aj s)
   . cases he
 . unfold ng at he
   split at he<;>cases he
 . unfold ng at he
   split at he
   . rename_i ao;exact absurd ao.1.symm H.1
   . cases he
 . unfold ng at he
   split at he<;>cases he
 . trivial
theorem alY {xs cp:List V} {x y:V} (h:xs++[x]=cp++[y]):xs=cp/\x=y:=by have:=List.append_inj' h rfl;exact ⟨this.1,by simpa using this.2⟩
theorem akc {P:Program} {args:List V} {b:aL} {h ab:ae} {v:V} (H:Na P args b h v ab):gq P (ng dr (args++[.ptr b 0]) h v ab)/\gJ P (ng dr (args++[.ptr b 0]) h v ab):=by
 refine ⟨⟨fun ay f1 bD aa v1 kt c4 he=>?_,fun ay f1 bD aa v1 kt _ he=>?_,fun ay bD b8 aa v1 kt he=>?_,fun bD aa v1 kt he=>?_⟩,fun f1 bD aa v1 kt he=>?_⟩
 . unfold ng at he
   split at he
   . rename_i ao;exact absurd ao.1 c4
   . cases he
 . unfold ng at he
   split at he<;>cases he
 . unfold ng at he
   split at he
   . rename_i ao;obtain ⟨_,ao,rfl⟩:=ao;obtain ⟨rfl,ah⟩:=alY ao;simp only [V.ptr.injEq,and_true] at ah;subst ah;simp only [a7.val.injEq] at he;obtain ⟨rfl,rfl⟩:=he;exact fun E w xs p aj s af=>H ay E w xs p aj s af
   . cases he
 . unfold ng at he
   split at he<;>cases he
 . trivial
theorem K6 {f:FuncId} {args:List V} {h ab:ae} {v:V}:ng f args h v ab f args h=.val v ab:=by unfold ng;rw [apz ⟨rfl,rfl,rfl⟩]
def bc.set (r:bc) (d:Option Nat) (v:V):bc:=
 match d with
 | none=>r
 | some d=>fun t=>if t=d then v else r t
def bc.trim (r:bc):List Nat->bc
 | [],_=>.bad
 | u::us,t=>if t=u then r t else bc.trim r us t
def bc.bQ:List V->bc
 | [],_=>.bad
 | v::ag,t=>if t=0 then v else bc.bQ ag (t-1)
def Cz (r:bc):List Nat->bC
 | []=>.e
 | t::bq=>T.put .bad (r t) (aw t) (Cz r bq)
theorem Vz (r:bc):∀bq:List Nat,dW (Cz r bq)=bc.trim r bq
 | []=>by funext t;simp [dW,Cz,bc.trim]
 | u::bq=>by
   funext t;have bb:=congrFun (Vz r bq) t;simp only [dW] at bb;simp only [dW,Cz,bc.trim,T.hW];by_cases h:t=u
   . subst h;simp
   . rw [apw (fun e=>h (hN e).symm),apw h];exact bb
theorem zy (cP:bC):∀bq:List Nat,dW (dk cP bq)=bc.trim (dW cP) bq
 | []=>by funext t;simp [dW,dk,bc.trim]
 | u::bq=>by
   funext t;have bb:=congrFun (zy cP bq) t;simp only [dW] at bb;simp only [dW,dk,bc.trim,T.hW];by_cases h:t=u
   . subst h;simp
   . rw [apw (fun e=>h (hN e).symm),apw h];exact bb
theorem L5 {r:bc}:∀{bq:List Nat} {t:Nat},t ∈ bq->bc.trim r bq t=r t
 | [],t,h=>by simp at h
 | u::bq,t,h=>by
   simp only [bc.trim];by_cases hu:t=u
   . rw [apz hu]
   . rw [apw hu];simp only [apJ] at h;exact L5 (h.resolve_left hu)
theorem VA {r:bc}:∀{bq:List Nat} {t:Nat},t ∉ bq->bc.trim r bq t=.bad
 | [],t,_=>rfl
 | u::bq,t,h=>by simp only [apJ,not_or] at h;simp only [bc.trim];rw [apw h.1];exact VA h.2
theorem Ln (d:Option Nat) (cP:bC) (v:V):dW ((ft d).run cP v)=(dW cP).set d v:=by
 cases d with
 | none=>rfl
 | some d=>
   funext t;simp only [dW,ft,bc.set,T.hW];by_cases h:t=d
   . subst h;simp
   . rw [apw (fun e=>h (hN e).symm),apw h]
abbrev ey:Nat:=17179869185
def Out (aq:Nat) (r:bc):Prop:=∀t,aq<=t->t≠ey->r t=.bad
theorem x3 {aq:Nat} {r:bc} (aU:Out aq r):∃cP,dW cP=r:=by
 refine ⟨Cz r (ey::List.range aq),?_⟩;rw [Vz];funext t;by_cases h:t<aq
 . exact L5 (apZ _ (aqQ.2 h))
 . by_cases ad:t=ey
   . exact L5 (by rw [ad];exact aqb)
   . rw [VA (by simp only [apJ,aqQ,not_or];exact ⟨ad,h⟩),aU t (by omega) ad]
theorem Out.set {aq:Nat} {r:bc} (aU:Out aq r) {d:Option Nat} (aH:eI aq d=true) (v:V):Out aq (r.set d v):=by
 intro t aE aZ;cases d with
 | none=>exact aU t aE aZ
 | some d=>
   simp only [eI,apq,apR] at aH;simp only [bc.set];rw [apw (by omega)];exact aU t aE aZ
theorem Cs {aq:Nat} {r:bc} {d:Option Nat} (aH:eI aq d=true) (v:V):r.set d v ey=r ey:=by
 cases d with
 | none=>rfl
 | some d=>
   simp only [eI,apq,apR,apE] at aH;simp only [bc.set];rw [apw (by have:=aH.2;unfold top at this;unfold ey;omega)]
structure hg (E:Env) (aq:Nat) (r:bc) (a:Act):Prop where
 size:a.tmps.size=aq
 defers:lz E (r ey) a.defers
 au:∀t,t≠ey->Rel E (r t) (a.tmps.getD t undef)
theorem rq {t:Nat} (h:t<=top):t≠ey:=by unfold top at h;unfold ey;omega
theorem hg.mono {E ar:Env} (h:E.le ar) {aq:Nat} {r:bc} {a:Act} (k:hg E aq r a):hg ar aq r a:=
 ⟨k.size,k.defers.mono h,fun t aE=>Rel.mono h _ _ (k.au t aE)⟩
theorem hg.put {E ar:Env} (h:E.le ar) {aq:Nat} {r:bc} {a:Act} (k:hg E aq r a) {d:Option Nat} (aH:eI aq d=true) {v:V} {x:Value} (aj:Rel ar v x):hg ar aq (r.set d v) (a.put d x):=by
 cases d with
 | none=>exact k.mono h
 | some d=>
   have aZ:=Cs (r:=r) aH v;simp only [eI,apq,apR] at aH;refine ⟨by simp [Act.put,k.size],by rw [aZ];exact k.defers.mono h,fun t fz=>?_⟩;simp only [bc.set,Act.put];rw [apQ,apI];by_cases aE:t=d
   . subst aE;rw [apz rfl,apz rfl,apz (by rw [k.size];exact aH.1)];exact aj
   . rw [apw aE,apw (fun e=>aE e.symm),<-apQ];exact Rel.mono h _ _ (k.au t fz)
def G.wp (P:Program) (g:G) (r:bc) (h:ae) (K:V->ae->Prop):Prop:=
 match g with
 | .call f args=>c9 P f (aT.fx r args) h K
 | .lD f args=>∃g xs,(f.aP r).target (aT.fx r args)=some (g,xs)/\CJ P g xs h K
 | g=>∃v ab,g.run P ln r h=.val v ab/\K v ab
theorem G.zC {P:Program} {g:G} {r:bc} {h:ae} {K:V->ae->Prop} (H:g.wp P r h K):∃call v ab,(gq P call/\gJ P call)/\g.run P call r h=.val v ab/\K v ab:=by
 cases g
 case call f args=>
  obtain ⟨v,ab,ak,al⟩:=H;exact ⟨_,v,ab,TY ak,K6,al⟩
 case lD f args=>
  obtain ⟨g,xs,av,H⟩:=H;unfold CJ at H
  split at H
  rotate_left
  . obtain ⟨v,ab,ak,al⟩:=H;refine ⟨_,v,ab,TY ak,?_,al⟩;simp only [G.run];rw [TS av];exact K6
  . rename_i aG;subst aG;obtain ⟨cp,b,rfl,v,ab,ak,al⟩:=H;refine ⟨_,v,ab,akc ak,?_,al⟩;simp only [G.run];rw [TS av];exact K6
 all_goals
  obtain ⟨v,ab,ak,al⟩:=H;exact ⟨ln,v,ab,FB P,ak,al⟩
structure bw where
 dst:Option Nat
 g:G
 QO:Option (Nat × Bool)
 rs:List Nat
def bw.bad:bw:=⟨none,.bad,none,[]⟩
def gate (v:V) (want:Bool) (A B:Prop):Prop:=
 match v with
 | .bool b=>(b=want->A)/\(b=!want->B)
 | .tuple _=>B
 | _=>False
def bw.wp (P:Program) (o:bw) (r:bc) (h:ae) (K:bc->V->ae->Prop):Prop:=
 match o.QO with
 | none=>o.g.wp P (r.trim o.rs) h fun v ab=>K (r.set o.dst v) v ab
 | some (d,want)=>gate (r.trim o.rs d) want (o.g.wp P (r.trim o.rs) h fun v ab=>K (r.set o.dst v) v ab) (K (r.set o.dst (.tuple [])) (.tuple []) h)
def rD (P:Program) (aq:Nat) (all:Array Oper) (o:Oper):bw:=
 bif eI aq o.dst&&iD (bY all o) then
  match o.guard with
  | none=>⟨o.dst,uR P o.op,none,bY all o⟩
  | some (j,want)=>match all[j]? with
    | some g=>match g.dst with
      | some d=>bif Nat.blt d aq&&Nat.ble d top then ⟨o.dst,uR P o.op,some (d,want),bY all o⟩ else bw.bad
      | none=>bw.bad
    | none=>bw.bad
 else bw.bad
def zh (P:Program) (aq:Nat) (all:Array Oper):List Oper->List bw
 | []=>[]
 | o::os=>rD P aq all o::zh P aq all os
theorem UQ (P:Program) (aq:Nat) (all:Array Oper):∀l:List Oper,zh P aq all l=l.map (rD P aq all)
 | []=>rfl
 | o::os=>by simp [zh,UQ P aq all os]
def aT.isNil:aT->Bool
 | .c .kb=>true
 | _=>false
def ql (P:Program) (aq:Nat) (all:Array Oper) (o:Oper):bw:=
 match o.op,o.guard with
 | .binOp op t x y _,none=>match wY P op t with
   | some neg=>bif !((rx x).isNil||(rx y).isNil)&&(eI aq o.dst&&iD (bY all o)) then ⟨o.dst,.wV neg (rx x) (rx y),none,bY all o⟩ else rD P aq all o
   | none=>rD P aq all o
 | _,_=>rD P aq all o
def zi (P:Program) (aq:Nat) (all:Array Oper):List Oper->List bw
 | []=>[]
 | o::os=>ql P aq all o::zi P aq all os
theorem bw.Dt {P:Program} {r:bc} {h:ae} {K:bc->V->ae->Prop}:¬bw.bad.wp P r h K:=by rintro ⟨v,ab,q,_⟩;cases q
theorem bw.zC {P:Program} {aq:Nat} {all:Array Oper} {o:Oper} {r:bc} {h:ae} {K:bc->V->ae->Prop} (H:(rD P aq all o).wp P r h K):
 ∃call v ab,(gq P call/\gJ P call)/\eI aq o.dst=true/\K (r.set o.dst v) v ab/\∀cP,dW cP=r->(cE P aq all o).run call cP h=.val v ab:=by
 unfold rD at H;cases ao:(eI aq o.dst&&iD (bY all o)) with
 | false=>rw [ao] at H;exact absurd H bw.Dt
 | true=>
   have aH:eI aq o.dst=true:=by simp only [apq] at ao;exact ao.1
   rw [ao] at H;simp only [apu] at H;cases aG:o.guard with
   | none=>
     rw [aG] at H;obtain ⟨call,v,ab,ak,al,aI⟩:=G.zC H;refine ⟨call,v,ab,ak,aH,aI,fun cP dN=>?_⟩;unfold cE;rw [ao];simp only [apu,aG,iI];refine UO ?_;rw [zy,dN];exact al
   | some nV=>
     obtain ⟨j,want⟩:=nV;rw [aG] at H;simp only at H;cases bp:all[j]? with
     | none=>rw [bp] at H;exact absurd H bw.Dt
     | some g=>
       rw [bp] at H;simp only at H;cases iA:g.dst with
       | none=>rw [iA] at H;exact absurd H bw.Dt
       | some d=>
         rw [iA] at H;simp only at H;cases ah:(Nat.blt d aq&&Nat.ble d top) with
         | false=>rw [ah] at H;exact absurd H bw.Dt
         | true=>
           rw [ah] at H;simp only [apu,bw.wp] at H;have key:cE P aq all o=⟨iI (some (oE (aw d),want)) (e' P o) (bY all o)⟩:=by unfold cE;rw [ao];simp only [apu,aG,bp,iA,ah]
           have A6:∀cP,dW cP=r->(oE (aw d)).run (dk cP (bY all o))=r.trim (bY all o) d:=by intro cP dN;rw [<-dN,<-zy];rfl
           cases bs:r.trim (bY all o) d<;>rw [bs] at H<;>simp only [gate] at H
           case bool b=>
            by_cases Ri:b=want
            . obtain ⟨call,v,ab,ak,al,aI⟩:=G.zC (H.1 Ri);refine ⟨call,v,ab,ak,aH,aI,fun cP dN=>?_⟩;rw [key];simp only [iI,A6 cP dN,bs];rw [show (bif want then b else !b)=true from by subst Ri;cases b<;>rfl];simp only [apu];refine UO ?_;rw [zy,dN];exact al
            . have Re:b=!want:=by cases b<;>cases want<;>simp_all
              refine ⟨ln,.tuple [],h,FB P,aH,H.2 Re,fun cP dN=>?_⟩;rw [key];simp only [iI,A6 cP dN,bs];rw [show (bif want then b else !b)=false from by subst Re;cases want<;>rfl];rfl
           case tuple ag=>
            refine ⟨ln,.tuple [],h,FB P,aH,H,fun cP dN=>?_⟩;rw [key];simp only [iI,A6 cP dN,bs]
def oc (P:Program):List bw->bc->ae->(bc->ae->Prop)->Prop
 | [],r,h,K=>K r h
 | o::os,r,h,K=>o.wp P r h fun a_ _ ab=>oc P os a_ ab K
structure fA where
 r:bc
 h:ae
 v:V
def kj (P:Program):List bw->bc->ae->(List fA->bc->ae->Prop)->Prop
 | [],r,h,K=>K [] r h
 | o::os,r,h,K=>o.wp P r h fun a_ v ab=>kj P os a_ ab fun es cZ av=>K (⟨r,h,v⟩::es) cZ av
def yl (es:List fA) (av:ae) (i:Nat):ae:=
 match es[i]? with
 | some e=>e.h
 | none=>av
def r8 (P:Program) (o:Option bw) (e:Option fA) (es:List fA) (av:ae):List Nat->Prop
 | []=>True
 | s::ca=>(match o,e with
   | some o,some e=>o.wp P e.r (yl es av s) fun _ cd _=>cd=e.v
   | _,_=>False)/\r8 P o e es av ca
def pt (P:Program) (ops:List bw) (es:List fA) (av:ae):List (Nat × List Nat)->Prop
 | []=>True
 | (p,ca)::rest=>r8 P ops[p]? es[p]? es av ca/\pt P ops es av rest
inductive a1 where
 | bad
 | skip
 | au (ops:List bw)
 | draw (ops:List bw) (asks:List (Nat × List Nat))
 | seq (a b:a1)
 | cond (c:aT) (a b:a1)
 | block (id:Nat) (b:a1)
 | loop (b:a1)
 | exit (id:Nat)
 | ret
 | range (f:aT) (bn:List Nat) (aq:Nat) (a b:a1)
def xL (P:Program) (ops:List Oper) (dT aD en:List Nat):Nat->List Oper->List (Nat × List Nat)
 | _,[]=>[]
 | i,o::os=>bif looks o.op&&!eN P o.op then
    (posOf aD i,en.filter (sV P dT ops aD i ((dT[i]?).getD 0)))::xL P ops dT aD en (i+1) os
   else xL P ops dT aD en (i+1) os
def F_ (P:Program) (aq:Nat) (ops:Array Oper) (order aD:List Nat):a1:=
 bif lp ops.size order aD&&vw P ops aD then
  .draw (zh P aq ops (hc ops order)) (bif r6 P ops.toList then xL P ops.toList (eE [] ops.toList) aD (hs P aD 0 ops.toList) 0 ops.toList else [])
 else .bad
def er (P:Program) (aq:Nat):Code->a1
 | .skip=>.skip
 | .label _=>.skip
 | .region _ ops draw=>bif draw then F_ P aq ops (uJ P ops) (y_ (uJ P ops) 0 ops.toList) else .au (zi P aq ops ops.toList)
 | .seq a b=>.seq (er P aq a) (er P aq b)
 | .cond c a b=>.cond (rx c) (er P aq a) (er P aq b)
 | .block id b=>.block id (er P aq b)
 | .loop b=>.loop (er P aq b)
 | .exit id=>.exit id
 | .ret=>.ret
 | .scope b=>er P aq b
 | .rangeFunc f bn a b=>bif s6 aq bn.toList&&(noMark a&&noMark b) then .range (rx f) bn.toList aq (er P aq a) (er P aq b) else .bad
 | _=>.bad
structure WE (P:Program) (l:Aa) (aq:Nat) (r:bc) (bn:List Nat) (UE ak0:a1):Prop where
 aV:l.aq=aq
 aC:dW l.r=r
 af:l.bn=bn
 bt:er P aq l.assign=UE
 ah:er P aq l.body=ak0
 mO:s6 aq bn=true
 aoB:noMark l.assign=true
 cn:noMark l.body=true
 out:Out aq r
def cO.andThen:cO->Prop->Prop->Prop
 | .normal,A,_=>A
 | _,_,B=>B
def cO.leave (id:Nat):cO->cO
 | .exit i=>if i=id then .normal else .exit i
 | e=>e
def e7 (P:Program):a1->bc->ae->(cO->bc->ae->Prop)->Prop
 | .bad,_,_,_=>False
 | .skip,r,h,Q=>Q .normal r h
 | .au ops,r,h,Q=>oc P ops r h (Q .normal)
 | .draw ops asks,r,h,Q=>kj P ops r h fun es cZ av=>pt P ops es av asks/\Q .normal cZ av
 | .seq a b,r,h,Q=>e7 P a r h fun e a_ ab=>e.andThen (e7 P b a_ ab Q) (Q e a_ ab)
 | .cond c a b,r,h,Q=>match c.aP r with
   | .bool t=>(t=true->e7 P a r h Q)/\(t=false->e7 P b r h Q)
   | _=>False
 | .block id b,r,h,Q=>e7 P b r h fun e a_ ab=>Q (e.leave id) a_ ab
 | .loop b,r,h,Q=>∃(I:bc->ae->Prop) (μ:bc->ae->Nat),I r h/\∀r h,I r h->e7 P b r h fun e a_ ab=>e.andThen (I a_ ab/\μ a_ ab<μ r h) (Q e a_ ab)
 | .exit id,r,h,Q=>Q (.exit id) r h
 | .ret,r,h,Q=>Q .ret r h
 | .range f bn aq a b,r,h,Q=>∃g cs,f.aP r=.func g cs/\g≠dr/\(∃fn,P.funcs[g]? =some fn/\fn.body.isSome=true)/\∀l,WE P l aq r bn a b->l.st=0->l.hd=none->
    c9 P g (.func dr [.ptr (aw (h.next+1)) 0]::cs) ((h.new .hj).new (.fi l)) fun _ ab=>
     ∃eS,ab.get (aw (h.next+1))=.fi eS/\eS.st≠1/\Q (eS.hd.getD .normal) (r.set (some ey) (.tuple (.ptr (aw h.next) 0::(r ey).list))) (ab.set (aw (h.next+1)) .dead)
def a1.plain:a1->Bool
 | .seq a b=>a.plain&&b.plain
 | .cond _ a b=>a.plain&&b.plain
 | .block _ b=>b.plain
 | .loop b=>b.plain
 | .range _ _ _ _ _=>false
 | _=>true
def CL (P:Program) (aq:Nat) (c:Code) (r:bc) (h:ae) (e:cO) (a_:bc) (ab:ae):Prop:=
 ∀(rd:Option Nat) (ay:Fr) E a w,(rd=none\/noMark c=true)->hg E aq r a->a8 ay E h w->∀Q:Exit->Act->World->Prop,
  (∀ar bl w',E.le ar->hg ar aq a_ bl->a8 ay ar ab w'->Q (toExit e) bl w')->CD rd P c Q a w
section
variable {P:Program} {aq:Nat}
theorem UP (P:Program) (aq:Nat) (all:Array Oper) (o:Oper):ql P aq all o=rD P aq all o\/∃op t x y u neg,o.op=.binOp op t x y u/\o.guard=none/\wY P op t=some neg/\eI aq o.dst=true/\iD (bY all o)=true/\ql P aq all o=⟨o.dst,.wV neg (rx x) (rx y),none,bY all o⟩:=by
 obtain ⟨dst,op,type,pos,after,guard⟩:=o;cases op<;>try (exact .inl rfl)
 rename_i op t x y u;cases guard with
 | some g=>exact .inl rfl
 | none=>
   simp only [ql];cases af:wY P op t with
   | none=>exact .inl rfl
   | some neg=>
     simp only;cases ao:(!((rx x).isNil||(rx y).isNil)&&(eI aq dst&&iD (bY all ⟨dst,.binOp op t x y u,type,pos,after,none⟩))) with
     | false=>exact .inl rfl
     | true=>
       simp only [apq] at ao;exact .inr ⟨op,t,x,y,u,neg,by first | rfl | trivial,by first | rfl | trivial,af,by first | exact ao.2.1 | trivial,by first | exact ao.2.2 | trivial,by first | rfl | trivial⟩
theorem bw.VT (bE:ec P) {all:Array Oper} {o:Oper} {i:Nat} (ax:all[i]? =some o) {r:bc} {h:ae} {K:bc->V->ae->Prop} (aU:Out aq r) (H:(ql P aq all o).wp P r h K):
 ∃v ab,eI aq o.dst=true/\K (r.set o.dst v) v ab/\∀(rd:Option Nat) (ay:Fr) E a w,hg E aq r a->a8 ay E h w->∀(Q:Exit->Act->World->Prop) (C:Act->World->Prop),
  (∀ar x w',E.le ar->Rel ar v x->a8 ay ar ab w'->C (a.put o.dst x) w')->wpOpIn (b4 rd) 0 P all Q i C a w:=by
 obtain ⟨cP,dN⟩:=x3 aU;rcases UP P aq all o with e | ⟨op,t,x,y,u,neg,aK,aS,bU,b9,dP,gV⟩
 . rw [e] at H;obtain ⟨call,v,aa,ao,aH,H1,cR⟩:=bw.zC H;refine ⟨v,aa,aH,H1,fun rd ay E a w k s Q C yd=>?_⟩;refine qO bE ao.1 ao.2 ax (cR cP dN) k.size (fun t aE=>?_) s yd;have:=congrFun dN t;simp only [dW] at this;rw [this];exact k.au t (rq (ap5 (apU.1 (ko (cR cP dN)).2 t aE)))
 . rw [gV] at H;simp only [bw.wp,G.wp,G.run] at H;obtain ⟨v,ab,bs,dE⟩:=H;unfold zc at bs;cases az:js h ((rx x).aP (r.trim (bY all o))) ((rx y).aP (r.trim (bY all o))) with
   | none=>rw [az] at bs;cases bs
   | some b=>
     rw [az] at bs;simp only [a7.of,a7.val.injEq] at bs;obtain ⟨rfl,rfl⟩:=bs;refine ⟨_,h,b9,dE,fun rd ay E a w k s Q C yd=>?_⟩
     have jK:RegRel0 E aq (dk cP (bY all o)) a:=⟨k.size,fun t aE=>by
      rw [GC dP aE];by_cases hm:t ∈ bY all o
      . rw [apz hm];have:=congrFun dN t;simp only [dW] at this;rw [this];exact k.au t (rq aE)
      . rw [apw hm];simp [Rel]⟩
     have ex:∀z:Operand,(bS z).run (dk cP (bY all o))=(rx z).aP (r.trim (bY all o)):=fun z=>by rw [eJ,zy,dN]
     rw [<-ex,<-ex] at az;obtain ⟨dst,aj7,type,pos,after,guard⟩:=o;subst aK aS;obtain ⟨Z,eP,cQ⟩:=Uk (P:=P) (iS:=x) (iT:=y) s bU az (dx jK x) (dx jK y);simp only [wpOpIn,ax,Region.wanted,ap3];exact fL rfl (c'.plain s eP cQ) fun ar v w' ak al aI=>yd ar _ w' ak al aI
theorem VY (bE:ec P) {all:Array Oper}:∀(l:List Oper) (i:Nat),(∀j,l[j]? =all[i+j]?)->∀(r:bc) (h:ae) (K:bc->ae->Prop),Out aq r->oc P (zi P aq all l) r h K->
 ∃a_ ab,K a_ ab/\(Out aq a_/\a_ ey=r ey)/\∀(rd:Option Nat) (ay:Fr) E a w,hg E aq r a->a8 ay E h w->∀Q:Exit->Act->World->Prop,
  (∀ar bl w',E.le ar->hg ar aq a_ bl->a8 ay ar ab w'->Q .normal bl w')->wpOpsIn (b4 rd) 0 P all Q (List.range' i l.length) a w
 | [],i,_,r,h,K,aU,H=>by refine ⟨r,h,H,⟨aU,rfl⟩,fun rd ay E a w k s Q cy=>?_⟩;simp only [ap_,List.range'_zero,wpOpsIn];exact cy E a w (Env.le.refl E) k s
 | o::os,i,aA,r,h,K,aU,H=>by
   have ax:all[i]? =some o:=by have:=aA 0;simpa using this.symm
   simp only [zi,oc] at H;obtain ⟨v,aa,aH,H1,cR⟩:=bw.VT bE ax aU H;obtain ⟨dc,ad,ak,al,aI⟩:=VY bE os (i+1) (fun j=>by have:=aA (j+1);simp only [aqr] at this;rw [this];congr 1;omega) _ aa K (aU.set aH v) H1;refine ⟨dc,ad,ak,⟨al.1,al.2.trans (Cs aH v)⟩,fun rd ay E a w k s Q cy=>?_⟩;rw [apB,List.range'_succ,wpOpsIn_cons];refine cR rd ay E a w k s _ _ fun ar x w' cc cx eF=>?_;exact aI rd ay ar _ w' (k.put cc aH cx) eF Q fun bA a2 bx bJ z2 z3=>cy bA a2 bx (cc.trans bJ) z2 z3
def toF (e:eK):fA:=⟨dW e.r,e.h,e.v⟩
theorem ady (es:List eK) (av:ae) (i:Nat):yl (es.map toF) av i=b' es av i:=by unfold yl b';rw [aqi];cases es[i]? <;>rfl
theorem VX {all:Array Oper}:∀(l:List Oper) (mF:bC) (h:ae) (K:List fA->bc->ae->Prop),kj P (zh P aq all l) (dW mF) h K->Out aq (dW mF)->
 ∃es oq av,K (es.map toF) (dW oq) av/\(Out aq (dW oq)/\dW oq ey=dW mF ey)/\es.length=l.length/\b' es av 0=h/\eb es oq 0=mF/\
  ∀j o,l[j]? =some o->∃e call,es[j]? =some e/\(gq P call/\gJ P call)/\(cE P aq all o).run call e.r e.h=.val e.v (b' es av (j+1))/\eb es oq (j+1)=(ft o.dst).run e.r e.v
 | [],mF,h,K,H,aU=>⟨[],mF,h,H,⟨aU,rfl⟩,rfl,rfl,rfl,fun j o bp=>by simp at bp⟩
 | o::os,mF,h,K,H,aU=>by
   simp only [zh,kj] at H;obtain ⟨call,v,aa,ao,aH,H1,cR⟩:=bw.zC H;rw [<-Ln] at H1;obtain ⟨es,oq,av,ak,al,aI,bB,cG,ef⟩:=VX os _ aa _ H1 (by rw [Ln];exact aU.set aH v);refine ⟨⟨mF,h,v⟩::es,oq,av,ak,⟨al.1,al.2.trans (by rw [Ln];exact Cs aH v)⟩,by simp [aI],by simp [b'],by simp [eb],fun j b2 bp=>?_⟩;cases j with
   | zero=>
     simp only [apK,aps] at bp;subst bp;exact ⟨⟨mF,h,v⟩,call,rfl,ao,by rw [yk,bB];exact cR mF rfl,by rw [zf,cG]⟩
   | succ j=>
     obtain ⟨e,c,cc,cx,eF,kd⟩:=ef j b2 (by simpa using bp);exact ⟨e,c,by simpa using cc,cx,by rw [yk];exact eF,by rw [zf];exact kd⟩
theorem No {o:Option bw} {e:Option fA} {es:List fA} {av:ae}:∀{ca:List Nat},r8 P o e es av ca->∀s ∈ ca,∃b2 cC,o=some b2/\e=some cC/\b2.wp P cC.r (yl es av s) fun _ cd _=>cd=cC.v
 | [],_,s,h=>by simp at h
 | fT::ca,H,s,hm=>by
   simp only [r8] at H;simp only [apJ] at hm;rcases hm with rfl | hm
   . cases o with
     | none=>exact H.1.elim
     | some o=>
       cases e with
       | none=>exact H.1.elim
       | some e=>exact ⟨o,e,rfl,rfl,H.1⟩
   . exact No H.2 s hm
theorem Nq {ops:List Oper} {dT aD en:List Nat} {gs:List bw} {es:List fA} {av:ae}:∀{l:List Oper} {i:Nat},pt P gs es av (xL P ops dT aD en i l)->∀j o,l[j]? =some o->looks o.op=true->eN P o.op=false->
 r8 P gs[posOf aD (i+j)]? es[posOf aD (i+j)]? es av (en.filter (sV P dT ops aD (i+j) ((dT[i+j]?).getD 0)))
 | [],i,_,j,o,h,_,_=>by simp at h
 | b2::os,i,H,j,o,h,aa,ad=>by
   simp only [xL] at H;cases j with
   | zero=>
     simp only [apK,aps] at h;subst h;rw [aa,ad] at H;simp only [Bool.not_false,aqt,apu,pt] at H;exact H.1
   | succ j=>
     have eg:pt P gs es av (xL P ops dT aD en (i+1) os):=by
      cases ao:(looks b2.op&&!eN P b2.op) with
      | true=>rw [ao] at H;simp only [apu,pt] at H;exact H.2
      | false=>rw [ao] at H;exact H
     have:=Nq eg j o (by simpa using h) aa ad;rw [show i+1+j=i + (j+1) from by omega] at this;exact this
theorem aaM (fb:aq<=top) (cJ:P.follows .mixedOrders=true) (bE:ec P) {id:Nat} {ops:Array Oper} {order aD:List Nat} {r:bc} {h:ae} {Q:cO->bc->ae->Prop} (aU:Out aq r)
 (H:e7 P (F_ P aq ops order aD) r h Q):∃a_ ab,Q .normal a_ ab/\(Out aq a_/\a_ ey=r ey)/\CL P aq (.region id ops true) r h .normal a_ ab:=by
 unfold F_ at H;cases av:(lp ops.size order aD&&vw P ops aD) with
 | false=>rw [av] at H;exact H.elim
 | true=>
   rw [av] at H;simp only [apu,e7] at H;simp only [apq] at av;obtain ⟨hp,gX⟩:=av;unfold lp at hp;simp only [apq,apV] at hp;obtain ⟨oQ,yr,Bi,Bj⟩:=hp;have h4:∀k,k<ops.size->posOf aD k<ops.size/\order[posOf aD k]? =some k:=by
    intro k aB;have aG:aD[k]? =some (posOf aD k):=by unfold posOf;rw [apr (by omega)];rfl
    have:=uN Bi aG;rw [apW] at this;exact ⟨by have:=(apN.1 this).1;omega,this⟩
   have lo:∀p,p<ops.size->∃i,i<ops.size/\posOf aD i=p:=by intro p af;have aG:order[p]? =some (order[p]'(by omega)):=apr (by omega);have:=uN Bj aG;rw [apW] at this;refine ⟨order[p]'(by omega),by have:=(apN.1 this).1;omega,?_⟩;unfold posOf;rw [this];rfl
   obtain ⟨mF,Ep⟩:=x3 aU;rw [<-Ep] at H aU;obtain ⟨es,oq,a',⟨AY,cy⟩,⟨pV,R4⟩,ak,al,aI,bB⟩:=VX _ mF h _ H aU;refine ⟨_,a',cy,⟨pV,by rw [<-Ep];exact R4⟩,fun rd ay E a w aC k s de IN=>?_⟩;have step:∀i:Nat,∃call,(gq P call/\gJ P call)/\∀o,ops[i]? =some o->∃e,es[posOf aD i]? =some e/\(cE P aq ops o).run call e.r e.h=.val e.v (b' es a' (posOf aD i+1))/\eb es oq (posOf aD i+1)=(ft o.dst).run e.r e.v:=by
    intro i;cases ax:ops[i]? with
    | none=>exact ⟨ln,FB P,fun o h=>by cases h⟩
    | some o=>
      obtain ⟨e,call,cc,cx,eF,kd⟩:=bB _ o (nf (h4 i (apt.1 ax).1).2 ax);exact ⟨call,cx,fun b2 gY=>by cases gY;exact ⟨e,cc,eF,kd⟩⟩
   obtain ⟨calls,yh⟩:=Classical.axiomOfChoice step;have tY:∀j o,ops[j]? =some o->looks o.op=true->eN P o.op=false->∃e,es[posOf aD j]? =some e/\∀s ∈ hs P aD 0 ops.toList,
    sV P (eE [] ops.toList) ops.toList aD j (((eE [] ops.toList)[j]?).getD 0) s=true->∃c ab,(gq P c/\gJ P c)/\(cE P aq ops o).run c e.r (b' es a' s)=.val e.v ab:=by
    intro j o q8 ep adD;have bp:=(apt.1 q8).1;obtain ⟨e,cc,cx,eF⟩:=(yh j).2 o q8;refine ⟨e,cc,fun s aZ hm=>?_⟩;cases aA:r6 P ops.toList with
    | true=>
      rw [aA] at AY;simp only [apu] at AY;have:=Nq AY j o (by simpa using q8) ep adD;rw [apW] at this;obtain ⟨b2,cC,bJ,z2,z3⟩:=No this s (arn.2 ⟨aZ,hm⟩);rw [UQ,aqi,nf (h4 j bp).2 q8] at bJ;simp only [aqV,aps] at bJ;rw [aqi,cc] at z2;simp only [aqV,aps] at z2;subst bJ;subst z2;rw [ady] at z3;obtain ⟨c,v,ab,dz,_,y3,y4⟩:=bw.zC z3;have V1:=y4 e.r rfl;rw [show v=e.v from y3] at V1;exact ⟨c,ab,dz,V1⟩
    | false=>
      have none:∀(l:List Oper),r6 P l=false->∀(j:Nat) (o:Oper),l[j]? =some o->eN P o.op=false:=by
       intro l
       induction l with
       | nil=>intro _ j o h;simp at h
       | cons x l bb=>
         intro h j o aU;simp only [r6,aq5] at h;cases j with
         | zero=>simp only [apK,aps] at aU;subst aU;exact h.1
         | succ j=>exact bb h.2 j o (by simpa using aU)
      have jn:s=ops.size:=by
       rcases uB aZ with h | ⟨Fc,b2,aa,ad,aJ⟩
       . simpa using h
       . have:=none _ aA Fc b2 aa;unfold dY at ad;rw [this] at ad;cases ad
      have flat:∀d,d<=ops.size->b' es a' d=b' es a' 0:=by
       intro d
       induction d with
       | zero=>intro _;rfl
       | succ d bb=>
         intro aH;obtain ⟨i,vX,nO⟩:=lo d (by omega);have cv:ops[i]? =some ops[i]:=apL vX;obtain ⟨aa5,bW,bx,_⟩:=(yh i).2 ops[i] cv;rw [nO] at bW bx;have c4:eN P ops[i].op=false:=none _ aA i _ (by simp);rw [(vv c4 bx).1,<-bb (by omega)];simp [b',bW]
      have RV:=(h4 j bp).1;have:e.h=b' es a' s:=by rw [jn,flat ops.size (apv _),<-flat (posOf aD j) (by omega)];simp [b',cc]
      rw [<-this];exact ⟨_,_,(yh j).1,cx⟩
   have hlen:es.length=ops.size:=by rw [ak,qb,oQ]
   have C:Cert P aq ops calls es mF h oq a' (hs P aD 0 ops.toList) order aD ops.size ops.size false:=
    ⟨hlen,apv _,apv _,h4,lo,al,aI,fun i o cv _=>(yh i).2 o cv,
      fun i o cv=>by
       obtain ⟨cN,bJ,z2,z3⟩:=PQ gX i o cv
       exact ⟨cN,bJ,z2,fun _ k ok aB _=>by
        obtain ⟨mk,dz,fo,y3⟩:=z3 k ok aB
        exact ⟨mk,dz,fo,fun aK aS bU=>.inl (y3 aK aS bU)⟩⟩,
      by simpa using Fi (P:=P) (aD:=aD) (l:=ops.toList) (i:=0),
      fun j o aa ad=>by simpa using yM (aD:=aD) (i:=0) (j:=j) (l:=ops.toList) (by simpa using aa) ad,
      fun s aZ=>by
       rcases uB aZ with h | ⟨j,o,aa,ad,aJ⟩
       . exact .inl (.inl (by simpa using h))
       . exact .inr ⟨j,o,by simpa using aa,ad,by simpa using aJ⟩,
      fun j o aa ad aJ _=>tY j o aa ad aJ,fun h=>absurd h (aqM _),fun h=>absurd h (aqM _)⟩
   have aB:RegRel0 E aq mF a:=⟨k.size,fun t aE=>by have:=congrFun Ep t;simp only [dW] at this;rw [this];exact k.au t (rq aE)⟩;have dp:∀k,¬(Array.replicate ops.size false).getD k false=true:=by
    intro k;rw [tT,Array.getElem?_replicate]
    split<;>simp
   have j4:Holds ay ay es a' aD (jW ops es a' aD (Array.replicate ops.size false) 0):=
    ⟨rfl,fun _ _=>rfl,fun k aB=>(by obtain ⟨_,_,_,_,aY⟩:=aB;omega),fun k br aB=>(by obtain ⟨_,_,_,_,aY⟩:=aB;omega)⟩
   obtain ⟨fT,dQ,g1,g2,g3,g4,g5,g6⟩:=C.advance ops.size 0 (by omega) (fun k o _ _ _=>dp k) ay j4 (E:=E) (w:={w with drawn:=w.drawn}) (by rw [al];exact s.same rfl rfl rfl rfl);have wi:dW oq ey=r ey:=by rw [<-Ep];exact R4
   have fin:∀ar bl w',E.le ar->RegRel0 ar aq oq bl->bl.defers=a.defers->a8 ay ar a' w'->de .normal bl w':=by
    intro ar bl w' bJ z2 ans z3;refine IN ar bl w' bJ ⟨z2.size,by rw [wi,ans];exact k.defers.mono bJ,fun t fz=>?_⟩ z3;by_cases aE:t<=top
    . exact z2.au t aE
    . have cq:=z2.size;rw [pV t (by omega) fz];simp [Rel]
   refine VU cJ (PS bE (fun i=>(yh i).1.1) (fun i=>(yh i).1.2) C (ga:=E) (D:=a.defers) (fun _=>fin)
    (fun _ _ _ _ _ _ _ h=>absurd h (aqM _)) (fun h=>absurd h (aqM _)) ops.size _ a _ ?_ ?_)
   . exact aqo arx (by simp)
   . refine ⟨by simp,aB.size,rfl,fun br aB=>absurd aB (dp br),fun br o e aB=>absurd aB (dp br),E,fT,dQ,Env.le.refl E,g1,g3,fun br o aa ad=>⟨fun h=>absurd h (dp br),fun h=>by have:=g4 br o aa ad (aqS _);omega⟩,
      fun br o _ _ h=>absurd h (dp br),g5,?_,fun t aE=>.inr ⟨fun br o aB=>absurd aB (dp br),aB.au t aE⟩⟩
     exact g6.same rfl rfl rfl rfl
theorem abw {rd:Option Nat} {e:cO} {Q:Exit->Act->World->Prop} {a:Act} {w:World} (h:Q (toExit e) a w):(Ir e).wpIn (b4 rd) 0 P Q a w:=by
 cases e with
 | normal=>exact wpIn_skip h
 | exit id=>exact wpIn_exit h
 | ret=>exact wpIn_ret h
theorem akZ (fb:aq<=top) (cJ:P.follows .mixedOrders=true) (bE:ec P) {f:Operand} {bn:Array Tmp} {x y:Code} {r:bc} {h:ae} {Q:cO->bc->ae->Prop} (aU:Out aq r)
 (H:e7 P (er P aq (.rangeFunc f bn x y)) r h Q):∃e a_ ab,Q e a_ ab/\(Out aq a_/\((er P aq (.rangeFunc f bn x y)).plain=true->a_ ey=r ey))/\CL P aq (.rangeFunc f bn x y) r h e a_ ab:=by
 simp only [er] at H ⊢;cases gX:(s6 aq bn.toList&&(noMark x&&noMark y)) with
 | false=>rw [gX] at H;exact H.elim
 | true=>
   rw [gX] at H;simp only [apu,e7] at H ⊢;simp only [apq] at gX;obtain ⟨g,cs,bs,aG,sx,H⟩:=H;obtain ⟨cP,dN⟩:=x3 aU;obtain ⟨v,ab,cb,eS,aK,aS,cy⟩:=H ⟨0,none,aw h.next,aq,cP,bn.toList,x,y⟩ ⟨rfl,dN,rfl,rfl,rfl,gX.1,gX.2.1,gX.2.2,aU⟩ rfl rfl;refine ⟨_,_,_,cy,⟨fun t aa ad=>by simp only [bc.set];rw [apw ad];exact aU t aa ad,fun z=>by cases z⟩,fun rd ay E a w aC k s de IN=>?_⟩;have aeA:rd=none:=aC.resolve_right (by simp [noMark]);subst aeA;have av:Rel E (.func g cs) (a.eval f):=by
    rw [<-bs];cases f with
    | tmp t=>
      simp only [rx];cases ah:Nat.ble t top with
      | false=>simp [aT.aP,Rel]
      | true=>
        simp only [apu,aT.aP];exact k.au t (rq (ap5 ah))
    | const v=>exact s0 E v
    | func f=>
      simp only [rx];cases ah:Nat.beq f dr with
      | true=>simp [aT.aP,Rel]
      | false=>
        simp only [apA,aT.aP,Rel];exact .inl ⟨fun e=>by subst e;simp at ah,_,rfl,by simp [bf]⟩
    | global g=>simp [rx,aT.aP,Rel]
   simp only [Rel] at av;rcases av with ⟨_,eG,dh,aA⟩ | ⟨Jc,_⟩
   case inr=>exact absurd Jc aG
   refine (wpIn_rangeFunc fun fn _=>?_:(Code.rangeFunc f bn x y).wpIn (b4 none) 0 P de a w);have f0:=s.fresh h.next (apv _)
   obtain ⟨gr,vI⟩:∃gr,gr=E.put (aw h.next) ⟨w.heap.size,0,0⟩:=⟨_,rfl⟩;obtain ⟨bW,p0⟩:∃bW:World,bW={w with heap:=w.heap.push (.deferred (some []))}:=⟨_,rfl⟩;have Bn:gr (aw h.next)=some ⟨w.heap.size,0,0⟩:=by rw [vI];unfold Env.put;rw [apz rfl]
   have s1:a8 ay gr (h.new .hj) bW:=by rw [vI,p0];refine s.alloc 0 ⟨⟨w.heap.size,0,0⟩,by unfold Env.put;rw [apz rfl],s.frame.size,by simp⟩
   have oY:E.le gr:=by rw [vI];exact Env.mm f0
   have wk:bW.heap.size=w.heap.size+1:=by rw [p0];simp
   obtain ⟨o,gY⟩:∃o:Loop,o={state:=.ready,pending:=none,fn,tmps:=a.tmps,params:=bn,assign:=x,body:=y,defers:=w.heap.size}:=⟨_,rfl⟩;obtain ⟨bA,k6⟩:∃bA,bA=gr.put (aw (h.next+1)) ⟨bW.heap.size,0,0⟩:=⟨_,rfl⟩;obtain ⟨bx,uo⟩:∃bx:World,bx={bW with heap:=bW.heap.push (.loop o)}:=⟨_,rfl⟩;have f1:gr (aw (h.next+1))=none:=s1.fresh (h.next+1) (apv _);have lK:gr.le bA:=by rw [k6];exact Env.mm f1
   have Bo:bA (aw (h.next+1))=some ⟨bW.heap.size,0,0⟩:=by rw [k6];unfold Env.put;rw [apz rfl]
   have fi:vd bA ⟨0,none,aw h.next,aq,cP,bn.toList,x,y⟩ o:=by subst gY;refine ⟨rfl,rfl,rfl,rfl,rfl,k.size,fun t aE=>?_,_,lK _ _ Bn,rfl⟩;have:=congrFun dN t;simp only [dW] at this;simp only [this];exact Rel.mono (oY.trans lK) _ _ (k.au t (rq aE))
   have s2:a8 ay bA ((h.new .hj).new (.fi ⟨0,none,aw h.next,aq,cP,bn.toList,x,y⟩)) bx:=by rw [k6,uo];refine s1.alloc 0 ⟨⟨bW.heap.size,0,0⟩,o,by show gr.put (aw (h.next+1)) _ (aw (h.next+1))=_;unfold Env.put;rw [apz rfl],by show ay.w.heap.size<=bW.heap.size;rw [wk];have:=s.frame.size;omega,by simp,?_⟩;have:=fi;rw [k6] at this;exact this
   obtain ⟨hL,pS⟩:∃hL,hL=bW.heap.size:=⟨_,rfl⟩;have a6:Rel bA (.func dr [.ptr (aw (h.next+1)) 0]) (.func (.yield hL) #[] #[]):=by simp only [Rel];exact .inr ⟨trivial,_,_,rfl,Bo,by rw [pS]⟩
   have nL:bf bA (.func dr [.ptr (aw (h.next+1)) 0]::cs) (.func (.yield hL) #[] #[]::eG.toList):=by simp only [bf];exact ⟨_,_,rfl,a6,bf.mono (oY.trans lK) _ _ aA⟩
   have ao:Calls P g (Value.func (Fn.yield hL) #[] #[]::eG.toList).toArray bx (rangePost (b4 none) 0 P hL de {a with defers:=[{target:=.collected w.heap.size,args:=#[]}]++a.defers}):=(cb.calls bE sx ay bA bx _ nL s2).mono fun e w' az=>by
    obtain ⟨ar,apk,rfl,ak,_,aI⟩:=az;simp only [rangePost];have db:=ak _ _ Bo;have ah:=aI.at db;rw [aK] at ah;obtain ⟨p',b2,gZ,cD,a',q'⟩:=ah;rw [db] at gZ;cases gZ;obtain ⟨t1,t2,t3,t4,t5,t6,t7,t8⟩:=q';simp only at a';rw [<-pS] at a';have Jz:(b2.state == LoopState.busy)=false:=by
     rw [t1]
     match j6:eS.st with
     | 0=>rfl
     | 1=>exact absurd j6 aS
     | n+2=>rfl
    have kE:=(apt.1 a').1
    let i':World:={w' with heap:=w'.heap.setIfInBounds hL (.loop {b2 with state:=.exhausted})}
    have fO:(Instr.endLoop hL).run P w'=.ok b2.pending i':=by
     have pZ:(setObj hL (.loop {b2 with state:=.exhausted})).run P w'=.ok () i':=by simp only [setObj,Sem.run,a'];rfl
     simp only [Instr.endLoop,Sem.run_bind,run_getLoop a',Result.andThen_ok,Jz,apH,ap9,pZ,Sem.run_pure]
    have n_:a8 ay ar (ab.set (aw (h.next+1)) .dead) i':=by refine aI.gone (p:=⟨bW.heap.size,0,0⟩) (by rw [aK];rfl) db cD (by simp [i']) (fun j bp=>?_) rfl rfl rfl;simp only at bp;simp only [i',apI];rw [apw (fun e=>bp (by rw [<-e,pS]))]
    have hH:hg ar aq (r.set (some ey) (.tuple (.ptr (aw h.next) 0::(r ey).list))) {a with defers:=[{target:=.collected w.heap.size,args:=#[]}]++a.defers}:=by
     refine ⟨k.size,?_,fun t aE=>?_⟩
     . simp only [bc.set,ap3,lz,ns,apS,aqk];exact ⟨_,_,rfl,⟨_,ak _ _ (lK _ _ Bn),rfl⟩,(k.defers.mono (oY.trans (lK.trans ak))).list⟩
     . simp only [bc.set];rw [apw aE];exact Rel.mono (oY.trans (lK.trans ak)) _ _ (k.au t aE)
    refine ⟨b2.pending,i',fO,?_⟩;rw [t2];have fin:=IN ar _ i' (oY.trans (lK.trans ak)) hH n_;cases j8:eS.hd with
    | none=>rw [j8] at fin;exact fin
    | some e=>rw [j8] at fin;exact abw fin
   obtain ⟨Eg,adN,sx⟩:=sx;refine ⟨hL,[{target:=.collected w.heap.size,args:=#[]}],bx,{target:=.fn (.func g) eG,args:=#[]++#[.func (.yield hL) #[] #[]]},bx,g,_,bx,?_,?_,fun _ _=>trivial,?_,fun h=>by simp at h,sf.2 ao⟩
   . subst gY uo p0;have he:=run_enterLoop_outer (P:=P) (w:=w) fn a.tmps bn x y;rw [World.alloc,World.alloc] at he;simp only [Array.size_push] at pS ⊢;rw [pS];exact he
   . simp only [resolve,dh,Deferred.ofValue,Sem.run_pure];simp [Act.eval]
   . simp only [invoke];have e:(#[]++#[Value.func (.yield hL) #[] #[]]:Array Value)++eG=(Value.func (.yield hL) #[] #[]::eG.toList).toArray:=by apply aq9;simp
     rw [e];exact uV bE adN sx _ bx
theorem VV (fb:aq<=top) (cJ:P.follows .mixedOrders=true) (bE:ec P):∀(c:Code) (r:bc) (h:ae) (Q:cO->bc->ae->Prop),Out aq r->e7 P (er P aq c) r h Q->
 ∃e a_ ab,Q e a_ ab/\(Out aq a_/\((er P aq c).plain=true->a_ ey=r ey))/\CL P aq c r h e a_ ab:=by
 intro c
 induction c with
 | skip=>
   intro r h Q aU H;exact ⟨.normal,r,h,H,⟨aU,fun _=>rfl⟩,fun rd ay E a w aC k s de cy=>wpIn_skip (cy E a w (Env.le.refl E) k s)⟩
 | label l=>
   intro r h Q aU H;exact ⟨.normal,r,h,H,⟨aU,fun _=>rfl⟩,fun rd ay E a w aC k s de cy=>wpIn_label (cy E a w (Env.le.refl E) k s)⟩
 | exit id=>
   intro r h Q aU H;exact ⟨.exit id,r,h,H,⟨aU,fun _=>rfl⟩,fun rd ay E a w aC k s de cy=>wpIn_exit (cy E a w (Env.le.refl E) k s)⟩
 | ret=>
   intro r h Q aU H;exact ⟨.ret,r,h,H,⟨aU,fun _=>rfl⟩,fun rd ay E a w aC k s de cy=>wpIn_ret (cy E a w (Env.le.refl E) k s)⟩
 | region id ops draw=>
   intro r h Q aU H;cases draw with
   | true=>
     simp only [er,apu] at H;obtain ⟨a_,ab,ak,al,aI⟩:=aaM fb cJ bE (id:=id) aU H;exact ⟨.normal,a_,ab,ak,⟨al.1,fun _=>al.2⟩,aI⟩
   | false=>
     simp only [er,apA,e7] at H;obtain ⟨a_,ab,ak,al,aI⟩:=VY bE ops.toList 0 (fun j=>by simp) r h _ aU H;refine ⟨.normal,a_,ab,ak,⟨al.1,fun _=>al.2⟩,fun rd ay E a w aC k s de cy=>?_⟩;refine wpIn_region ?_;have:=aI rd ay E a w k s de cy;rw [List.range_eq_range'];simpa using this
 | seq x y p2 p3=>
   intro r h Q aU H;simp only [er,e7] at H;obtain ⟨e,bM,aa,ak,al,aI⟩:=p2 r h _ aU H;cases e with
   | normal=>
     obtain ⟨e,dc,ad,cc,cx,eF⟩:=p3 bM aa Q al.1 ak;refine ⟨e,dc,ad,cc,⟨cx.1,fun z=>by simp only [er,a1.plain,apq] at z;exact (cx.2 z.2).trans (al.2 z.1)⟩,fun rd ay E a w aC k s de cy=>?_⟩;refine wpIn_seq (aI rd ay E a w (aC.imp (fun h=>h) fun h=>by simp only [noMark,apq] at h;exact h.1) k s _ fun ar bl w' bJ z2 z3=>?_).wp;exact (eF rd ay ar bl w' (aC.imp (fun h=>h) fun h=>by simp only [noMark,apq] at h;exact h.2) z2 z3 de fun bA a2 bx dz fo y3=>cy bA a2 bx (bJ.trans dz) fo y3).wp
   | exit i=>
     refine ⟨.exit i,bM,aa,ak,⟨al.1,fun z=>by simp only [er,a1.plain,apq] at z;exact al.2 z.1⟩,fun rd ay E a w aC k s de cy=>?_⟩;refine wpIn_seq (aI rd ay E a w (aC.imp (fun h=>h) fun h=>by simp only [noMark,apq] at h;exact h.1) k s _ fun ar bl w' bJ z2 z3=>?_).wp;exact cy ar bl w' bJ z2 z3
   | ret=>
     refine ⟨.ret,bM,aa,ak,⟨al.1,fun z=>by simp only [er,a1.plain,apq] at z;exact al.2 z.1⟩,fun rd ay E a w aC k s de cy=>?_⟩;refine wpIn_seq (aI rd ay E a w (aC.imp (fun h=>h) fun h=>by simp only [noMark,apq] at h;exact h.1) k s _ fun ar bl w' bJ z2 z3=>?_).wp;exact cy ar bl w' bJ z2 z3
 | cond c x y p2 p3=>
   intro r h Q aU H;simp only [er,e7] at H;cases bs:(rx c).aP r<;>rw [bs] at H<;>simp only at H<;>try (exact H.elim)
   rename_i t;have ao:∀E a,hg E aq r a->a.eval c=.bool t:=by
    intro E a k;cases c with
    | tmp d=>
      simp only [rx] at bs;cases ah:Nat.ble d top with
      | false=>rw [ah] at bs;simp [aT.aP] at bs
      | true=>
        rw [ah] at bs;simp only [apu,aT.aP] at bs;have:=k.au d (rq (ap5 ah));rw [bs] at this;simp only [Rel] at this;exact this
    | const v=>
      simp only [rx,aT.aP] at bs;have:=s0 E v;rw [bs] at this;simp only [Rel] at this;exact this
    | func f=>
      simp only [rx] at bs;cases ah:Nat.beq f dr<;>rw [ah] at bs<;>simp [aT.aP] at bs
    | global g=>simp [rx,aT.aP] at bs
   cases t with
   | true=>
     obtain ⟨e,bM,aa,ak,al,aI⟩:=p2 r h Q aU (H.1 rfl);exact ⟨e,bM,aa,ak,⟨al.1,fun z=>by simp only [er,a1.plain,apq] at z;exact al.2 z.1⟩,fun rd ay E a w aC k s de cy=>wpIn_cond_true (ao E a k) (aI rd ay E a w (aC.imp (fun h=>h) fun h=>by simp only [noMark,apq] at h;exact h.1) k s de cy).wp⟩
   | false=>
     obtain ⟨e,bM,aa,ak,al,aI⟩:=p3 r h Q aU (H.2 rfl);exact ⟨e,bM,aa,ak,⟨al.1,fun z=>by simp only [er,a1.plain,apq] at z;exact al.2 z.2⟩,fun rd ay E a w aC k s de cy=>wpIn_cond_false (ao E a k) (aI rd ay E a w (aC.imp (fun h=>h) fun h=>by simp only [noMark,apq] at h;exact h.2) k s de cy).wp⟩
 | block id x bb=>
   intro r h Q aU H;simp only [er,e7] at H;obtain ⟨e,bM,aa,ak,al,aI⟩:=bb r h _ aU H;refine ⟨e.leave id,bM,aa,ak,al,fun rd ay E a w aC k s de cy=>?_⟩;refine wpIn_block (aI rd ay E a w (aC.imp (fun h=>h) fun h=>h) k s _ fun ar bl w' bJ z2 z3=>?_).wp;cases e with
   | normal=>exact cy ar bl w' bJ z2 z3
   | ret=>exact cy ar bl w' bJ z2 z3
   | exit i=>
     have:=cy ar bl w' bJ z2 z3;simp only [toExit,Exit.inBlock];simp only [cO.leave] at this;by_cases ax:i=id
     . rw [apz ax] at this ⊢;exact this
     . rw [apw ax] at this ⊢;exact this
 | loop x bb=>
   intro r h Q aU H;simp only [er,e7] at H;obtain ⟨I,μ,nK,JT⟩:=H;have key:∀n r h,μ r h=n->I r h->Out aq r->∃e a_ ab,Q e a_ ab/\(Out aq a_/\((er P aq (.loop x)).plain=true->a_ ey=r ey))/\CL P aq (.loop x) r h e a_ ab:=by
    intro n
    induction n using Nat.strongRecOn with
    | _ n J_=>
      intro r h aV nK aU;obtain ⟨e,bM,aa,ak,al,aI⟩:=bb r h _ aU (JT r h nK);have body:∀(rd:Option Nat) (ay:Fr) E a w,(rd=none\/noMark x=true)->hg E aq r a->a8 ay E h w->∀(b:Frame) (cT:List Item) (cs:List Frame),b.roundOf=rd->∃bl w' ar,E.le ar/\hg ar aq bM bl/\a8 ay ar aa w'/\ArrivesIn (Machine.fenced P (b4 rd)) P (lone (b.atR a (.code x::.inLoop x::cT)) cs w) b (.inLoop x::cT) cs (toExit e) bl w':=by intro rd ay E a w aC k s b cT cs j9;have:=(aI rd ay E a w aC k s (fun cC bl w'=>cC=toExit e/\∃ar,E.le ar/\hg ar aq bM bl/\a8 ay ar aa w') (fun ar bl w' ak al aI=>⟨rfl,ar,ak,al,aI⟩)).wp b (.inLoop x::cT) cs j9 trivial (Ge _);obtain ⟨aS,a2,bx,⟨rfl,bA,bJ,z2,z3⟩,ib⟩:=this;exact ⟨a2,bx,bA,bJ,z2,z3,ib⟩
      cases e with
      | normal=>
        obtain ⟨IJ,aR⟩:=ak;obtain ⟨aS,dc,ad,cc,cx,eF⟩:=J_ (μ bM aa) (aV ▸ aR) bM aa rfl IJ al.1;refine ⟨aS,dc,ad,cc,⟨cx.1,fun z=>(cx.2 z).trans (al.2 z)⟩,fun rd ay E a w aC k s de cy b cT cs j9=>?_⟩;obtain ⟨a2,bx,bA,bJ,z2,z3,ib⟩:=body rd ay E a w (aC.imp (fun h=>h) fun h=>h) k s b cT cs j9;obtain ⟨bU,a3,np,dz,fo⟩:=eF rd ay bA a2 bx aC z2 z3 de (fun u9 a4 i' t1 t2 t3=>cy u9 a4 i' (bJ.trans t1) t2 t3) b cT cs j9;exact ⟨bU,a3,np,dz,.of_steps (StepsIn.trans ib (.one (pH _) stepR_inLoop)) fo⟩
      | exit i=>
        refine ⟨.exit i,bM,aa,ak,al,fun rd ay E a w aC k s de cy b cT cs j9=>?_⟩;obtain ⟨a2,bx,bA,bJ,z2,z3,ib⟩:=body rd ay E a w (aC.imp (fun h=>h) fun h=>h) k s b cT cs j9;exact ⟨.exit i,a2,bx,cy bA a2 bx bJ z2 z3,.pass (x:=.inLoop x) rfl (fun _ _=>.inl (by simp)) ib⟩
      | ret=>
        refine ⟨.ret,bM,aa,ak,al,fun rd ay E a w aC k s de cy b cT cs j9=>?_⟩;obtain ⟨a2,bx,bA,bJ,z2,z3,ib⟩:=body rd ay E a w (aC.imp (fun h=>h) fun h=>h) k s b cT cs j9;exact ⟨.ret,a2,bx,cy bA a2 bx bJ z2 z3,.pass (x:=.inLoop x) rfl (fun _ _=>.inl (by simp)) ib⟩
   exact key _ r h rfl nK aU
 | scope x bb=>
   intro r h Q aU H;obtain ⟨e,bM,aa,ak,al,aI⟩:=bb r h Q aU H;refine ⟨e,bM,aa,ak,al,fun rd ay E a w aC k s de cy=>?_⟩;refine LK (aI rd ay E a w (aC.imp (fun h=>h) fun h=>h) k s _ fun ar bl w' bJ z2 z3=>?_).wp;have:=cy ar bl w' bJ z2 z3;cases e<;>exact this
 | rangeFunc f bn x y _ _=>intro r h Q aU H;exact akZ fb cJ bE aU H
 | goto l=>intro r h Q aU H;exact H.elim
 | refuse VS=>intro r h Q aU H;exact H.elim
inductive tF where
 | t (n:Nat)
 | bK (n:Nat)
 | nE (n size:Nat)
 | bad
def n' (P:Program) (aq:Nat):List ResultVar->List tF
 | []=>[]
 | .tmp t::rs=>(bif Nat.ble t top&&Nat.blt t aq then .t t else .bad)::n' P aq rs
 | .cell a t::rs=>(bif Nat.ble a top&&Nat.blt a aq then (match ba P t with
   | none=>.bad
   | some aO=>bif aO.agg then .nE a aO.size else bif Nat.beq aO.size 1 then .bK a else .bad) else .bad)::n' P aq rs
def k4 (r:bc) (h:ae):List tF->Option (List V)
 | []=>some []
 | x::xs=>match (match x with
   | .t n=>some (r n)
   | .bK n=>nb h (r n)
   | .nE n size=>na size h (r n)
   | .bad=>none) with
   | none=>none
   | some v=>match k4 r h xs with
     | none=>none
     | some ag=>some (v::ag)
theorem AL {r:bc} {h:ae} {cP:bC} (dN:dW cP=r):∀{l:List ResultVar} {ag:List V},k4 r h (n' P aq l)=some ag->(kR P aq l).run cP h=some ag
 | [],ag,he=>by simpa [k4,n',kR] using he
 | .tmp t::rs,ag,he=>by
   simp only [n',k4] at he;unfold kR;cases ao:(Nat.ble t top&&Nat.blt t aq) with
   | false=>rw [ao] at he;simp at he
   | true=>
     rw [ao] at he;simp only [apu] at he ⊢;cases aC:k4 r h (n' P aq rs) with
     | none=>rw [aC] at he;cases he
     | some xe=>
       rw [aC] at he;rw [AL dN aC];have:=congrFun dN t;simp only [dW] at this;rw [this];exact he
 | .cell a t::rs,ag,he=>by
   simp only [n',k4] at he;unfold kR;cases ao:(Nat.ble a top&&Nat.blt a aq) with
   | false=>rw [ao] at he;simp at he
   | true=>
     rw [ao] at he;simp only [apu] at he ⊢;have R0:=congrFun dN a;simp only [dW] at R0;rw [R0];unfold p_;cases aE:ba P t with
     | none=>rw [aE] at he;simp at he
     | some aO=>
       rw [aE] at he;simp only at he ⊢;cases Rc:aO.agg with
       | true=>
         rw [Rc] at he;simp only [apu] at he ⊢;cases aA:na aO.size h (r a) with
         | none=>rw [aA] at he;cases he
         | some v=>
           rw [aA] at he;simp only at he ⊢;cases aC:k4 r h (n' P aq rs) with
           | none=>rw [aC] at he;cases he
           | some xe=>rw [aC] at he;rw [AL dN aC];exact he
       | false=>
         rw [Rc] at he;simp only [apA] at he ⊢;cases aZ:Nat.beq aO.size 1 with
         | false=>rw [aZ] at he;simp at he
         | true=>
           rw [aZ] at he;simp only [apu] at he ⊢;cases aA:nb h (r a) with
           | none=>rw [aA] at he;cases he
           | some v=>
             rw [aA] at he;simp only at he ⊢;cases aC:k4 r h (n' P aq rs) with
             | none=>rw [aC] at he;cases he
             | some xe=>rw [aC] at he;rw [AL dN aC];exact he
theorem wR:∀(l:List V) (t:Nat),bc.bQ l t=(l[t]?).getD .bad
 | [],t=>by simp [bc.bQ]
 | v::ag,t=>by
   simp only [bc.bQ];cases t with
   | zero=>simp
   | succ t=>simp [wR ag t]
def cO.ends:cO->Prop
 | .exit _=>False
 | _=>True
def BN:List V->ae->Option ae
 | [],h=>some h
 | .ptr b _::ds,h=>(match h.get b with
   | .hj=>BN ds (h.set b .dead)
   | _=>none)
 | _::_,_=>none
theorem SV {kn:u7}:∀{ds:List V} {h ad:ae},BN ds h=some ad->mn kn ds none h=.go none ad
 | [],h,ad,e=>by simp only [BN,aps] at e;subst e;rfl
 | d::ds,h,ad,e=>by
   cases d<;>simp only [BN] at e<;>try (cases e;done)
   rename_i b o;simp only [mn];cases aG:h.get b<;>rw [aG] at e<;>simp only at e<;>try (cases e;done)
   exact SV e
theorem aam (cJ:P.follows .mixedOrders=true) (bE:ec P) {f:FuncId} {fn:Func} {c:Code} {args:List V} {h:ae} {K:V->ae->Prop} (av:P.funcs[f]? =some fn) (ah:fn.body=some c)
 (fb:Nat.ble fn.ntmps top=true) (a6:Nat.beq f dr=false) (ku:Nat.ble args.length fn.ntmps=true) {rc:a1} {et:List tF} (Bp:er P fn.ntmps c=rc) (wg:n' P fn.ntmps fn.results.toList=et) {Q:cO->bc->ae->Prop} (H:e7 P rc (bc.bQ args) h Q)
 (cy:∀e r ab,(rc.plain=true->r ey=.bad)->Q e r ab->e.ends/\∃ad,BN (r ey).list ab=some ad/\∃ag,k4 r ad et=some ag/\K (oneOf ag) ad):c9 P f args h K:=by
 subst Bp wg;rw [apE] at fb ku;have aU:Out fn.ntmps (bc.bQ args):=by intro t aE _;rw [wR,apT (by omega)];rfl
 have uk:(bc.bQ args) ey=.bad:=by rw [wR,apT (by unfold ey;unfold top at fb;omega)];rfl
 obtain ⟨e,a_,ab,az,pV,IX⟩:=VV fb cJ bE c _ h _ aU H;obtain ⟨fO,ad,ad5,ag,aeZ,dE⟩:=cy e a_ ab (fun z=>(pV.2 z).trans uk) az;have hG:f≠dr:=fun e=>by subst e;simp at a6
 refine ⟨oneOf ag,ad,⟨hG,.inl ⟨⟨fn,av,by rw [ah];rfl⟩,fun ay E w xs aj s=>?_⟩⟩,dE⟩;have hlen:=aj.length;have cq:xs.toArray.size<=fn.ntmps:=by simp;omega
 refine sf.1 (callsIn_of_wp_marks (F:=b4 none) (n:=0) av ah trivial ?_);have k:hg E fn.ntmps (bc.bQ args) {tmps:=xs.toArray++Array.replicate (fn.ntmps-xs.toArray.size) undef,defers:=[]}:=by
  refine ⟨by simp;omega,by rw [uk];simp [lz],fun t _=>?_⟩;rw [wR];cases aG:args[t]? with
  | none=>simp [Rel]
  | some v=>
    obtain ⟨y,a6,aC⟩:=aj.get t v aG;simp only [apX];have rh:t<xs.length:=(apN.1 a6).1;rw [apQ,arb (by simpa using rh)];simp only [List.getElem?_toArray,a6,apX];exact aC
 have ky:zO P (fun _ _ _ _=>.fail):=fun f args u h fu ab he=>by cases he
 have fin:∀ar bl w',E.le ar->hg ar fn.ntmps a_ bl->a8 ay ar ab w'->LeavesInM (b4 none) 0 P fn bl.tmps (fun e w'=>∃ar x,e=.returned x/\E.le ar/\Rel ar (oneOf ag) x/\a8 ay ar ad w') bl.defers .returning w':=by
  intro ar bl w' ak al aI;obtain ⟨cP,dN⟩:=x3 pV.1;have aH:T.get .bad eH cP=a_ ey:=by have:=congrFun dN ey;simp only [dW] at this;exact this
  have aB:e8 ar fn.ntmps cP bl:=⟨⟨al.size,fun t aE=>by
   have:=congrFun dN t;simp only [dW] at this;rw [this]
   exact al.au t (rq aE)⟩,by rw [aH];exact al.defers⟩
  refine D6 (C:=⟨P,fun _=>none,fun _=>none⟩) (u:=none) bE ky aB rfl aI ?_;rw [aH,SV ad5];simp only [finish];rw [AL dN aeZ];exact fun bA x bx cc cx eF=>⟨bA,x,rfl,ak.trans cc,cx,eF⟩
 refine (IX none ay E _ w (.inl rfl) k s _ fun ar bl w' ak al aI=>?_).wp;have:=fin ar bl w' ak al aI;cases e with
 | normal=>exact this
 | ret=>exact this
 | exit i=>exact fO.elim
theorem aan (cJ:P.follows .mixedOrders=true) (bE:ec P) {f:FuncId} {fn:Func} {c:Code} {args:List V} {h:ae} {K:V->ae->Prop} (av:P.funcs[f]? =some fn) (ah:fn.body=some c)
 (fb:Nat.ble fn.ntmps top=true) (a6:Nat.beq f dr=false) (ku:Nat.ble args.length fn.ntmps=true) {rc:a1} {et:List tF} (Bp:er P fn.ntmps c=rc) (wg:n' P fn.ntmps fn.results.toList=et) (db:rc.plain=true)
 (H:e7 P rc (bc.bQ args) h fun e r ab=>e.ends/\∃ag,k4 r ab et=some ag/\K (oneOf ag) ab):c9 P f args h K:=by
 refine aam cJ bE av ah fb a6 ku Bp wg H fun e r ab aZ ⟨aa,ag,ad,aJ⟩=>⟨aa,ab,?_,ag,ad,aJ⟩;rw [aZ db];rfl
end
end
section
open Go Go.RowKit
variable [Lay]
theorem mr (i j:Nat):(aw i=aw j)=(i=j):=by apply propext;exact ⟨hN,fun h=>by rw [h]⟩
theorem akJ (ag:List V):∀(i off:Nat) (x:V) (t:T V),i<off->T.put .bad x (aw i) (fF t off ag)=fF (T.put .bad x (aw i) t) off ag:=by
 induction ag with
 | nil=>intro i off x t _;rfl
 | cons v ag bb=>
   intro i off x t h;simp only [fF];rw [bb i (off+1) x _ (by omega),T.put_comm _ _ _ _ _ _ (fun e=>by rw [mr] at e;omega)]
def hP (ag:List V) (off:Nat) (ws:List V):List V:=ag.take off++ws++ag.drop (off+ws.length)
theorem Uu:∀(ag:List V) (base i:Nat) (x:V) (t:T V),i<ag.length->T.put .bad x (aw (base+i)) (fF t base ag)=fF t base (ag.set i x)
 | [],_,i,_,_,h=>by simp at h
 | v::ag,base,i,x,t,h=>by
   cases i with
   | zero=>
     simp only [fF,aqC,List.set];rw [akJ ag base (base+1) x _ (by omega),T.Us]
   | succ i=>
     simp only [fF,List.set];have:=Uu ag (base+1) i x (T.put .bad v (aw base) t) (by simpa using h);rw [show base + (i+1)=base+1+i from by omega];exact this
theorem U3 (ag:List V) (off:Nat) (w:V) (ws:List V) (h:off<ag.length):hP (ag.set off w) (off+1) ws=hP ag off (w::ws):=by
 unfold hP;have aa:(ag.set off w).take (off+1)=ag.take off++[w]:=by rw [aqd (by simpa using h)];simp [List.take_set_of_le]
 have ad:(ag.set off w).drop (off+1+ws.length)=ag.drop (off + (w::ws).length):=by rw [List.drop_set_of_lt (by omega)];congr 1;simp;omega
 rw [aa,ad];simp
theorem Gv (ag:List V) (off:Nat) (ws:List V) (h:off+ws.length<=ag.length):(hP ag off ws).length=ag.length:=by unfold hP;simp;omega
theorem FV:∀(ws ag:List V) (off:Nat),off+ws.length<=ag.length->fF (fF .e 0 ag) off ws=fF .e 0 (hP ag off ws)
 | [],ag,off,h=>by simp [fF,hP]
 | w::ws,ag,off,h=>by simp only [apB] at h;simp only [fF];have aa:=Uu ag 0 off w .e (by omega);rw [apW] at aa;rw [aa,FV ws (ag.set off w) (off+1) (by simp;omega),U3 ag off w ws (by omega)]
theorem Ec (ag:List V):∀(off i:Nat) (t:T V),T.get .bad (aw (off+i)) (fF t off ag)=if i<ag.length then (ag[i]?).getD .bad else T.get .bad (aw (off+i)) t:=by
 induction ag with
 | nil=>intro off i t;simp [fF]
 | cons v ag bb=>
   intro off i t;simp only [fF];cases i with
   | zero=>
     have:∀(ws:List V) (o:Nat) (s:T V),off<o->T.get .bad (aw off) (fF s o ws)=T.get .bad (aw off) s:=by
      intro ws
      induction ws with
      | nil=>intro o s _;rfl
      | cons w ws afk=>
        intro o s aU;simp only [fF];rw [afk (o+1) _ (by omega),T.hW,apw (fun e=>by rw [mr] at e;omega)]
     rw [aqC,this ag (off+1) _ (by omega),T.hW];simp
   | succ i=>
     have:=bb (off+1) i (T.put .bad v (aw off) t);rw [show off+1+i=off + (i+1) from by omega] at this;rw [this,T.hW];have c4:¬aw off=aw (off + (i+1)):=fun e=>by rw [mr] at e;omega
     rw [apw c4];simp
theorem Ee (ag:List V):∀(n i:Nat),i+n<=ag.length->hn (fF .e 0 ag) i n=(ag.drop i).take n
 | 0,i,h=>by simp [hn]
 | n+1,i,h=>by simp only [hn];have aa:=Ec ag 0 i .e;rw [apW] at aa;rw [aa,apz (by omega),Ee ag n (i+1) (by omega)];have aH:ag.drop i=ag[i]::ag.drop (i+1):=ap0 (by omega);rw [aH,aqY];simp [apr (by omega:i<ag.length)]
def b1.bQ (ag:List V) (cH:Nat) (st:Bool):b1:=.cells ag.length (fF .e 0 ag) cH st
def b1.ro (ag:List V):b1:=.view ag.length (fF .e 0 ag)
def mE (h:ae) (b:aL) (ag:List V):Prop:=h.get b=.ro ag\/∃cH st,h.get b=.bQ ag cH st
def Own (h:ae) (b:aL) (ag:List V) (cH:Nat) (st:Bool):Prop:=h.get b=.bQ ag cH st
theorem mE.o8 {α:Type} {h:ae} {b:aL} {ag:List V} (H:mE h b ag) (d:α) (f:Nat->T V->α):(h.get b).o8 d f=f ag.length (fF .e 0 ag):=by rcases H with H | ⟨_,_,H⟩<;>rw [H]<;>rfl
theorem Own.lay {h:ae} {b:aL} {ag:List V} {cH:Nat} {st:Bool} (H:Own h b ag cH st) {off:Nat} {ws:List V} (aU:off+ws.length<=ag.length) (aa:eY ws=true):
 lay h b off ws=some (h.set b (.bQ (hP ag off ws) cH st)):=by
 unfold aX.lay;rw [show h.get b=.cells ag.length (fF .e 0 ag) cH st from H];simp only [b1.on];rw [show Nat.ble (off+ws.length) ag.length=true from by rw [apE];exact aU,aa];simp only [aqt,apu,aps,b1.bQ];rw [Gv ag off ws aU,FV ws ag off aU]
theorem Tu {h:ae} {ag:List V} (aA:ag.length<=top):fR h ag=some (h.new (.bQ ag 0 false)):=by unfold fR;rw [show Nat.ble ag.length top=true from by rw [apE];exact aA];rfl
theorem B2 {h:ae} {ag:List V} {cH:Nat} {st:Bool} (aA:ag.length<=top) (he:1<=cH):ll h ag cH st=some (h.new (.bQ ag cH st)):=by unfold ll;rw [show Nat.ble ag.length top=true from by rw [apE];exact aA,show Nat.ble 1 cH=true from by rw [apE];exact he];rfl
theorem f_ (h:ae) (k:b1):(h.new k).next=h.next+1:=rfl
theorem nd (h:ae) (b:aL) (k:b1):(h.set b k).next=h.next:=rfl
section
variable {P:Program} {r:bc} {h:ae}
theorem alG (r:bc) (d:Nat) (v:V) (t:Nat):bc.set r (some d) v t=if t=d then v else r t:=(rfl)
theorem alH (r:bc) (v:V):bc.set r none v=r:=(rfl)
theorem amH (r:bc) (u:Nat) (us:List Nat) (t:Nat):bc.trim r (u::us) t=if t=u then r t else bc.trim r us t:=(rfl)
theorem ajC (v:V) (ag:List V):bc.bQ (v::ag) 0=v:=(rfl)
theorem ajD (v:V) (ag:List V) (t:Nat):bc.bQ (v::ag) (t+1)=bc.bQ ag t:=by simp [bc.bQ]
theorem abn (r:bc) (n:Nat):aT.aP r (.t n)=r n:=(rfl)
theorem abm (r:bc) (v:V):aT.aP r (.c v)=v:=(rfl)
theorem TG {d:Option Nat} {g:G} {rs:List Nat} {K:bc->V->ae->Prop}:bw.wp P ⟨d,g,none,rs⟩ r h K=g.wp P (r.trim rs) h fun v ab=>K (r.set d v) v ab:=(rfl)
theorem TE {d:Option Nat} {g:G} {j:Nat} {want:Bool} {rs:List Nat} {K:bc->V->ae->Prop}:bw.wp P ⟨d,g,some (j,want),rs⟩ r h K=
 gate (r.trim rs j) want (g.wp P (r.trim rs) h fun v ab=>K (r.set d v) v ab) (K (r.set d (.tuple [])) (.tuple []) h):=(rfl)
variable {K:V->ae->Prop}
theorem oC (k:IntKind):pD k k=true:=by cases k<;>rfl
theorem oZ (a b:Int):Int.leB a b=decide (a<=b):=o0 a b
theorem DT (a b:Int):Int.gL a b=decide (a=b):=by rw [l5];rfl
variable (k:IntKind) (a b:Int)
theorem afI:(e1.int .add).run P (.int k a) (.int k b)=some (.int k (k.wrap (a+b))):=by simp [e1.run,mi,oV,V.ej,oC]
theorem agW:(e1.int .sub).run P (.int k a) (.int k b)=some (.int k (k.wrap (a-b))):=by simp [e1.run,mi,oV,V.ej,oC]
theorem agB:(e1.int .mul).run P (.int k a) (.int k b)=some (.int k (k.wrap (a * b))):=by simp [e1.run,mi,oV,V.ej,oC]
theorem af6:(e1.int .eql).run P (.int k a) (.int k b)=some (.bool (decide (a=b))):=by simp [e1.run,mi,mX,V.ej,oC,DT]
theorem agE:(e1.int .neq).run P (.int k a) (.int k b)=some (.bool (!decide (a=b))):=by simp [e1.run,mi,mX,V.ej,oC,DT]
theorem agv:(e1.int .lss).run P (.int k a) (.int k b)=some (.bool (decide (a<b))):=by simp [e1.run,mi,mX,V.ej,oC,oZ];rw [aqm];simp
theorem agq:(e1.int .leq).run P (.int k a) (.int k b)=some (.bool (decide (a<=b))):=by simp [e1.run,mi,mX,V.ej,oC,oZ]
theorem agd:(e1.int .gtr).run P (.int k a) (.int k b)=some (.bool (decide (b<a))):=by simp [e1.run,mi,mX,V.ej,oC,oZ];rw [aqm];simp
theorem agc:(e1.int .geq).run P (.int k a) (.int k b)=some (.bool (decide (b<=a))):=by simp [e1.run,mi,mX,V.ej,oC,oZ]
theorem afL (x y:Bool):(e1.AK false).run P (.bool x) (.bool y)=some (.bool (x == y)):=by simp [e1.run,jg,AI,qQ]
theorem afP (x y:Bool):(e1.AK true).run P (.bool x) (.bool y)=some (.bool (!(x == y))):=by simp [e1.run,jg,AI,qQ]
theorem amS (x:Bool):rJ .not (.bool x)=some (.bool (!x)):=(rfl)
theorem amR:rJ .neg (.int k a)=some (.int k (k.wrap (0-a))):=(rfl)
theorem wrap_i64 {n:Int} (aa:-9223372036854775808<=n) (ad:n<=9223372036854775807):IntKind.i64.wrap n=n:=by exact Go.IntWalk.i64_in n ⟨aa,ad⟩
end
section
variable {P:Program} {r:bc} {h:ae} {Q:cO->bc->ae->Prop}
theorem Zu {ops:List bw}:e7 P (.au ops) r h Q=oc P ops r h (Q .normal):=(rfl)
theorem Zv {a b:a1}:e7 P (.seq a b) r h Q=e7 P a r h fun e a_ ab=>e.andThen (e7 P b a_ ab Q) (Q e a_ ab):=(rfl)
theorem amA {A B:Prop}:cO.andThen .normal A B=A:=(rfl)
theorem amB {A B:Prop}:cO.andThen .ret A B=B:=(rfl)
theorem amy {A B:Prop} {i:Nat}:cO.andThen (.exit i) A B=B:=(rfl)
theorem aih {id:Nat}:cO.leave id .normal=.normal:=(rfl)
theorem aii {id:Nat}:cO.leave id .ret=.ret:=(rfl)
theorem aif {id i:Nat}:cO.leave id (.exit i)=if i=id then .normal else .exit i:=(rfl)
end
def xg {α:Type} (o:Option α) (k:α->Prop):Prop:=
 match o with
 | some v=>k v
 | none=>False
@[congr] theorem apb {α:Type} {o b2:Option α} {k:α->Prop} (h:o=b2):xg o k=xg b2 k:=by rw [h]
def V.opt (c:Bool) (v:V):V:=bif c then v else .tuple []
theorem aka (v:V):V.opt true v=v:=(rfl)
theorem aj9 (v:V):V.opt false v=.tuple []:=(rfl)
@[congr] theorem aoS {c fD:Bool} {v cd:V} (h:c=fD) (bs:fD=true->v=cd):V.opt c v=V.opt fD cd:=by
 subst h;cases c with
 | true=>rw [bs rfl]
 | false=>rfl
def V.bif (t:Bool) (a b:V):V:=bif t then a else b
theorem amX (a b:V):V.bif true a b=a:=(rfl)
theorem amW (a b:V):V.bif false a b=b:=(rfl)
theorem Ye (t a b:Bool):V.bif t (.bool a) (.bool b)=.bool (bif t then a else b):=by cases t<;>rfl
theorem Yf (t:Bool) (k:IntKind) (a b:Int):V.bif t (.int k a) (.int k b)=.int k (if t=true then a else b):=by cases t<;>rfl
theorem Yh (t x:Bool):(bif t then true else x)=(t||x):=by cases t<;>rfl
theorem Yd (t x:Bool):(bif t then x else false)=(t&&x):=by cases t<;>rfl
@[congr] theorem anM {t ti:Bool} {a bl b bL:V} (h:t=ti) (bt:ti=true->a=bl) (ah:ti=false->b=bL):V.bif t a b=V.bif ti bl bL:=by
 subst h;cases t with
 | true=>rw [V.bif,V.bif,bt rfl];rfl
 | false=>rw [V.bif,V.bif,ah rfl];rfl
def eL (c:Bool) (A:Prop):Prop:=c=true->A
@[congr] theorem anA {c fD:Bool} {A iF:Prop} (h:c=fD) (bt:fD=true->A=iF):eL c A=eL fD iF:=by subst h;exact propext ⟨fun q e=>(bt e) ▸ q e,fun q e=>(bt e) ▸ q e⟩
theorem Wt (c:Bool):eL c True=True:=propext ⟨fun _=>trivial,fun _ _=>trivial⟩
theorem Wv (A:Prop):eL true A=A:=propext ⟨fun q=>q rfl,fun q _=>q⟩
theorem Wu (A:Prop):eL false A=True:=propext ⟨fun _=>trivial,fun _ e=>by cases e⟩
def took (v:V) (want:Bool):Bool:=
 match v with
 | .bool b=>b == want
 | _=>false
theorem amE (b w:Bool):took (.bool b) w=(b == w):=(rfl)
theorem amG (ag:List V) (w:Bool):took (.tuple ag) w=false:=(rfl)
theorem amF (c:Bool) (v:V) (w:Bool):took (.opt c v) w=(c&&took v w):=by cases c<;>rfl
def e5 (v:V):Prop:=
 match v with
 | .bool _=>True
 | .tuple _=>True
 | _=>False
theorem afy (b:Bool):e5 (.bool b)=True:=(rfl)
theorem afA (ag:List V):e5 (.tuple ag)=True:=(rfl)
theorem afz (c b:Bool):e5 (.opt c (.bool b))=True:=by cases c<;>rfl
def G.oW:G->Bool
 | .cM _ | .pick .. | .build .. | .dJ _ | .fh .. | .sY _ | .bin .. | .un .. | .fn .. | .B0 .. | .Dq .. | .sN .. | .rG .. | .eZ .. | .dH .. | .oH .. | .vC .. | .cr .. | .ur .. | .lJ .. | .jJ .. | .look .. | .ext .. | .yV _ | .ea _ | .xP _ | .yQ .. | .looks .. | .wV .. =>true
 | .eB (.int _) _=>true
 | .len .map _=>false
 | .len _ _=>true
 | _=>false
def V.s3 {α:Type} (v:V) (d:α) (f:List V->α):α:=
 match v with
 | .agg cs=>f cs
 | _=>d
def V.B8 {α:Type} (v:V) (d:α) (f:List V->α):α:=
 match v with
 | .tuple cs=>f cs
 | _=>d
def Cf (c a b:V):Option V:=
 match c with
 | .bool t=>some (V.bif t a b)
 | _=>none
theorem akt (t:Bool) (a b:V):Cf (.bool t) a b=some (V.bif t a b):=(rfl)
def qq (n:Nat) (x:V) (bP ax m3:Option V):Option V:=
 match x with
 | .bg=>Gs bP ax m3
 | .slice b off wI cap=>uX n b off wI cap bP ax m3
 | .eh b off wI idx=>w9 n b off wI idx bP ax m3
 | .gI b off kL idx=>Gt b off kL idx bP ax m3
 | _=>none
def G.fS (P:Program) (g:G) (r:bc) (h:ae):Option V:=
 match g with
 | .cM x=>some (x.aP r)
 | .pick c a b=>Cf (c.aP r) (a.aP r) (b.aP r)
 | .build z bn=>(match iJ z (kq r bn) with
   | some cs=>some (.agg cs)
   | none=>none)
 | .dJ x=>nb h (x.aP r)
 | .fh n x=>na n h (x.aP r)
 | .sY x=>uH (x.aP r)
 | .bin k x y=>k.run P (x.aP r) (y.aP r)
 | .un op x=>rJ op (x.aP r)
 | .eB (.int k) x=>(x.aP r).ej none fun _ n=>some (.int k (k.wrap n))
 | .fn f eG=>some (.func f (aT.fx r eG))
 | .B0 f first=>some (.lN f (aT.fx r first))
 | .Dq t z ok x=>An t z ok (x.aP r)
 | .sN t x=>some (.iface t (x.aP r))
 | .rG x bP ax m3=>mv (x.aP r) (aT.opt r bP) (aT.opt r ax) (aT.opt r m3)
 | .eZ n x bP ax m3=>qq n (x.aP r) (aT.opt r bP) (aT.opt r ax) (aT.opt r m3)
 | .dH off x=>(x.aP r).iQ none fun b o=>some (.ptr b (o+off))
 | .oH off x=>(x.aP r).s3 none fun cs=>cs[off]?
 | .vC off n x=>(x.aP r).s3 none fun cs=>some (.agg ((cs.drop off).take n))
 | .cr n x i=>(wy n).run (x.aP r) (i.aP r)
 | .ur n s x i=>(sP n s).run (x.aP r) (i.aP r)
 | .lJ x i=>sR.run (x.aP r) (i.aP r)
 | .jJ t x i=>(sQ P t).run (x.aP r) (i.aP r)
 | .look k z ok x i=>gk k.eq z ok h (x.aP r) (i.aP r)
 | .ext x i=>(x.aP r).B8 none fun ag=>ag[i]?
 | .len (.arr n) _=>some (.int .i64 n)
 | .len .str x=>(o1 .string).run (x.aP r)
 | .len .slice x=>(o1 (.slice 0)).run (x.aP r)
 | .yV args=>kN (fun b a=>!Int.leB a b) (aT.fx r args)
 | .ea args=>kN (fun b a=>!Int.leB b a) (aT.fx r args)
 | .xP x=>tN (x.aP r)
 | .yQ z ok x i=>ha ⟨js h⟩ z ok h (x.aP r) (i.aP r)
 | .looks k z ok x i=>bif lg P k (i.aP r) then ha (structEq P k) z ok h (x.aP r) (i.aP r) else none
 | .wV neg x y=>zc neg h (x.aP r) (y.aP r)
 | _=>none
section
variable {P:Program} {r:bc} {h:ae}
theorem pure_run {g:G} (af:g.oW=true) (call:dO):g.run P call r h=a7.of h (g.fS P r h):=by
 cases g<;>simp only [G.oW] at af<;>try (cases af;done)
 all_goals simp only [G.run,G.fS]
 case cM x=>rfl
 case pick c a b=>
  generalize c.aP r=q;cases q<;>rfl
 case build z bn=>
  generalize iJ z (kq r bn)=q;cases q<;>rfl
 case eB k x=>
  cases k<;>simp only at af<;>try (cases af;done)
  simp only [tt.run];generalize x.aP r=q;cases q<;>rfl
 case fn f eG=>rfl
 case B0 f first=>rfl
 case sN t x=>rfl
 case eZ n x bP ax m3=>
  unfold qq;generalize x.aP r=q;cases q<;>rfl
 case oH off x=>
  generalize x.aP r=q;cases q<;>rfl
 case vC off n x=>
  generalize x.aP r=q;cases q<;>rfl
 case ext x i=>
  generalize x.aP r=q;cases q<;>rfl
 case len k x=>
  cases k<;>simp only at af<;>first | rfl | (cases af;done)
theorem QK {g:G} (af:g.oW=true) {K:V->ae->Prop}:g.wp P r h K=xg (g.fS P r h) fun v=>K v h:=by
 have e:g.wp P r h K=∃v ab,g.run P ln r h=.val v ab/\K v ab:=by cases g<;>first | rfl | (simp [G.oW] at af;done)
 rw [e,pure_run af];apply propext;cases bs:g.fS P r h with
 | none=>exact ⟨fun ⟨v,ab,q,_⟩=>(by cases q),fun q=>q.elim⟩
 | some v=>
   constructor
   . rintro ⟨v1,aa,q,k⟩;simp only [a7.of,a7.val.injEq] at q;obtain ⟨rfl,rfl⟩:=q;exact k
   . intro k;exact ⟨v,h,rfl,k⟩
theorem TH {d:Option Nat} {g:G} {rs:List Nat} {K:bc->V->ae->Prop} (af:g.oW=true):bw.wp P ⟨d,g,none,rs⟩ r h K=xg (g.fS P (r.trim rs) h) fun v=>K (r.set d v) v h:=by rw [TG,QK af]
theorem TF {d:Option Nat} {g:G} {j:Nat} {want:Bool} {rs:List Nat} {K:bc->V->ae->Prop} (af:g.oW=true):bw.wp P ⟨d,g,some (j,want),rs⟩ r h K=
 (e5 (r.trim rs j)/\eL (took (r.trim rs j) want) ((g.fS P (r.trim rs) h).isSome=true)/\
   K (r.set d (V.opt (took (r.trim rs j) want) ((g.fS P (r.trim rs) h).getD .bad))) (V.opt (took (r.trim rs j) want) ((g.fS P (r.trim rs) h).getD .bad)) h):=by
 rw [TE,QK af];generalize r.trim rs j=q;generalize g.fS P (r.trim rs) h=o;apply propext;cases q<;>simp only [gate,e5,took,arI,arj]
 case bool b=>
  cases b<;>cases want<;>cases o<;>simp [xg,eL,V.opt]
 case tuple ag=>simp [eL,V.opt]
@[congr] theorem apg {os:List bw} {r a_:bc} {h ab:ae} {K:bc->ae->Prop} (aK:r=a_) (aS:h=ab):oc P os r h K=oc P os a_ ab K:=by rw [aK,aS]
@[congr] theorem ape {os:List bw} {r a_:bc} {h ab:ae} {K:List fA->bc->ae->Prop} (aK:r=a_) (aS:h=ab):kj P os r h K=kj P os a_ ab K:=by rw [aK,aS]
@[congr] theorem anx {o:bw} {r a_:bc} {h ab:ae} {K:bc->V->ae->Prop} (aK:r=a_) (aS:h=ab):o.wp P r h K=o.wp P a_ ab K:=by rw [aK,aS]
@[congr] theorem anz {g:G} {r a_:bc} {h ab:ae} {K:V->ae->Prop} (aK:r=a_) (aS:h=ab):g.wp P r h K=g.wp P a_ ab K:=by rw [aK,aS]
@[congr] theorem apd {c:a1} {r a_:bc} {h ab:ae} {Q:cO->bc->ae->Prop} (aK:r=a_) (aS:h=ab):e7 P c r h Q=e7 P c a_ ab Q:=by rw [aK,aS]
@[congr] theorem anv {f:FuncId} {a bl:List V} {h ab:ae} {K:V->ae->Prop} (aK:a=bl) (aS:h=ab):c9 P f a h K=c9 P f bl ab K:=by rw [aK,aS]
def fZ (k:b1) (off:Nat):Option V:=k.o8 none fun n cs=>bif Nat.blt off n then some (T.get .bad (aw off) cs) else none
def ml (n:Nat) (k:b1) (off:Nat):Option V:=k.o8 none fun m cs=>bif Nat.ble (off+n) m then some (.agg (hn cs off n)) else none
theorem aiB (b:aL) (off:Nat):nb h (.ptr b off)=fZ (h.get b) off:=(rfl)
theorem aiD (n:Nat) (b:aL) (off:Nat):na n h (.ptr b off)=ml n (h.get b) off:=(rfl)
theorem SQ {ag:List V} {off:Nat}:(bif Nat.blt off ag.length then some (T.get .bad (aw off) (fF .e 0 ag)) else none)=ag[off]? :=by
 have:=Ec ag 0 off .e;rw [apW] at this;rw [this];by_cases aU:off<ag.length
 . rw [show Nat.blt off ag.length=true from by rw [apR];exact aU,apz aU];simp [apr aU]
 . rw [show Nat.blt off ag.length=false from by rw [<-ap2,apR];exact aU];rw [apT (by omega)];rfl
theorem SO (ag:List V) (cH:Nat) (st:Bool) (off:Nat):fZ (.bQ ag cH st) off=ag[off]? :=SQ
theorem SP (ag:List V) (off:Nat):fZ (.ro ag) off=ag[off]? :=SQ
theorem SU {ag:List V} {off n:Nat}:(bif Nat.ble (off+n) ag.length then some (V.agg (hn (fF .e 0 ag) off n)) else none)=if off+n<=ag.length then some (.agg ((ag.drop off).take n)) else none:=by
 by_cases aU:off+n<=ag.length
 . rw [show Nat.ble (off+n) ag.length=true from by rw [apE];exact aU,apz aU,Ee ag n off aU];rfl
 . rw [show Nat.ble (off+n) ag.length=false from by rw [<-ap2,apE];exact aU,apw aU];rfl
theorem SR (n:Nat) (ag:List V) (cH:Nat) (st:Bool) (off:Nat):ml n (.bQ ag cH st) off=if off+n<=ag.length then some (.agg ((ag.drop off).take n)) else none:=SU
theorem SS (n:Nat) (ag:List V) (off:Nat):ml n (.ro ag) off=if off+n<=ag.length then some (.agg ((ag.drop off).take n)) else none:=SU
theorem mE.dJ {b:aL} {ag:List V} (H:mE h b ag) (off:Nat):fZ (h.get b) off=ag[off]? :=by
 rcases H with H | ⟨_,_,H⟩<;>rw [H]
 . exact SP ag off
 . exact SO ag _ _ off
theorem mE.fh {b:aL} {ag:List V} (H:mE h b ag) (n off:Nat):ml n (h.get b) off=if off+n<=ag.length then some (.agg ((ag.drop off).take n)) else none:=by
 rcases H with H | ⟨_,_,H⟩<;>rw [H]
 . exact SS n ag off
 . exact SR n ag _ _ off
def over:List V->List V->List V
 | ag,[]=>ag
 | [],_::_=>[]
 | _::ag,w::ws=>w::over ag ws
def nm:List V->Nat->List V->List V
 | ag,0,ws=>over ag ws
 | [],_+1,_=>[]
 | v::ag,n+1,ws=>v::nm ag n ws
theorem T0:∀(ag ws:List V),ws.length<=ag.length->over ag ws=ws++ag.drop ws.length
 | ag,[],_=>by cases ag<;>rfl
 | [],_::_,h=>by simp at h
 | v::ag,w::ws,h=>by simp only [over,apS,apB,arB];rw [T0 ag ws (by simpa using h)]
theorem zq:∀(ag:List V) (off:Nat) (ws:List V),off+ws.length<=ag.length->nm ag off ws=hP ag off ws
 | ag,0,ws,h=>by cases ag<;>simp only [nm,hP,List.take_zero,aqk,apW]<;>exact T0 _ ws (by omega)
 | [],n+1,ws,h=>by simp at h
 | v::ag,n+1,ws,h=>by simp only [apB] at h;simp only [nm,hP];rw [zq ag n ws (by omega)];simp only [hP,aqY,apS];rw [show n+1+ws.length=n+ws.length+1 from by omega,arB]
theorem LN (ag:List V) (off:Nat) (ws:List V) (h:off+ws.length<=ag.length):(nm ag off ws).length=ag.length:=by rw [zq ag off ws h,Gv ag off ws h]
def m' (n:Nat) (h:ae) (b:aL) (off:Nat) (y:V) (k:b1):Option ae:=
 bif Nat.beq y.cells.length n then k.on none fun m cs cH st=>
  bif Nat.ble (off+y.cells.length) m&&eY y.cells then some (h.set b (.cells m (fF cs off y.cells) cH st)) else none else none
theorem al9 (n:Nat) (b:aL) (off:Nat) (y:V):w_ n h (.ptr b off) y=m' n h b off y (h.get b):=(rfl)
theorem Kr {n:Nat} {b:aL} {off:Nat} {y:V} {ag:List V} {cH:Nat} {st:Bool} (aa:y.cells.length=n) (ad:eY y.cells=true) (aJ:off+n<=ag.length):
 m' n h b off y (.bQ ag cH st)=some (h.set b (.bQ (nm ag off y.cells) cH st)):=by
 unfold m';rw [show Nat.beq y.cells.length n=true from by rw [apV];exact aa];simp only [apu,b1.bQ,b1.on];rw [show Nat.ble (off+y.cells.length) ag.length=true from by rw [apE,aa];exact aJ,ad];simp only [aqt,apu,aps];rw [LN ag off _ (by rw [aa];exact aJ),zq ag off _ (by rw [aa];exact aJ),FV _ ag off (by rw [aa];exact aJ)]
theorem qY (k:b1):(h.new k).get (aw h.next)=k:=by rw [ae.hV,apz rfl]
theorem hV (b:aL) (k:b1):(h.new k).get b=if aw h.next=b then k else h.get b:=ae.hV h b k
theorem dV (b bL:aL) (k:b1):(h.set b k).get bL=if b=bL then k else h.get bL:=ae.dV h b bL k
def Old (h:ae) (b:aL):Prop:=bX b<h.next
theorem uL:∀b:aL,aw (bX b)=b:=by
 have key:∀(b:aL) (d:Nat),bX b+1<2 ^ d->uK d (bX b)=b:=by
  intro b
  induction b with
  | z=>intro d aH;cases d<;>rfl
  | l p bb=>
    intro d aH;cases d with
    | zero=>simp [bX] at aH
    | succ d=>
      have ad:2 ^ (d+1)=2 * 2 ^ d:=by rw [Nat.pow_succ];omega
      rw [ad] at aH;simp only [bX] at aH ⊢;simp only [uK,hi];rw [apw (by omega),apz (by omega),show (2 * bX p+1) / 2=bX p from by omega,bb d (by omega)]
  | r p bb=>
    intro d aH;cases d with
    | zero=>simp [bX] at aH
    | succ d=>
      have ad:2 ^ (d+1)=2 * 2 ^ d:=by rw [Nat.pow_succ];omega
      rw [ad] at aH;simp only [bX] at aH ⊢;simp only [uK,hi];rw [apw (by omega),apw (by omega),show (2 * bX p+2) / 2-1=bX p from by omega,bb d (by omega)]
 intro b;exact key b _ Nat.lt_log2_self
theorem K3 {b:aL} {i:Nat} (ah:Old h b) (ax:h.next<=i):(aw i=b)=False:=by
 apply propext;constructor
 . intro e;unfold Old at ah;rw [<-e,c1] at ah;omega
 . exact False.elim
theorem ajL {b:aL} {k:b1} (ah:Old h b):Old (h.new k) b:=Nat.lt_succ_of_lt ah
theorem TP {k:b1}:Old (h.new k) (aw h.next):=by unfold Old;rw [c1];exact Nat.lt_succ_self _
def D0 (off:Nat) (x:V):Option V:=x.iQ none fun b o=>some (.ptr b (o+off))
theorem abz (off:Nat) (b:aL) (o:Nat):D0 off (.ptr b o)=some (.ptr b (o+off)):=(rfl)
theorem ajO {α:Type} (ag:List V) (d:α) (f:List V->α):V.B8 (.tuple ag) d f=f ag:=(rfl)
theorem ajN {α:Type} (ag:List V) (d:α) (f:List V->α):V.s3 (.agg ag) d f=f ag:=(rfl)
def hJ (x:V):Option V:=(o1 (.slice 0)).run x
theorem aip (b:aL) (off n c:Nat):hJ (.slice b off n c)=some (.int .i64 n):=(rfl)
theorem ain (b:aL) (off n c:Nat):hJ (.eh b off n c)=some (.int .i64 n):=(rfl)
theorem aiq (b:aL) (off n c:Nat):hJ (.gI b off n c)=some (.int .i64 0):=(rfl)
theorem aio:hJ .bg=some (.int .i64 0):=(rfl)
def Fh (x:V):Option V:=(o1 .string).run x
theorem air (s:List UInt8):Fh (.str s)=some (.int .i64 s.length):=(rfl)
def fK (n:Nat) (x i:V):Option V:=(wy n).run x i
theorem E5 (n:Nat) (b:aL) (off len cap:Nat) (k:IntKind) (i:Int):fK n (.slice b off len cap) (.int k i)=if 0<=i/\i<len then some (.ptr b (off+i.toNat * n)) else none:=by simp only [fK,wy,V.ej,uw,oZ];by_cases aa:0<=i<;>by_cases ad:(len:Int)<=i<;>simp [aa,ad]<;>omega
theorem E4 (n:Nat) (b:aL) (off len cap:Nat) (k:IntKind) (i:Int):fK n (.eh b off len cap) (.int k i)=if 0<=i/\i<len then some (.ptr b (off+i.toNat * n)) else none:=by simp only [fK,wy,V.ej,uw,oZ];by_cases aa:0<=i<;>by_cases ad:(len:Int)<=i<;>simp [aa,ad]<;>omega
def DH (k:IntKind) (x:V):Option V:=x.ej none fun _ n=>some (.int k (k.wrap n))
theorem aaq (k br:IntKind) (n:Int):DH k (.int br n)=some (.int k (k.wrap n)):=(rfl)
end
structure iG where
 all:List bw
 asks:List (Nat × List Nat)
 es:List fA
def jt (D:Option iG) (r:bc) (h:ae) (v:V):Option iG:=
 match D with
 | none=>none
 | some d=>some ⟨d.all,d.asks,d.es++[⟨r,h,v⟩]⟩
inductive h9 where
 | os (D:Option iG) (os:List bw)
 | c (b:a1)
 | aW (id:Nat)
section
variable (P:Program)
def vm (D:Option iG) (es:List fA) (av:ae):Prop:=
 match D with
 | none=>True
 | some d=>pt P d.all (d.es++es) av d.asks
def bo:List h9->cO->bc->ae->(cO->bc->ae->Prop)->Prop
 | [],e,r,h,Q=>Q e r h
 | .os D os::aM,e,r,h,Q=>match e with
   | .normal=>kj P os r h fun es a_ ab=>vm P D es ab/\bo aM .normal a_ ab Q
   | e=>bo aM e r h Q
 | .c b::aM,e,r,h,Q=>match e with
   | .normal=>e7 P b r h fun e a_ ab=>bo aM e a_ ab Q
   | e=>bo aM e r h Q
 | .aW id::aM,e,r,h,Q=>bo aM (e.leave id) r h Q
def dd (o:Option V) (d:Option Nat) (D:Option iG) (os:List bw) (aM:List h9) (r:bc) (h:ae) (Q:cO->bc->ae->Prop):Prop:=
 xg o fun v=>bo P (.os (jt D r h v) os::aM) .normal (r.set d v) h Q
def gP (o:a7) (d:Option Nat) (D:Option iG) (os:List bw) (aM:List h9) (r:bc) (aY:ae) (Q:cO->bc->ae->Prop):Prop:=
 match o with
 | .val v h=>bo P (.os (jt D r aY v) os::aM) .normal (r.set d v) h Q
 | _=>False
def eW (v:V) (want:Bool) (d:Option Nat) (g:G) (rs:List Nat) (D:Option iG) (os:List bw) (aM:List h9) (r:bc) (h:ae) (Q:cO->bc->ae->Prop):Prop:=
 gate v want (bo P (.os D (⟨d,g,none,rs⟩::os)::aM) .normal r h Q) (bo P (.os (jt D r h (.tuple [])) os::aM) .normal (r.set d (.tuple [])) h Q)
def xR (v:V) (a b:a1) (aM:List h9) (r:bc) (h:ae) (Q:cO->bc->ae->Prop):Prop:=
 match v with
 | .bool t=>(t=true->bo P (.c a::aM) .normal r h Q)/\(t=false->bo P (.c b::aM) .normal r h Q)
 | _=>False
def qL (f:FuncId) (args:List V) (d:Option Nat) (D:Option iG) (os:List bw) (aM:List h9) (r:bc) (h:ae) (Q:cO->bc->ae->Prop):Prop:=
 c9 P f args h fun v ab=>bo P (.os (jt D r h v) os::aM) .normal (r.set d v) ab Q
def Mi (xs:List V) (d:Option Nat) (D:Option iG) (os:List bw) (aM:List h9) (r:bc) (h:ae) (Q:cO->bc->ae->Prop):Prop:=
 Nb P xs h fun v ab=>bo P (.os (jt D r h v) os::aM) .normal (r.set d v) ab Q
def HW (g:FuncId) (xs:List V) (d:Option Nat) (D:Option iG) (os:List bw) (aM:List h9) (r:bc) (h:ae) (Q:cO->bc->ae->Prop):Prop:=
 if g=4294967296 then Mi P xs d D os aM r h Q else qL P g xs d D os aM r h Q
def xO (f:V) (args:List V) (d:Option Nat) (D:Option iG) (os:List bw) (aM:List h9) (r:bc) (h:ae) (Q:cO->bc->ae->Prop):Prop:=
 ∃g xs,f.target args=some (g,xs)/\HW P g xs d D os aM r h Q
def Fp (b:a1) (aM:List h9) (r:bc) (h:ae) (Q:cO->bc->ae->Prop):Prop:=e7 P (.loop b) r h fun e a_ ab=>bo P aM e a_ ab Q
end
section
variable {P:Program} {r:bc} {h:ae} {Q:cO->bc->ae->Prop} {aM:List h9} {os:List bw} {D:Option iG}
theorem akE (r:bc) (h:ae) (v:V):jt none r h v=none:=(rfl)
theorem akF (all:List bw) (asks:List (Nat × List Nat)) (es:List fA) (r:bc) (h:ae) (v:V):jt (some ⟨all,asks,es⟩) r h v=some ⟨all,asks,es++[⟨r,h,v⟩]⟩:=(rfl)
theorem cw {c:a1} (H:bo P [.c c] .normal r h Q):e7 P c r h Q:=H
theorem agG {e:cO}:bo P [] e r h Q=Q e r h:=(rfl)
theorem afN {e:cO} {id:Nat}:bo P (.aW id::aM) e r h Q=bo P aM (e.leave id) r h Q:=(rfl)
theorem agR {a b:a1}:bo P (.c (.seq a b)::aM) .normal r h Q=bo P (.c a::.c b::aM) .normal r h Q:=by simp only [bo];rw [Zv];congr 1;funext e a_ ab;cases e<;>rfl
theorem afO {id:Nat} {b:a1}:bo P (.c (.block id b)::aM) .normal r h Q=bo P (.c b::.aW id::aM) .normal r h Q:=(rfl)
theorem VW:∀(os:List bw) (r:bc) (h:ae) (K:bc->ae->Prop),kj P os r h (fun _ r h=>K r h)=oc P os r h K
 | [],_,_,_=>rfl
 | o::os,r,h,K=>by simp only [kj,oc];congr 1;funext a_ v ab;exact VW os a_ ab K
theorem agN {ops:List bw}:bo P (.c (.au ops)::aM) .normal r h Q=bo P (.os none ops::aM) .normal r h Q:=by simp only [bo,vm,arj];rw [VW,Zu]
theorem agS:bo P (.c .skip::aM) .normal r h Q=bo P aM .normal r h Q:=(rfl)
theorem agO:bo P (.c .ret::aM) .normal r h Q=bo P aM .ret r h Q:=(rfl)
theorem af8 {i:Nat}:bo P (.c (.exit i)::aM) .normal r h Q=bo P aM (.exit i) r h Q:=(rfl)
theorem afY {b:a1}:bo P (.c b::aM) .ret r h Q=bo P aM .ret r h Q:=(rfl)
theorem afV {b:a1} {i:Nat}:bo P (.c b::aM) (.exit i) r h Q=bo P aM (.exit i) r h Q:=(rfl)
theorem afW {c:aT} {a b:a1}:bo P (.c (.cond c a b)::aM) .normal r h Q=xR P (c.aP r) a b aM r h Q:=by simp only [bo,e7];cases c.aP r<;>rfl
theorem agu {b:a1}:bo P (.c (.loop b)::aM) .normal r h Q=Fp P b aM r h Q:=(rfl)
theorem af4 {ops:List bw} {asks:List (Nat × List Nat)}:bo P (.c (.draw ops asks)::aM) .normal r h Q=bo P (.os (some ⟨ops,asks,[]⟩) ops::aM) .normal r h Q:=(rfl)
theorem agK:bo P (.os none []::aM) .normal r h Q=bo P aM .normal r h Q:=by simp only [bo,kj,vm,arj]
theorem af3 {all:List bw} {asks:List (Nat × List Nat)} {es:List fA}:bo P (.os (some ⟨all,asks,es⟩) []::aM) .normal r h Q=(pt P all es h asks/\bo P aM .normal r h Q):=by simp only [bo,kj,vm,aqF]
theorem xK (D:Option iG) (r:bc) (h:ae) (v:V) (es:List fA) (av:ae):vm P (jt D r h v) es av=vm P D (⟨r,h,v⟩::es) av:=by
 cases D with
 | none=>rfl
 | some d=>simp only [jt,vm,aqc,apS,aqk]
theorem gj {d:Option Nat} {g:G} {rs:List Nat} (af:g.oW=true):bo P (.os D (⟨d,g,none,rs⟩::os)::aM) .normal r h Q=dd P (g.fS P (r.trim rs) h) d D os aM r h Q:=by simp only [bo,kj,dd];rw [TH af];simp only [xK]
theorem gi {d:Option Nat} {g:G} {j:Nat} {want:Bool} {rs:List Nat} (af:g.oW=true):bo P (.os D (⟨d,g,some (j,want),rs⟩::os)::aM) .normal r h Q=
 (e5 (r.trim rs j)/\eL (took (r.trim rs j) want) ((g.fS P (r.trim rs) h).isSome=true)/\
   dd P (some (V.opt (took (r.trim rs j) want) ((g.fS P (r.trim rs) h).getD .bad))) d D os aM r h Q):=by
 simp only [bo,kj,dd,xg];rw [TF af];simp only [xK]
def G.Ss:G->Bool
 | .call .. | .lD .. =>true
 | _=>false
theorem ih {d:Option Nat} {g:G} {rs:List Nat} (af:g.oW=false) (ao:g.Ss=false):bo P (.os D (⟨d,g,none,rs⟩::os)::aM) .normal r h Q=gP P (g.run P ln (r.trim rs) h) d D os aM r h Q:=by
 simp only [bo,kj];rw [TG];have e:∀K:V->ae->Prop,g.wp P (r.trim rs) h K=∃v ab,g.run P ln (r.trim rs) h=.val v ab/\K v ab:=by intro K;cases g<;>first | rfl | (simp [G.Ss] at ao;done)
 rw [e];unfold gP;simp only [bo,xK];cases g.run P ln (r.trim rs) h with
 | fail=>exact propext ⟨fun ⟨v,ab,q,_⟩=>(by cases q),fun q=>q.elim⟩
 | cK v1 aa=>exact propext ⟨fun ⟨v,ab,q,_⟩=>(by cases q),fun q=>q.elim⟩
 | val v1 aa=>
   apply propext;constructor
   . rintro ⟨v,ab,q,k⟩;simp only [a7.val.injEq] at q;obtain ⟨rfl,rfl⟩:=q;exact k
   . intro k;exact ⟨_,_,rfl,k⟩
theorem hI {d:Option Nat} {g:G} {j:Nat} {want:Bool} {rs:List Nat} (af:g.oW=false):bo P (.os D (⟨d,g,some (j,want),rs⟩::os)::aM) .normal r h Q=eW P (r.trim rs j) want d g rs D os aM r h Q:=by simp only [eW,bo,kj,xK];rw [TE];rfl
theorem Sy {d:Option Nat} {f:FuncId} {args:List aT} {rs:List Nat}:bo P (.os D (⟨d,.call f args,none,rs⟩::os)::aM) .normal r h Q=qL P f (aT.fx (r.trim rs) args) d D os aM r h Q:=by simp only [qL,bo,kj,xK];rfl
theorem afT {d:Option Nat} {f:aT} {args:List aT} {rs:List Nat}:bo P (.os D (⟨d,.lD f args,none,rs⟩::os)::aM) .normal r h Q=xO P (f.aP (r.trim rs)) (aT.fx (r.trim rs) args) d D os aM r h Q:=by simp only [xO,HW,Mi,qL,bo,kj,xK];rfl
theorem ZA {f:V} {g:FuncId} {xs args:List V} {d:Option Nat} (av:f.target args=some (g,xs)):xO P f args d D os aM r h Q=HW P g xs d D os aM r h Q:=by
 apply propext;constructor
 . rintro ⟨dM,apj,q,k⟩;rw [av] at q;simp only [aps,aqD] at q;obtain ⟨rfl,rfl⟩:=q;exact k
 . intro k;exact ⟨_,_,av,k⟩
theorem Zz {g:FuncId} {cs args:List V} {d:Option Nat}:xO P (.func g cs) args d D os aM r h Q=if g=4294967296 then Mi P (args++cs) d D os aM r h Q else qL P g (args++cs) d D os aM r h Q:=ZA rfl
@[congr] theorem ao5 {o b2:Option V} {d:Option Nat} (e:o=b2):dd P o d D os aM r h Q=dd P b2 d D os aM r h Q:=by rw [e]
@[congr] theorem ao4 {o b2:a7} {d:Option Nat} (e:o=b2):gP P o d D os aM r h Q=gP P b2 d D os aM r h Q:=by rw [e]
@[congr] theorem anS {v cd:V} {a b:a1} (e:v=cd):xR P v a b aM r h Q=xR P cd a b aM r h Q:=by rw [e]
@[congr] theorem an4 {v cd:V} {want:Bool} {d:Option Nat} {g:G} {rs:List Nat} (e:v=cd):eW P v want d g rs D os aM r h Q=eW P cd want d g rs D os aM r h Q:=by rw [e]
@[congr] theorem anQ {f qV:V} {args Ak:List V} {d:Option Nat} (aK:f=qV) (aS:args=Ak):xO P f args d D os aM r h Q=xO P qV Ak d D os aM r h Q:=by rw [aK,aS]
@[congr] theorem anP {f:FuncId} {args Ak:List V} {d:Option Nat} (aS:args=Ak):qL P f args d D os aM r h Q=qL P f Ak d D os aM r h Q:=by rw [aS]
@[congr] theorem apf {e cC:cO} {a_:bc} {ab:ae} (dw:e=cC) (aK:r=a_) (aS:h=ab):bo P aM e r h Q=bo P aM cC a_ ab Q:=by rw [dw,aK,aS]
@[congr] theorem aoy {b:a1} {a_:bc} {ab:ae} (aK:r=a_) (aS:h=ab):Fp P b aM r h Q=Fp P b aM a_ ab Q:=by rw [aK,aS]
theorem amk {v:V} {d:Option Nat}:dd P (some v) d D os aM r h Q=bo P (.os (jt D r h v) os::aM) .normal (r.set d v) h Q:=(rfl)
theorem alZ {v:V} {ab:ae} {d:Option Nat}:gP P (.val v ab) d D os aM r h Q=bo P (.os (jt D r h v) os::aM) .normal (r.set d v) ab Q:=(rfl)
theorem Ps {t:Bool} {a b:a1}:xR P (.bool t) a b aM r h Q=((t=true->bo P (.c a::aM) .normal r h Q)/\(t=false->bo P (.c b::aM) .normal r h Q)):=(rfl)
theorem QN {b:Bool} {d:Option Nat} {g:G} {rs:List Nat}:eW P (.bool b) true d g rs D os aM r h Q=((b=true->bo P (.os D (⟨d,g,none,rs⟩::os)::aM) .normal r h Q)/\(b=false->bo P (.os (jt D r h (.tuple [])) os::aM) .normal (r.set d (.tuple [])) h Q)):=(rfl)
theorem QM {b:Bool} {d:Option Nat} {g:G} {rs:List Nat}:eW P (.bool b) false d g rs D os aM r h Q=((b=false->bo P (.os D (⟨d,g,none,rs⟩::os)::aM) .normal r h Q)/\(b=true->bo P (.os (jt D r h (.tuple [])) os::aM) .normal (r.set d (.tuple [])) h Q)):=(rfl)
theorem aca {ag:List V} {want:Bool} {d:Option Nat} {g:G} {rs:List Nat}:eW P (.tuple ag) want d g rs D os aM r h Q=bo P (.os (jt D r h (.tuple [])) os::aM) .normal (r.set d (.tuple [])) h Q:=(rfl)
theorem ab6 {c b:Bool} {want:Bool} {d:Option Nat} {f:FuncId} {args:List aT} {rs:List Nat} (v:V)
 (bs:(c&&(b == want))=true->eV P f (aT.fx (r.trim rs) args) h v h)
 (H:bo P (.os (jt D r h (V.opt (c&&(b == want)) v)) os::aM) .normal (r.set d (V.opt (c&&(b == want)) v)) h Q):eW P (V.opt c (.bool b)) want d (.call f args) rs D os aM r h Q:=by
 unfold eW;rw [Sy];cases c with
 | false=>exact H
 | true=>
   simp only [V.opt,apu,ap6] at bs H ⊢;cases b<;>cases want<;>simp only [gate]
   . exact ⟨fun _=>⟨v,h,bs rfl,H⟩,fun e=>by cases e⟩
   . exact ⟨fun e=>(by cases e),fun _=>H⟩
   . exact ⟨fun e=>(by cases e),fun _=>H⟩
   . exact ⟨fun _=>⟨v,h,bs rfl,H⟩,fun e=>by cases e⟩
def qc (v:V) (o:Option ae):a7:=gF v o
theorem akb (v:V) (ab:ae):qc v (some ab)=.val v ab:=(rfl)
def NC (b:Bool) (o:a7):a7:=bif b then o else .fail
theorem Yp (o:a7):NC true o=o:=(rfl)
def Dw (n:Nat) (h:ae) (o:Option (List V)):a7:=
 match o with
 | some cs=>qc (.slice (aw h.next) 0 n n) (fR h cs)
 | none=>.fail
theorem Yq (n:Nat) (cs:List V):Dw n h (some cs)=qc (.slice (aw h.next) 0 n n) (fR h cs):=(rfl)
theorem alu {n size:Nat} {z:List V} {bn:List (Nat × Nat × aT)}:(G.hz n size z bn).run P ln r h=Dw n h (iJ (im z n) (kq r bn)):=by
 simp only [G.run];cases iJ (im z n) (kq r bn) with
 | none=>rfl
 | some cs=>
   simp only [Dw,qc,gF];cases fR h cs<;>rfl
theorem abE (cells:List V):iJ cells []=some cells:=(rfl)
theorem abC {cells:List V} {off size:Nat} {v:V} {rest:List (Nat × Nat × V)} (aa:v.eO=true) (ad:v.cells.length=size) (aJ:off+size<=cells.length):
 iJ cells ((off,size,v)::rest)=iJ (nm cells off v.cells) rest:=by
 simp only [iJ];rw [aa,show Nat.beq v.cells.length size=true from by rw [apV];exact ad,show Nat.ble (off+v.cells.length) cells.length=true from by rw [apE,ad];exact aJ];simp only [aqt,apu];congr 1;have dH:∀(ws cs:List V) (o:Nat),o+ws.length<=cs.length->sr cs o ws=hP cs o ws:=by
  intro ws
  induction ws with
  | nil=>intro cs o _;simp [sr,hP]
  | cons w ws bb=>
    intro cs o aU;simp only [apB] at aU;simp only [sr];rw [bb (cs.set o w) (o+1) (by simp;omega),U3 cs o w ws (by omega)]
 rw [dH _ _ _ (by rw [ad];exact aJ),zq _ _ _ (by rw [ad];exact aJ)]
def Dy (o:Option (List V)):Option V:=
 match o with
 | some cs=>some (.agg cs)
 | none=>none
theorem Ys (cs:List V):Dy (some cs)=some (.agg cs):=(rfl)
theorem abl:kq r []=[]:=(rfl)
theorem abk {o s:Nat} {x:aT} {bn:List (Nat × Nat × aT)}:kq r ((o,s,x)::bn)=(o,s,x.aP r)::kq r bn:=(rfl)
def ps (P:Program) (o:bw) (e:fA) (H:ae):Prop:=o.wp P e.r H fun _ cd _=>cd=e.v
theorem X2 {ops:List bw} {es:List fA} {av:ae}:pt P ops es av []=True:=(rfl)
theorem X0 {ops:List bw} {es:List fA} {av:ae} {p:Nat} {ca:List Nat} {rest:List (Nat × List Nat)}:pt P ops es av ((p,ca)::rest)=(r8 P ops[p]? es[p]? es av ca/\pt P ops es av rest):=(rfl)
theorem XX {o:Option bw} {e:Option fA} {es:List fA} {av:ae}:r8 P o e es av []=True:=(rfl)
theorem XT {o:bw} {e:fA} {es:List fA} {av:ae} {s:Nat} {ca:List Nat}:r8 P (some o) (some e) es av (s::ca)=(ps P o e (yl es av s)/\r8 P (some o) (some e) es av ca):=(rfl)
def I5 (o:Option fA) (av:ae):ae:=
 match o with
 | some e=>e.h
 | none=>av
theorem adz (es:List fA) (av:ae) (s:Nat):yl es av s=I5 es[s]? av:=(rfl)
theorem adB (e:fA) (av:ae):I5 (some e) av=e.h:=(rfl)
theorem adA (av:ae):I5 none av=av:=(rfl)
theorem Dp {d:Option Nat} {g:G} {rs:List Nat} {e:fA} {H:ae} (af:g.oW=true):ps P ⟨d,g,none,rs⟩ e H=(g.fS P (e.r.trim rs) H=some e.v):=by
 unfold ps;rw [TH af];apply propext;cases g.fS P (e.r.trim rs) H with
 | none=>exact ⟨fun q=>q.elim,fun q=>(by cases q)⟩
 | some v=>exact ⟨fun q=>by rw [show v=e.v from q],fun q=>by cases q;rfl⟩
theorem Np {d:Option Nat} {g:G} {j:Nat} {want:Bool} {rs:List Nat} {e:fA} {H:ae} (af:g.oW=true):ps P ⟨d,g,some (j,want),rs⟩ e H=
 (e5 (e.r.trim rs j)/\eL (took (e.r.trim rs j) want) ((g.fS P (e.r.trim rs) H).isSome=true)/\V.opt (took (e.r.trim rs j) want) ((g.fS P (e.r.trim rs) H).getD .bad)=e.v):=by
 unfold ps;rw [TF af]
theorem XU {d:Option Nat} {x:aT} {rs:List Nat} {e:fA} {H:ae}:ps P ⟨d,.dJ x,none,rs⟩ e H=(nb H (x.aP (e.r.trim rs))=some e.v):=Dp rfl
theorem XV {d:Option Nat} {n:Nat} {x:aT} {rs:List Nat} {e:fA} {H:ae}:ps P ⟨d,.fh n x,none,rs⟩ e H=(na n H (x.aP (e.r.trim rs))=some e.v):=Dp rfl
theorem tL {d:Option Nat} {k:ja} {z:V} {ok:Bool} {x i:aT} {rs:List Nat} {e:fA} {H:ae}:ps P ⟨d,.look k z ok x i,none,rs⟩ e H=(gk k.eq z ok H (x.aP (e.r.trim rs)) (i.aP (e.r.trim rs))=some e.v):=Dp rfl
theorem XY {d:Option Nat} {x:aT} {j:Nat} {want:Bool} {rs:List Nat} {e:fA} {H:ae}:ps P ⟨d,.dJ x,some (j,want),rs⟩ e H=
 (e5 (e.r.trim rs j)/\eL (took (e.r.trim rs j) want) ((nb H (x.aP (e.r.trim rs))).isSome=true)/\V.opt (took (e.r.trim rs j) want) ((nb H (x.aP (e.r.trim rs))).getD .bad)=e.v):=Np rfl
theorem XZ {d:Option Nat} {n:Nat} {x:aT} {j:Nat} {want:Bool} {rs:List Nat} {e:fA} {H:ae}:ps P ⟨d,.fh n x,some (j,want),rs⟩ e H=
 (e5 (e.r.trim rs j)/\eL (took (e.r.trim rs j) want) ((na n H (x.aP (e.r.trim rs))).isSome=true)/\V.opt (took (e.r.trim rs j) want) ((na n H (x.aP (e.r.trim rs))).getD .bad)=e.v):=Np rfl
end
def Ga (x:V) (h:ae):a7:=
 match x with
 | .str s=>.val (.ptr (aw h.next) 0) (h.new (.iter s 0))
 | _=>.fail
theorem alf (s:List UInt8) (h:ae):Ga (.str s) h=.val (.ptr (aw h.next) 0) (h.new (.iter s 0)):=(rfl)
section
variable {P:Program} {r:bc} {h:ae} {Q:cO->bc->ae->Prop} {aM:List h9} {os:List bw} {D:Option iG} {d:Option Nat} {rs:List Nat}
theorem agC {x:aT}:bo P (.os D (⟨d,(.cM x),none,rs⟩::os)::aM) .normal r h Q=dd P (some (x.aP (r.trim rs))) d D os aM r h Q:=gj rfl
theorem ahD {x:aT} {j:Nat} {want:Bool}:bo P (.os D (⟨d,(.cM x),some (j,want),rs⟩::os)::aM) .normal r h Q=(e5 (r.trim rs j)/\eL (took (r.trim rs j) want) ((some (x.aP (r.trim rs))).isSome=true)/\dd P (some (V.opt (took (r.trim rs j) want) ((some (x.aP (r.trim rs))).getD .bad))) d D os aM r h Q):=gi rfl
theorem agM {c a b:aT}:bo P (.os D (⟨d,(.pick c a b),none,rs⟩::os)::aM) .normal r h Q=dd P (Cf (c.aP (r.trim rs)) (a.aP (r.trim rs)) (b.aP (r.trim rs))) d D os aM r h Q:=gj rfl
theorem ahK {c a b:aT} {j:Nat} {want:Bool}:bo P (.os D (⟨d,(.pick c a b),some (j,want),rs⟩::os)::aM) .normal r h Q=(e5 (r.trim rs j)/\eL (took (r.trim rs j) want) ((Cf (c.aP (r.trim rs)) (a.aP (r.trim rs)) (b.aP (r.trim rs))).isSome=true)/\dd P (some (V.opt (took (r.trim rs j) want) ((Cf (c.aP (r.trim rs)) (a.aP (r.trim rs)) (b.aP (r.trim rs))).getD .bad))) d D os aM r h Q):=gi rfl
theorem afS {z:List V} {bn:List (Nat × Nat × aT)}:bo P (.os D (⟨d,(.build z bn),none,rs⟩::os)::aM) .normal r h Q=dd P (Dy (iJ z (kq (r.trim rs) bn))) d D os aM r h Q:=gj rfl
theorem ag6 {z:List V} {bn:List (Nat × Nat × aT)} {j:Nat} {want:Bool}:bo P (.os D (⟨d,(.build z bn),some (j,want),rs⟩::os)::aM) .normal r h Q=(e5 (r.trim rs j)/\eL (took (r.trim rs j) want) ((Dy (iJ z (kq (r.trim rs) bn))).isSome=true)/\dd P (some (V.opt (took (r.trim rs j) want) ((Dy (iJ z (kq (r.trim rs) bn))).getD .bad))) d D os aM r h Q):=gi rfl
theorem agk {x:aT}:bo P (.os D (⟨d,(.dJ x),none,rs⟩::os)::aM) .normal r h Q=dd P (nb h (x.aP (r.trim rs))) d D os aM r h Q:=gj rfl
theorem ahp {x:aT} {j:Nat} {want:Bool}:bo P (.os D (⟨d,(.dJ x),some (j,want),rs⟩::os)::aM) .normal r h Q=(e5 (r.trim rs j)/\eL (took (r.trim rs j) want) ((nb h (x.aP (r.trim rs))).isSome=true)/\dd P (some (V.opt (took (r.trim rs j) want) ((nb h (x.aP (r.trim rs))).getD .bad))) d D os aM r h Q):=gi rfl
theorem agl {n:Nat} {x:aT}:bo P (.os D (⟨d,(.fh n x),none,rs⟩::os)::aM) .normal r h Q=dd P (na n h (x.aP (r.trim rs))) d D os aM r h Q:=gj rfl
theorem ahq {n:Nat} {x:aT} {j:Nat} {want:Bool}:bo P (.os D (⟨d,(.fh n x),some (j,want),rs⟩::os)::aM) .normal r h Q=(e5 (r.trim rs j)/\eL (took (r.trim rs j) want) ((na n h (x.aP (r.trim rs))).isSome=true)/\dd P (some (V.opt (took (r.trim rs j) want) ((na n h (x.aP (r.trim rs))).getD .bad))) d D os aM r h Q):=gi rfl
theorem agH {x:aT}:bo P (.os D (⟨d,(.sY x),none,rs⟩::os)::aM) .normal r h Q=dd P (uH (x.aP (r.trim rs))) d D os aM r h Q:=gj rfl
theorem ahG {x:aT} {j:Nat} {want:Bool}:bo P (.os D (⟨d,(.sY x),some (j,want),rs⟩::os)::aM) .normal r h Q=(e5 (r.trim rs j)/\eL (took (r.trim rs j) want) ((uH (x.aP (r.trim rs))).isSome=true)/\dd P (some (V.opt (took (r.trim rs j) want) ((uH (x.aP (r.trim rs))).getD .bad))) d D os aM r h Q):=gi rfl
theorem afM {k:e1} {x y:aT}:bo P (.os D (⟨d,(.bin k x y),none,rs⟩::os)::aM) .normal r h Q=dd P (k.run P (x.aP (r.trim rs)) (y.aP (r.trim rs))) d D os aM r h Q:=gj rfl
theorem ag3 {k:e1} {x y:aT} {j:Nat} {want:Bool}:bo P (.os D (⟨d,(.bin k x y),some (j,want),rs⟩::os)::aM) .normal r h Q=(e5 (r.trim rs j)/\eL (took (r.trim rs j) want) ((k.run P (x.aP (r.trim rs)) (y.aP (r.trim rs))).isSome=true)/\dd P (some (V.opt (took (r.trim rs j) want) ((k.run P (x.aP (r.trim rs)) (y.aP (r.trim rs))).getD .bad))) d D os aM r h Q):=gi rfl
theorem agX {o:UnOp} {x:aT}:bo P (.os D (⟨d,(.un o x),none,rs⟩::os)::aM) .normal r h Q=dd P (rJ o (x.aP (r.trim rs))) d D os aM r h Q:=gj rfl
theorem ahQ {o:UnOp} {x:aT} {j:Nat} {want:Bool}:bo P (.os D (⟨d,(.un o x),some (j,want),rs⟩::os)::aM) .normal r h Q=(e5 (r.trim rs j)/\eL (took (r.trim rs j) want) ((rJ o (x.aP (r.trim rs))).isSome=true)/\dd P (some (V.opt (took (r.trim rs j) want) ((rJ o (x.aP (r.trim rs))).getD .bad))) d D os aM r h Q):=gi rfl
theorem agb {f:FuncId} {cs:List aT}:bo P (.os D (⟨d,(.fn f cs),none,rs⟩::os)::aM) .normal r h Q=dd P (some (V.func f (aT.fx (r.trim rs) cs))) d D os aM r h Q:=gj rfl
theorem ahj {f:FuncId} {cs:List aT} {j:Nat} {want:Bool}:bo P (.os D (⟨d,(.fn f cs),some (j,want),rs⟩::os)::aM) .normal r h Q=(e5 (r.trim rs j)/\eL (took (r.trim rs j) want) ((some (V.func f (aT.fx (r.trim rs) cs))).isSome=true)/\dd P (some (V.opt (took (r.trim rs j) want) ((some (V.func f (aT.fx (r.trim rs) cs))).getD .bad))) d D os aM r h Q):=gi rfl
theorem agh {t:TypeId} {x:aT}:bo P (.os D (⟨d,(.sN t x),none,rs⟩::os)::aM) .normal r h Q=dd P (some (V.iface t (x.aP (r.trim rs)))) d D os aM r h Q:=gj rfl
theorem ahm {t:TypeId} {x:aT} {j:Nat} {want:Bool}:bo P (.os D (⟨d,(.sN t x),some (j,want),rs⟩::os)::aM) .normal r h Q=(e5 (r.trim rs j)/\eL (took (r.trim rs j) want) ((some (V.iface t (x.aP (r.trim rs)))).isSome=true)/\dd P (some (V.opt (took (r.trim rs j) want) ((some (V.iface t (x.aP (r.trim rs)))).getD .bad))) d D os aM r h Q):=gi rfl
theorem agU {x:aT} {bP ax m3:Option aT}:bo P (.os D (⟨d,(.rG x bP ax m3),none,rs⟩::os)::aM) .normal r h Q=dd P (mv (x.aP (r.trim rs)) (aT.opt (r.trim rs) bP) (aT.opt (r.trim rs) ax) (aT.opt (r.trim rs) m3)) d D os aM r h Q:=gj rfl
theorem ahO {x:aT} {bP ax m3:Option aT} {j:Nat} {want:Bool}:bo P (.os D (⟨d,(.rG x bP ax m3),some (j,want),rs⟩::os)::aM) .normal r h Q=(e5 (r.trim rs j)/\eL (took (r.trim rs j) want) ((mv (x.aP (r.trim rs)) (aT.opt (r.trim rs) bP) (aT.opt (r.trim rs) ax) (aT.opt (r.trim rs) m3)).isSome=true)/\dd P (some (V.opt (took (r.trim rs j) want) ((mv (x.aP (r.trim rs)) (aT.opt (r.trim rs) bP) (aT.opt (r.trim rs) ax) (aT.opt (r.trim rs) m3)).getD .bad))) d D os aM r h Q):=gi rfl
theorem agT {n:Nat} {x:aT} {bP ax m3:Option aT}:bo P (.os D (⟨d,(.eZ n x bP ax m3),none,rs⟩::os)::aM) .normal r h Q=dd P (qq n (x.aP (r.trim rs)) (aT.opt (r.trim rs) bP) (aT.opt (r.trim rs) ax) (aT.opt (r.trim rs) m3)) d D os aM r h Q:=gj rfl
theorem ahN {n:Nat} {x:aT} {bP ax m3:Option aT} {j:Nat} {want:Bool}:bo P (.os D (⟨d,(.eZ n x bP ax m3),some (j,want),rs⟩::os)::aM) .normal r h Q=(e5 (r.trim rs j)/\eL (took (r.trim rs j) want) ((qq n (x.aP (r.trim rs)) (aT.opt (r.trim rs) bP) (aT.opt (r.trim rs) ax) (aT.opt (r.trim rs) m3)).isSome=true)/\dd P (some (V.opt (took (r.trim rs j) want) ((qq n (x.aP (r.trim rs)) (aT.opt (r.trim rs) bP) (aT.opt (r.trim rs) ax) (aT.opt (r.trim rs) m3)).getD .bad))) d D os aM r h Q):=gi rfl
theorem af' {o:Nat} {x:aT}:bo P (.os D (⟨d,(.dH o x),none,rs⟩::os)::aM) .normal r h Q=dd P (D0 o (x.aP (r.trim rs))) d D os aM r h Q:=gj rfl
theorem ahg {o:Nat} {x:aT} {j:Nat} {want:Bool}:bo P (.os D (⟨d,(.dH o x),some (j,want),rs⟩::os)::aM) .normal r h Q=(e5 (r.trim rs j)/\eL (took (r.trim rs j) want) ((D0 o (x.aP (r.trim rs))).isSome=true)/\dd P (some (V.opt (took (r.trim rs j) want) ((D0 o (x.aP (r.trim rs))).getD .bad))) d D os aM r h Q):=gi rfl
theorem af_ {o:Nat} {x:aT}:bo P (.os D (⟨d,(.oH o x),none,rs⟩::os)::aM) .normal r h Q=dd P ((x.aP (r.trim rs)).s3 none fun cs=>cs[o]?) d D os aM r h Q:=gj rfl
theorem ahh {o:Nat} {x:aT} {j:Nat} {want:Bool}:bo P (.os D (⟨d,(.oH o x),some (j,want),rs⟩::os)::aM) .normal r h Q=(e5 (r.trim rs j)/\eL (took (r.trim rs j) want) (((x.aP (r.trim rs)).s3 none fun cs=>cs[o]?).isSome=true)/\dd P (some (V.opt (took (r.trim rs j) want) (((x.aP (r.trim rs)).s3 none fun cs=>cs[o]?).getD .bad))) d D os aM r h Q):=gi rfl
theorem aga {o n:Nat} {x:aT}:bo P (.os D (⟨d,(.vC o n x),none,rs⟩::os)::aM) .normal r h Q=dd P ((x.aP (r.trim rs)).s3 none fun cs=>some (V.agg ((cs.drop o).take n))) d D os aM r h Q:=gj rfl
theorem ahi {o n:Nat} {x:aT} {j:Nat} {want:Bool}:bo P (.os D (⟨d,(.vC o n x),some (j,want),rs⟩::os)::aM) .normal r h Q=(e5 (r.trim rs j)/\eL (took (r.trim rs j) want) (((x.aP (r.trim rs)).s3 none fun cs=>some (V.agg ((cs.drop o).take n))).isSome=true)/\dd P (some (V.opt (took (r.trim rs j) want) (((x.aP (r.trim rs)).s3 none fun cs=>some (V.agg ((cs.drop o).take n))).getD .bad))) d D os aM r h Q):=gi rfl
theorem age {n:Nat} {x i:aT}:bo P (.os D (⟨d,(.cr n x i),none,rs⟩::os)::aM) .normal r h Q=dd P (fK n (x.aP (r.trim rs)) (i.aP (r.trim rs))) d D os aM r h Q:=gj rfl
theorem ahk {n:Nat} {x i:aT} {j:Nat} {want:Bool}:bo P (.os D (⟨d,(.cr n x i),some (j,want),rs⟩::os)::aM) .normal r h Q=(e5 (r.trim rs j)/\eL (took (r.trim rs j) want) ((fK n (x.aP (r.trim rs)) (i.aP (r.trim rs))).isSome=true)/\dd P (some (V.opt (took (r.trim rs j) want) ((fK n (x.aP (r.trim rs)) (i.aP (r.trim rs))).getD .bad))) d D os aM r h Q):=gi rfl
theorem agf {m n:Nat} {x i:aT}:bo P (.os D (⟨d,(.ur m n x i),none,rs⟩::os)::aM) .normal r h Q=dd P ((sP m n).run (x.aP (r.trim rs)) (i.aP (r.trim rs))) d D os aM r h Q:=gj rfl
theorem ahl {m n:Nat} {x i:aT} {j:Nat} {want:Bool}:bo P (.os D (⟨d,(.ur m n x i),some (j,want),rs⟩::os)::aM) .normal r h Q=(e5 (r.trim rs j)/\eL (took (r.trim rs j) want) (((sP m n).run (x.aP (r.trim rs)) (i.aP (r.trim rs))).isSome=true)/\dd P (some (V.opt (took (r.trim rs j) want) (((sP m n).run (x.aP (r.trim rs)) (i.aP (r.trim rs))).getD .bad))) d D os aM r h Q):=gi rfl
theorem agj {x i:aT}:bo P (.os D (⟨d,(.lJ x i),none,rs⟩::os)::aM) .normal r h Q=dd P (sR.run (x.aP (r.trim rs)) (i.aP (r.trim rs))) d D os aM r h Q:=gj rfl
theorem aho {x i:aT} {j:Nat} {want:Bool}:bo P (.os D (⟨d,(.lJ x i),some (j,want),rs⟩::os)::aM) .normal r h Q=(e5 (r.trim rs j)/\eL (took (r.trim rs j) want) ((sR.run (x.aP (r.trim rs)) (i.aP (r.trim rs))).isSome=true)/\dd P (some (V.opt (took (r.trim rs j) want) ((sR.run (x.aP (r.trim rs)) (i.aP (r.trim rs))).getD .bad))) d D os aM r h Q):=gi rfl
theorem agi {t:TypeId} {x i:aT}:bo P (.os D (⟨d,(.jJ t x i),none,rs⟩::os)::aM) .normal r h Q=dd P ((sQ P t).run (x.aP (r.trim rs)) (i.aP (r.trim rs))) d D os aM r h Q:=gj rfl
theorem ahn {t:TypeId} {x i:aT} {j:Nat} {want:Bool}:bo P (.os D (⟨d,(.jJ t x i),some (j,want),rs⟩::os)::aM) .normal r h Q=(e5 (r.trim rs j)/\eL (took (r.trim rs j) want) (((sQ P t).run (x.aP (r.trim rs)) (i.aP (r.trim rs))).isSome=true)/\dd P (some (V.opt (took (r.trim rs j) want) (((sQ P t).run (x.aP (r.trim rs)) (i.aP (r.trim rs))).getD .bad))) d D os aM r h Q):=gi rfl
theorem agr {k:ja} {z:V} {ok:Bool} {x i:aT}:bo P (.os D (⟨d,(.look k z ok x i),none,rs⟩::os)::aM) .normal r h Q=dd P (gk k.eq z ok h (x.aP (r.trim rs)) (i.aP (r.trim rs))) d D os aM r h Q:=gj rfl
theorem ahv {k:ja} {z:V} {ok:Bool} {x i:aT} {j:Nat} {want:Bool}:bo P (.os D (⟨d,(.look k z ok x i),some (j,want),rs⟩::os)::aM) .normal r h Q=(e5 (r.trim rs j)/\eL (took (r.trim rs j) want) ((gk k.eq z ok h (x.aP (r.trim rs)) (i.aP (r.trim rs))).isSome=true)/\dd P (some (V.opt (took (r.trim rs j) want) ((gk k.eq z ok h (x.aP (r.trim rs)) (i.aP (r.trim rs))).getD .bad))) d D os aM r h Q):=gi rfl
theorem af9 {x:aT} {i:Nat}:bo P (.os D (⟨d,(.ext x i),none,rs⟩::os)::aM) .normal r h Q=dd P ((x.aP (r.trim rs)).B8 none fun ag=>ag[i]?) d D os aM r h Q:=gj rfl
theorem ahf {x:aT} {i:Nat} {j:Nat} {want:Bool}:bo P (.os D (⟨d,(.ext x i),some (j,want),rs⟩::os)::aM) .normal r h Q=(e5 (r.trim rs j)/\eL (took (r.trim rs j) want) (((x.aP (r.trim rs)).B8 none fun ag=>ag[i]?).isSome=true)/\dd P (some (V.opt (took (r.trim rs j) want) (((x.aP (r.trim rs)).B8 none fun ag=>ag[i]?).getD .bad))) d D os aM r h Q):=gi rfl
theorem agA {args:List aT}:bo P (.os D (⟨d,(.yV args),none,rs⟩::os)::aM) .normal r h Q=dd P (kN (fun b a=>!Int.leB a b) (aT.fx (r.trim rs) args)) d D os aM r h Q:=gj rfl
theorem ahC {args:List aT} {j:Nat} {want:Bool}:bo P (.os D (⟨d,(.yV args),some (j,want),rs⟩::os)::aM) .normal r h Q=(e5 (r.trim rs j)/\eL (took (r.trim rs j) want) ((kN (fun b a=>!Int.leB a b) (aT.fx (r.trim rs) args)).isSome=true)/\dd P (some (V.opt (took (r.trim rs j) want) ((kN (fun b a=>!Int.leB a b) (aT.fx (r.trim rs) args)).getD .bad))) d D os aM r h Q):=gi rfl
theorem agD {args:List aT}:bo P (.os D (⟨d,(.ea args),none,rs⟩::os)::aM) .normal r h Q=dd P (kN (fun b a=>!Int.leB b a) (aT.fx (r.trim rs) args)) d D os aM r h Q:=gj rfl
theorem ahE {args:List aT} {j:Nat} {want:Bool}:bo P (.os D (⟨d,(.ea args),some (j,want),rs⟩::os)::aM) .normal r h Q=(e5 (r.trim rs j)/\eL (took (r.trim rs j) want) ((kN (fun b a=>!Int.leB b a) (aT.fx (r.trim rs) args)).isSome=true)/\dd P (some (V.opt (took (r.trim rs j) want) ((kN (fun b a=>!Int.leB b a) (aT.fx (r.trim rs) args)).getD .bad))) d D os aM r h Q):=gi rfl
theorem af0 {k:IntKind} {x:aT}:bo P (.os D (⟨d,(.eB (.int k) x),none,rs⟩::os)::aM) .normal r h Q=dd P (DH k (x.aP (r.trim rs))) d D os aM r h Q:=gj rfl
theorem aha {k:IntKind} {x:aT} {j:Nat} {want:Bool}:bo P (.os D (⟨d,(.eB (.int k) x),some (j,want),rs⟩::os)::aM) .normal r h Q=(e5 (r.trim rs j)/\eL (took (r.trim rs j) want) ((DH k (x.aP (r.trim rs))).isSome=true)/\dd P (some (V.opt (took (r.trim rs j) want) ((DH k (x.aP (r.trim rs))).getD .bad))) d D os aM r h Q):=gi rfl
theorem ago {x:aT}:bo P (.os D (⟨d,(.len .slice x),none,rs⟩::os)::aM) .normal r h Q=dd P (hJ (x.aP (r.trim rs))) d D os aM r h Q:=gj rfl
theorem aht {x:aT} {j:Nat} {want:Bool}:bo P (.os D (⟨d,(.len .slice x),some (j,want),rs⟩::os)::aM) .normal r h Q=(e5 (r.trim rs j)/\eL (took (r.trim rs j) want) ((hJ (x.aP (r.trim rs))).isSome=true)/\dd P (some (V.opt (took (r.trim rs j) want) ((hJ (x.aP (r.trim rs))).getD .bad))) d D os aM r h Q):=gi rfl
theorem agp {x:aT}:bo P (.os D (⟨d,(.len .str x),none,rs⟩::os)::aM) .normal r h Q=dd P (Fh (x.aP (r.trim rs))) d D os aM r h Q:=gj rfl
theorem ahu {x:aT} {j:Nat} {want:Bool}:bo P (.os D (⟨d,(.len .str x),some (j,want),rs⟩::os)::aM) .normal r h Q=(e5 (r.trim rs j)/\eL (took (r.trim rs j) want) ((Fh (x.aP (r.trim rs))).isSome=true)/\dd P (some (V.opt (took (r.trim rs j) want) ((Fh (x.aP (r.trim rs))).getD .bad))) d D os aM r h Q):=gi rfl
theorem agm {n:Nat} {x:aT}:bo P (.os D (⟨d,(.len (.arr n) x),none,rs⟩::os)::aM) .normal r h Q=dd P (some (V.int .i64 n)) d D os aM r h Q:=gj rfl
theorem ahr {n:Nat} {x:aT} {j:Nat} {want:Bool}:bo P (.os D (⟨d,(.len (.arr n) x),some (j,want),rs⟩::os)::aM) .normal r h Q=(e5 (r.trim rs j)/\eL (took (r.trim rs j) want) ((some (V.int .i64 n)).isSome=true)/\dd P (some (V.opt (took (r.trim rs j) want) ((some (V.int .i64 n)).getD .bad))) d D os aM r h Q):=gi rfl
theorem agF {z:List V}:bo P (.os D (⟨d,(.new z),none,rs⟩::os)::aM) .normal r h Q=gP P (qc (.ptr (aw h.next) 0) (fR h z)) d D os aM r h Q:=ih rfl rfl
theorem ahF {z:List V} {j:Nat} {want:Bool}:bo P (.os D (⟨d,(.new z),some (j,want),rs⟩::os)::aM) .normal r h Q=eW P (r.trim rs j) want d (.new z) rs D os aM r h Q:=hI rfl
theorem afQ {x:aT}:bo P (.os D (⟨d,(.box x),none,rs⟩::os)::aM) .normal r h Q=gP P (NC (x.aP (r.trim rs)).eO (qc (.ptr (aw h.next) 0) (fR h (x.aP (r.trim rs)).cells))) d D os aM r h Q:=ih rfl rfl
theorem ag4 {x:aT} {j:Nat} {want:Bool}:bo P (.os D (⟨d,(.box x),some (j,want),rs⟩::os)::aM) .normal r h Q=eW P (r.trim rs j) want d (.box x) rs D os aM r h Q:=hI rfl
theorem afR {n m:Nat} {z:List V} {bn:List (Nat × Nat × aT)}:bo P (.os D (⟨d,(.hz n m z bn),none,rs⟩::os)::aM) .normal r h Q=gP P (Dw n h (iJ (im z n) (kq (r.trim rs) bn))) d D os aM r h Q:=by rw [ih rfl rfl,alu]
theorem ag5 {n m:Nat} {z:List V} {bn:List (Nat × Nat × aT)} {j:Nat} {want:Bool}:bo P (.os D (⟨d,(.hz n m z bn),some (j,want),rs⟩::os)::aM) .normal r h Q=eW P (r.trim rs j) want d (.hz n m z bn) rs D os aM r h Q:=hI rfl
theorem agV {n:Nat} {x y:aT}:bo P (.os D (⟨d,(.st n x y),none,rs⟩::os)::aM) .normal r h Q=gP P (qc .bad (w_ n h (x.aP (r.trim rs)) (y.aP (r.trim rs)))) d D os aM r h Q:=ih rfl rfl
theorem ahP {n:Nat} {x y:aT} {j:Nat} {want:Bool}:bo P (.os D (⟨d,(.st n x y),some (j,want),rs⟩::os)::aM) .normal r h Q=eW P (r.trim rs j) want d (.st n x y) rs D os aM r h Q:=hI rfl
theorem agz {n:Nat} {z:List V} {l c:aT}:bo P (.os D (⟨d,(.yU n z l c),none,rs⟩::os)::aM) .normal r h Q=gP P (uC n z (l.aP (r.trim rs)) (c.aP (r.trim rs)) h) d D os aM r h Q:=ih rfl rfl
theorem ahB {n:Nat} {z:List V} {l c:aT} {j:Nat} {want:Bool}:bo P (.os D (⟨d,(.yU n z l c),some (j,want),rs⟩::os)::aM) .normal r h Q=eW P (r.trim rs j) want d (.yU n z l c) rs D os aM r h Q:=hI rfl
theorem agY {k:ja} {m i x:aT}:bo P (.os D (⟨d,(.o_ k m i x),none,rs⟩::os)::aM) .normal r h Q=gP P (qc .bad (jT k.eq h (m.aP (r.trim rs)) (i.aP (r.trim rs)) (x.aP (r.trim rs)))) d D os aM r h Q:=ih rfl rfl
theorem ahR {k:ja} {m i x:aT} {j:Nat} {want:Bool}:bo P (.os D (⟨d,(.o_ k m i x),some (j,want),rs⟩::os)::aM) .normal r h Q=eW P (r.trim rs j) want d (.o_ k m i x) rs D os aM r h Q:=hI rfl
theorem agy {x:Option aT}:bo P (.os D (⟨d,(.sW x),none,rs⟩::os)::aM) .normal r h Q=gP P (rn (aT.opt (r.trim rs) x) h) d D os aM r h Q:=ih rfl rfl
theorem ahA {x:Option aT} {j:Nat} {want:Bool}:bo P (.os D (⟨d,(.sW x),some (j,want),rs⟩::os)::aM) .normal r h Q=eW P (r.trim rs j) want d (.sW x) rs D os aM r h Q:=hI rfl
theorem agQ {x:aT}:bo P (.os D (⟨d,(.zj x),none,rs⟩::os)::aM) .normal r h Q=gP P (Ga (x.aP (r.trim rs)) h) d D os aM r h Q:=(ih rfl rfl).trans (by first | rfl | (unfold Ga;simp only [G.run];cases x.aP (r.trim rs)<;>rfl) | (unfold Ga;cases x.aP (r.trim rs)<;>rfl))
theorem ahM {x:aT} {j:Nat} {want:Bool}:bo P (.os D (⟨d,(.zj x),some (j,want),rs⟩::os)::aM) .normal r h Q=eW P (r.trim rs j) want d (.zj x) rs D os aM r h Q:=hI rfl
theorem agI {x:aT}:bo P (.os D (⟨d,(.wQ x),none,rs⟩::os)::aM) .normal r h Q=gP P (wO (x.aP (r.trim rs)) h) d D os aM r h Q:=ih rfl rfl
theorem ahH {x:aT} {j:Nat} {want:Bool}:bo P (.os D (⟨d,(.wQ x),some (j,want),rs⟩::os)::aM) .normal r h Q=eW P (r.trim rs j) want d (.wQ x) rs D os aM r h Q:=hI rfl
theorem afJ {n:Nat} {s x:aT}:bo P (.os D (⟨d,(.app n s x),none,rs⟩::os)::aM) .normal r h Q=gP P (jZ n (s.aP (r.trim rs)) (x.aP (r.trim rs)) h) d D os aM r h Q:=ih rfl rfl
theorem ag1 {n:Nat} {s x:aT} {j:Nat} {want:Bool}:bo P (.os D (⟨d,(.app n s x),some (j,want),rs⟩::os)::aM) .normal r h Q=eW P (r.trim rs j) want d (.app n s x) rs D os aM r h Q:=hI rfl
theorem afX {n:Nat} {jf s:aT}:bo P (.os D (⟨d,(.copy n jf s),none,rs⟩::os)::aM) .normal r h Q=gP P (copyV n (jf.aP (r.trim rs)) (s.aP (r.trim rs)) h) d D os aM r h Q:=ih rfl rfl
theorem ag' {n:Nat} {jf s:aT} {j:Nat} {want:Bool}:bo P (.os D (⟨d,(.copy n jf s),some (j,want),rs⟩::os)::aM) .normal r h Q=eW P (r.trim rs j) want d (.copy n jf s) rs D os aM r h Q:=hI rfl
theorem agn {x:aT}:bo P (.os D (⟨d,(.len .map x),none,rs⟩::os)::aM) .normal r h Q=gP P (BQ [x.aP (r.trim rs)] h) d D os aM r h Q:=ih rfl rfl
theorem ahs {x:aT} {j:Nat} {want:Bool}:bo P (.os D (⟨d,(.len .map x),some (j,want),rs⟩::os)::aM) .normal r h Q=eW P (r.trim rs j) want d (.len .map x) rs D os aM r h Q:=hI rfl
theorem afZ {x:aT}:bo P (.os D (⟨d,(.eB .bytes x),none,rs⟩::os)::aM) .normal r h Q=gP P (Az.run (x.aP (r.trim rs)) h) d D os aM r h Q:=ih rfl rfl
theorem ag_ {x:aT} {j:Nat} {want:Bool}:bo P (.os D (⟨d,(.eB .bytes x),some (j,want),rs⟩::os)::aM) .normal r h Q=eW P (r.trim rs j) want d (.eB .bytes x) rs D os aM r h Q:=hI rfl
theorem af2 {x:aT}:bo P (.os D (⟨d,(.eB .str x),none,rs⟩::os)::aM) .normal r h Q=gP P (tO.run (x.aP (r.trim rs)) h) d D os aM r h Q:=ih rfl rfl
theorem ahc {x:aT} {j:Nat} {want:Bool}:bo P (.os D (⟨d,(.eB .str x),some (j,want),rs⟩::os)::aM) .normal r h Q=eW P (r.trim rs j) want d (.eB .str x) rs D os aM r h Q:=hI rfl
theorem af1 {s jf:TypeId} {x:aT}:bo P (.os D (⟨d,(.eB (.other s jf) x),none,rs⟩::os)::aM) .normal r h Q=gP P ((qM P s jf).run (x.aP (r.trim rs)) h) d D os aM r h Q:=ih rfl rfl
theorem ahb {s jf:TypeId} {x:aT} {j:Nat} {want:Bool}:bo P (.os D (⟨d,(.eB (.other s jf) x),some (j,want),rs⟩::os)::aM) .normal r h Q=eW P (r.trim rs j) want d (.eB (.other s jf) x) rs D os aM r h Q:=hI rfl
theorem ag7 {f:FuncId} {args:List aT} {j:Nat} {want:Bool}:bo P (.os D (⟨d,(.call f args),some (j,want),rs⟩::os)::aM) .normal r h Q=eW P (r.trim rs j) want d (.call f args) rs D os aM r h Q:=hI rfl
theorem ag8 {f:aT} {args:List aT} {j:Nat} {want:Bool}:bo P (.os D (⟨d,(.lD f args),some (j,want),rs⟩::os)::aM) .normal r h Q=eW P (r.trim rs j) want d (.lD f args) rs D os aM r h Q:=hI rfl
theorem afU {x:aT}:bo P (.os D (⟨d,(.xP x),none,rs⟩::os)::aM) .normal r h Q=dd P (tN (x.aP (r.trim rs))) d D os aM r h Q:=gj rfl
theorem ag9 {x:aT} {j:Nat} {want:Bool}:bo P (.os D (⟨d,(.xP x),some (j,want),rs⟩::os)::aM) .normal r h Q=(e5 (r.trim rs j)/\eL (took (r.trim rs j) want) ((tN (x.aP (r.trim rs))).isSome=true)/\dd P (some (V.opt (took (r.trim rs j) want) ((tN (x.aP (r.trim rs))).getD .bad))) d D os aM r h Q):=gi rfl
theorem ags {z:V} {ok:Bool} {x i:aT}:bo P (.os D (⟨d,(.yQ z ok x i),none,rs⟩::os)::aM) .normal r h Q=dd P (ha ⟨js h⟩ z ok h (x.aP (r.trim rs)) (i.aP (r.trim rs))) d D os aM r h Q:=gj rfl
theorem ahw {z:V} {ok:Bool} {x i:aT} {j:Nat} {want:Bool}:bo P (.os D (⟨d,(.yQ z ok x i),some (j,want),rs⟩::os)::aM) .normal r h Q=(e5 (r.trim rs j)/\eL (took (r.trim rs j) want) ((ha ⟨js h⟩ z ok h (x.aP (r.trim rs)) (i.aP (r.trim rs))).isSome=true)/\dd P (some (V.opt (took (r.trim rs j) want) ((ha ⟨js h⟩ z ok h (x.aP (r.trim rs)) (i.aP (r.trim rs))).getD .bad))) d D os aM r h Q):=gi rfl
theorem agt {k:TypeId} {z:V} {ok:Bool} {x i:aT}:bo P (.os D (⟨d,(.looks k z ok x i),none,rs⟩::os)::aM) .normal r h Q=dd P (bif lg P k (i.aP (r.trim rs)) then ha (structEq P k) z ok h (x.aP (r.trim rs)) (i.aP (r.trim rs)) else none) d D os aM r h Q:=gj rfl
theorem ahx {k:TypeId} {z:V} {ok:Bool} {x i:aT} {j:Nat} {want:Bool}:bo P (.os D (⟨d,(.looks k z ok x i),some (j,want),rs⟩::os)::aM) .normal r h Q=(e5 (r.trim rs j)/\eL (took (r.trim rs j) want) ((bif lg P k (i.aP (r.trim rs)) then ha (structEq P k) z ok h (x.aP (r.trim rs)) (i.aP (r.trim rs)) else none).isSome=true)/\dd P (some (V.opt (took (r.trim rs j) want) ((bif lg P k (i.aP (r.trim rs)) then ha (structEq P k) z ok h (x.aP (r.trim rs)) (i.aP (r.trim rs)) else none).getD .bad))) d D os aM r h Q):=gi rfl
theorem agL {neg:Bool} {x y:aT}:bo P (.os D (⟨d,(.wV neg x y),none,rs⟩::os)::aM) .normal r h Q=dd P (zc neg h (x.aP (r.trim rs)) (y.aP (r.trim rs))) d D os aM r h Q:=gj rfl
theorem ahJ {neg:Bool} {x y:aT} {j:Nat} {want:Bool}:bo P (.os D (⟨d,(.wV neg x y),some (j,want),rs⟩::os)::aM) .normal r h Q=(e5 (r.trim rs j)/\eL (took (r.trim rs j) want) ((zc neg h (x.aP (r.trim rs)) (y.aP (r.trim rs))).isSome=true)/\dd P (some (V.opt (took (r.trim rs j) want) ((zc neg h (x.aP (r.trim rs)) (y.aP (r.trim rs))).getD .bad))) d D os aM r h Q):=gi rfl
theorem afK {n:Nat} {z:List V} {s x:aT}:bo P (.os D (⟨d,(.Aj n z s x),none,rs⟩::os)::aM) .normal r h Q=gP P (Dm n z (s.aP (r.trim rs)) (x.aP (r.trim rs)) h) d D os aM r h Q:=ih rfl rfl
theorem ag2 {n:Nat} {z:List V} {s x:aT} {j:Nat} {want:Bool}:bo P (.os D (⟨d,(.Aj n z s x),some (j,want),rs⟩::os)::aM) .normal r h Q=eW P (r.trim rs j) want d (.Aj n z s x) rs D os aM r h Q:=hI rfl
theorem agZ {m i x:aT}:bo P (.os D (⟨d,(.CA m i x),none,rs⟩::os)::aM) .normal r h Q=gP P (qc .bad (jT ⟨js h⟩ h (m.aP (r.trim rs)) (i.aP (r.trim rs)) (x.aP (r.trim rs)))) d D os aM r h Q:=ih rfl rfl
theorem ahS {m i x:aT} {j:Nat} {want:Bool}:bo P (.os D (⟨d,(.CA m i x),some (j,want),rs⟩::os)::aM) .normal r h Q=eW P (r.trim rs j) want d (.CA m i x) rs D os aM r h Q:=hI rfl
theorem ag0 {k:TypeId} {m i x:aT}:bo P (.os D (⟨d,(.zA k m i x),none,rs⟩::os)::aM) .normal r h Q=gP P (qc .bad (bif lg P k (i.aP (r.trim rs)) then jT (structEq P k) h (m.aP (r.trim rs)) (i.aP (r.trim rs)) (x.aP (r.trim rs)) else none)) d D os aM r h Q:=ih rfl rfl
theorem ahT {k:TypeId} {m i x:aT} {j:Nat} {want:Bool}:bo P (.os D (⟨d,(.zA k m i x),some (j,want),rs⟩::os)::aM) .normal r h Q=eW P (r.trim rs j) want d (.zA k m i x) rs D os aM r h Q:=hI rfl
theorem agw {z:V} {m i:aT}:bo P (.os D (⟨d,(.BZ z m i),none,rs⟩::os)::aM) .normal r h Q=gP P (DS z (m.aP (r.trim rs)) (i.aP (r.trim rs)) h) d D os aM r h Q:=ih rfl rfl
theorem ahy {z:V} {m i:aT} {j:Nat} {want:Bool}:bo P (.os D (⟨d,(.BZ z m i),some (j,want),rs⟩::os)::aM) .normal r h Q=eW P (r.trim rs j) want d (.BZ z m i) rs D os aM r h Q:=hI rfl
theorem agx {k:TypeId} {z:V} {m i:aT}:bo P (.os D (⟨d,(.yT k z m i),none,rs⟩::os)::aM) .normal r h Q=gP P (xX P k z (m.aP (r.trim rs)) (i.aP (r.trim rs)) h) d D os aM r h Q:=ih rfl rfl
theorem ahz {k:TypeId} {z:V} {m i:aT} {j:Nat} {want:Bool}:bo P (.os D (⟨d,(.yT k z m i),some (j,want),rs⟩::os)::aM) .normal r h Q=eW P (r.trim rs j) want d (.yT k z m i) rs D os aM r h Q:=hI rfl
theorem af7 {m s x:aT}:bo P (.os D (⟨d,(.x1 m s x),none,rs⟩::os)::aM) .normal r h Q=gP P (qc .bad (qP h (m.aP (r.trim rs)) (s.aP (r.trim rs)) (x.aP (r.trim rs)))) d D os aM r h Q:=ih rfl rfl
theorem ahe {m s x:aT} {j:Nat} {want:Bool}:bo P (.os D (⟨d,(.x1 m s x),some (j,want),rs⟩::os)::aM) .normal r h Q=eW P (r.trim rs j) want d (.x1 m s x) rs D os aM r h Q:=hI rfl
theorem agP {x:aT}:bo P (.os D (⟨d,(.w4 x),none,rs⟩::os)::aM) .normal r h Q=gP P (rangeMap (x.aP (r.trim rs)) h) d D os aM r h Q:=ih rfl rfl
theorem ahL {x:aT} {j:Nat} {want:Bool}:bo P (.os D (⟨d,(.w4 x),some (j,want),rs⟩::os)::aM) .normal r h Q=eW P (r.trim rs j) want d (.w4 x) rs D os aM r h Q:=hI rfl
theorem agJ {x:aT}:bo P (.os D (⟨d,(.lS x),none,rs⟩::os)::aM) .normal r h Q=gP P (gm (x.aP (r.trim rs)) h) d D os aM r h Q:=ih rfl rfl
theorem ahI {x:aT} {j:Nat} {want:Bool}:bo P (.os D (⟨d,(.lS x),some (j,want),rs⟩::os)::aM) .normal r h Q=eW P (r.trim rs j) want d (.lS x) rs D os aM r h Q:=hI rfl
theorem af5 {x:aT}:bo P (.os D (⟨d,(.vy x),none,rs⟩::os)::aM) .normal r h Q=gP P (so (x.aP (r.trim rs)) h) d D os aM r h Q:=ih rfl rfl
theorem ahd {x:aT} {j:Nat} {want:Bool}:bo P (.os D (⟨d,(.vy x),some (j,want),rs⟩::os)::aM) .normal r h Q=eW P (r.trim rs j) want d (.vy x) rs D os aM r h Q:=hI rfl
set_option linter.defProp false in
def mw:=And.intro @afU<|And.intro @ag9<|And.intro @ags<|And.intro @ahw<|And.intro @agt<|And.intro @ahx<|And.intro @agL<|And.intro @ahJ<|And.intro @afK<|And.intro @ag2<|And.intro @agZ<|And.intro @ahS<|And.intro @ag0<|And.intro @ahT<|And.intro @agw<|And.intro @ahy<|And.intro @agx<|And.intro @ahz<|And.intro @af7<|And.intro @ahe<|And.intro @agP<|And.intro @ahL<|And.intro @agJ<|And.intro @ahI<|And.intro @af5 @ahd
end
theorem aje (h:ae) (ag:List V):fR h ag=if ag.length<=top then some (h.new (.bQ ag 0 false)) else none:=by
 by_cases aA:ag.length<=top
 . rw [apz aA,Tu aA]
 . rw [apw aA];unfold fR;rw [show Nat.ble ag.length top=false from by rw [<-ap2,apE];exact aA];rfl
theorem ah1 (h:ae) (n:Nat) (b:aL) (off:Nat) (y:V) (ag:List V) (cH:Nat) (st:Bool):
 m' n h b off y (.bQ ag cH st)=if y.cells.length=n/\eY y.cells=true/\off+n<=ag.length then some (h.set b (.bQ (nm ag off y.cells) cH st)) else none:=by
 by_cases ao:y.cells.length=n/\eY y.cells=true/\off+n<=ag.length
 . rw [apz ao,Kr ao.1 ao.2.1 ao.2.2]
 . rw [apw ao];unfold m';by_cases aa:y.cells.length=n
   . rw [show Nat.beq y.cells.length n=true from by rw [apV];exact aa];simp only [apu,b1.bQ,b1.on];by_cases ad:eY y.cells=true
     . have aJ:¬off+y.cells.length<=ag.length:=fun q=>ao ⟨aa,ad,by omega⟩;rw [show Nat.ble (off+y.cells.length) ag.length=false from by rw [<-ap2,apE];exact aJ];rfl
     . rw [show eY y.cells=false from by simpa using ad,aqG];rfl
   . rw [show Nat.beq y.cells.length n=false from by rw [<-ap2,apV];exact aa];rfl
theorem abD (cells:List V) (off size:Nat) (v:V) (rest:List (Nat × Nat × V)):
 iJ cells ((off,size,v)::rest)=if v.eO=true/\v.cells.length=size/\off+size<=cells.length then iJ (nm cells off v.cells) rest else none:=by
 by_cases ao:v.eO=true/\v.cells.length=size/\off+size<=cells.length
 . rw [apz ao,abC ao.1 ao.2.1 ao.2.2]
 . rw [apw ao];simp only [iJ];cases ah:(v.eO&&(Nat.beq v.cells.length size&&Nat.ble (off+v.cells.length) cells.length)) with
   | false=>rfl
   | true=>
     simp only [apq,apV,apE] at ah;exact absurd ⟨ah.1,ah.2.1,by omega⟩ ao
theorem ZD (b:Bool):V.cells (.bool b:V)=[.bool b]:=rfl
theorem ajQ (b:Bool):V.one (.bool b:V)=true:=rfl
theorem ach (b:Bool):V.eO (.bool b:V)=true:=rfl
theorem ZH (k:IntKind) (n:Int):V.cells (.int k n:V)=[.int k n]:=rfl
theorem ajU (k:IntKind) (n:Int):V.one (.int k n:V)=true:=rfl
theorem acm (k:IntKind) (n:Int):V.eO (.int k n:V)=true:=rfl
theorem ZR (s:List UInt8):V.cells (.str s:V)=[.str s]:=rfl
theorem aj4 (s:List UInt8):V.one (.str s:V)=true:=rfl
theorem acw (s:List UInt8):V.eO (.str s:V)=true:=rfl
theorem ZM:V.cells (.kb:V)=[.kb]:=rfl
theorem aj0:V.one (.kb:V)=true:=rfl
theorem acr:V.eO (.kb:V)=true:=rfl
theorem ZO (b:aL) (o:Nat):V.cells (.ptr b o:V)=[.ptr b o]:=rfl
theorem aj2 (b:aL) (o:Nat):V.one (.ptr b o:V)=true:=rfl
theorem acu (b:aL) (o:Nat):V.eO (.ptr b o:V)=true:=rfl
theorem ZQ (b:aL) (o l c:Nat):V.cells (.slice b o l c:V)=[.slice b o l c]:=rfl
theorem aj3 (b:aL) (o l c:Nat):V.one (.slice b o l c:V)=true:=rfl
theorem acv (b:aL) (o l c:Nat):V.eO (.slice b o l c:V)=true:=rfl
theorem ZF (b:aL) (o l c:Nat):V.cells (.eh b o l c:V)=[.eh b o l c]:=rfl
theorem ajS (b:aL) (o l c:Nat):V.one (.eh b o l c:V)=true:=rfl
theorem acj (b:aL) (o l c:Nat):V.eO (.eh b o l c:V)=true:=rfl
theorem ZS (b:aL) (o l c:Nat):V.cells (.gI b o l c:V)=[.gI b o l c]:=rfl
theorem aj5 (b:aL) (o l c:Nat):V.one (.gI b o l c:V)=true:=rfl
theorem acx (b:aL) (o l c:Nat):V.eO (.gI b o l c:V)=true:=rfl
theorem ZN:V.cells (.bg:V)=[.bg]:=rfl
theorem aj1:V.one (.bg:V)=true:=rfl
theorem acs:V.eO (.bg:V)=true:=rfl
theorem ZL:V.cells (.jM:V)=[.jM]:=rfl
theorem ajZ:V.one (.jM:V)=true:=rfl
theorem acq:V.eO (.jM:V)=true:=rfl
theorem ZI (b:aL):V.cells (.map b:V)=[.map b]:=rfl
theorem ajV (b:aL):V.one (.map b:V)=true:=rfl
theorem acn (b:aL):V.eO (.map b:V)=true:=rfl
theorem ZE (f:FuncId) (cs:List V):V.cells (.func f cs:V)=[.func f cs]:=rfl
theorem ajR (f:FuncId) (cs:List V):V.one (.func f cs:V)=true:=rfl
theorem aci (f:FuncId) (cs:List V):V.eO (.func f cs:V)=true:=rfl
theorem ZK:V.cells (.kJ:V)=[.kJ]:=rfl
theorem ajY:V.one (.kJ:V)=true:=rfl
theorem acp:V.eO (.kJ:V)=true:=rfl
theorem ZG (t:TypeId) (v:V):V.cells (.iface t v:V)=[.iface t v]:=rfl
theorem ajT (t:TypeId) (v:V):V.one (.iface t v:V)=true:=rfl
theorem ack (t:TypeId) (v:V):V.eO (.iface t v:V)=true:=rfl
theorem ZJ:V.cells (.nilIface:V)=[.nilIface]:=rfl
theorem ajX:V.one (.nilIface:V)=true:=rfl
theorem aco:V.eO (.nilIface:V)=true:=rfl
theorem ZC (cs:List V):V.cells (.agg cs)=cs:=rfl
theorem acg (cs:List V):V.eO (.agg cs)=true:=rfl
theorem acy (cs:List V):V.eO (.tuple cs)=true:=rfl
theorem Xu (n:Nat):n+1+1=n+2:=rfl
theorem XA (n:Nat):n+2+1=n+3:=rfl
theorem XB (n:Nat):n+3+1=n+4:=rfl
theorem XC (n:Nat):n+4+1=n+5:=rfl
theorem XD (n:Nat):n+5+1=n+6:=rfl
theorem XE (n:Nat):n+6+1=n+7:=rfl
theorem XF (n:Nat):n+7+1=n+8:=rfl
theorem XG (n:Nat):n+8+1=n+9:=rfl
theorem XH (n:Nat):n+9+1=n+10:=rfl
theorem Xt (n:Nat):n+10+1=n+11:=rfl
theorem Xv (n:Nat):n+11+1=n+12:=rfl
theorem Xw (n:Nat):n+12+1=n+13:=rfl
theorem Xx (n:Nat):n+13+1=n+14:=rfl
theorem Xy (n:Nat):n+14+1=n+15:=rfl
theorem Xz (n:Nat):n+15+1=n+16:=rfl
theorem TD (n:Nat):(n+1=n)=False:=apy (by omega)
theorem anj (n:Nat):(n=n+1)=False:=apy (by omega)
theorem B5 (n:Nat):(n+2=n)=False:=apy (by omega)
theorem ank (n:Nat):(n=n+2)=False:=apy (by omega)
theorem aju (n:Nat):(n+3=n)=False:=apy (by omega)
theorem anl (n:Nat):(n=n+3)=False:=apy (by omega)
theorem ajv (n:Nat):(n+4=n)=False:=apy (by omega)
theorem anm (n:Nat):(n=n+4)=False:=apy (by omega)
theorem ajw (n:Nat):(n+5=n)=False:=apy (by omega)
theorem ann (n:Nat):(n=n+5)=False:=apy (by omega)
theorem ajx (n:Nat):(n+6=n)=False:=apy (by omega)
theorem ano (n:Nat):(n=n+6)=False:=apy (by omega)
theorem ajy (n:Nat):(n+7=n)=False:=apy (by omega)
theorem anp (n:Nat):(n=n+7)=False:=apy (by omega)
theorem ajz (n:Nat):(n+8=n)=False:=apy (by omega)
theorem anq (n:Nat):(n=n+8)=False:=apy (by omega)
theorem ab_ {P:Program} {r:bc} {h:ae} {Q:cO->bc->ae->Prop} {aM:List h9} {os:List bw} {D:Option iG} {d:Option Nat} {g:G} {rs:List Nat}:eW P (.bool true) true d g rs D os aM r h Q=bo P (.os D (⟨d,g,none,rs⟩::os)::aM) .normal r h Q:=by rw [QN];simp
theorem ab8 {P:Program} {r:bc} {h:ae} {Q:cO->bc->ae->Prop} {aM:List h9} {os:List bw} {D:Option iG} {d:Option Nat} {g:G} {rs:List Nat}:eW P (.bool false) false d g rs D os aM r h Q=bo P (.os D (⟨d,g,none,rs⟩::os)::aM) .normal r h Q:=by rw [QM];simp
theorem ab' {P:Program} {r:bc} {h:ae} {Q:cO->bc->ae->Prop} {aM:List h9} {os:List bw} {D:Option iG} {d:Option Nat} {g:G} {rs:List Nat}:eW P (.bool true) false d g rs D os aM r h Q=bo P (.os (jt D r h (.tuple [])) os::aM) .normal (r.set d (.tuple [])) h Q:=by rw [QM];simp
theorem ab9 {P:Program} {r:bc} {h:ae} {Q:cO->bc->ae->Prop} {aM:List h9} {os:List bw} {D:Option iG} {d:Option Nat} {g:G} {rs:List Nat}:eW P (.bool false) true d g rs D os aM r h Q=bo P (.os (jt D r h (.tuple [])) os::aM) .normal (r.set d (.tuple [])) h Q:=by rw [QN];simp
theorem Yg (c:Bool) (a b:V):V.bif (!c) a (V.opt c b)=V.bif (!c) a b:=by cases c<;>rfl
theorem afm (A:Prop):(True->A)=A:=propext ⟨fun q=>q trivial,fun q _=>q⟩
theorem afl (A:Prop):(False->A)=True:=propext ⟨fun _=>trivial,fun _ q=>q.elim⟩
section
variable {P:Program}
theorem gl {b:a1} {aM:List h9} {r:bc} {h:ae} {Q:cO->bc->ae->Prop} (I:bc->ae->Prop) (μ:bc->ae->Nat) (aY:I r h)
 (step:∀r h,I r h->bo P [.c b] .normal r h fun e a_ ab=>e.andThen (I a_ ab/\μ a_ ab<μ r h) (bo P aM e a_ ab Q)):Fp P b aM r h Q:=
 ⟨I,μ,aY,step⟩
theorem ab7 {b want:Bool} {d:Option Nat} {f:FuncId} {args:List aT} {rs:List Nat} {os:List bw} {D:Option iG} {aM:List h9} {r:bc} {h:ae} {Q:cO->bc->ae->Prop} (v:V)
 (bs:(b == want)=true->eV P f (aT.fx (r.trim rs) args) h v h)
 (H:bo P (.os (jt D r h (V.opt (b == want) v)) os::aM) .normal (r.set d (V.opt (b == want) v)) h Q):eW P (.bool b) want d (.call f args) rs D os aM r h Q:=by
 have:=ab6 (P:=P) (c:=true) (b:=b) (want:=want) (d:=d) (f:=f) (args:=args) (rs:=rs) (D:=D) (os:=os) (aM:=aM) (r:=r) (h:=h) (Q:=Q) v;simp only [V.opt,apu,ap6] at this;exact this bs H
theorem QL {b:Bool} {d:Option Nat} {f:FuncId} {args:List aT} {rs:List Nat} {os:List bw} {D:Option iG} {aM:List h9} {r:bc} {h:ae} {Q:cO->bc->ae->Prop} (v:V)
 (bs:(!b)=true->eV P f (aT.fx (r.trim rs) args) h v h)
 (H:bo P (.os (jt D r h (V.opt (!b) v)) os::aM) .normal (r.set d (V.opt (!b) v)) h Q):eW P (.bool b) false d (.call f args) rs D os aM r h Q:=by
 refine ab7 v ?_ ?_<;>rw [beq_false]<;>assumption
def V.toN:V->Nat
 | .int _ n=>n.toNat
 | _=>0
theorem amD (k:IntKind) (n:Int):V.toN (.int k n)=n.toNat:=rfl
theorem hB {f:FuncId} {args:List V} {d:Option Nat} {os:List bw} {D:Option iG} {aM:List h9} {r:bc} {h:ae} {Q:cO->bc->ae->Prop} {v:V}
 (c:eV P f args h v h) (H:bo P (.os (jt D r h v) os::aM) .normal (r.set d v) h Q):qL P f args d D os aM r h Q:=⟨v,h,c,H⟩
theorem cu {f:FuncId} {args:List V} {d:Option Nat} {os:List bw} {D:Option iG} {aM:List h9} {r:bc} {h:ae} {Q:cO->bc->ae->Prop} {K:V->ae->Prop}
 (c:c9 P f args h K) (H:∀v ab,K v ab->bo P (.os (jt D r h v) os::aM) .normal (r.set d v) ab Q):qL P f args d D os aM r h Q:=c.mono H
structure Ext (h ab:ae):Prop where
 next:h.next<=ab.next
 get:∀b,Old h b->ab.get b=h.get b
theorem Ext.refl (h:ae):Ext h h:=⟨apv _,fun _ _=>rfl⟩
theorem Ext.bG {h ab:ae} (e:Ext h ab) {b:aL} (ah:Old h b):Old ab b:=arv ah e.next
theorem Ext.trans {h ab oK:ae} (e:Ext h ab) (cC:Ext ab oK):Ext h oK:=
 ⟨aqo e.next cC.next,fun b ah=>(cC.get b (e.bG ah)).trans (e.get b ah)⟩
theorem Ext.new {h ab:ae} (e:Ext h ab) (k:b1):Ext h (ab.new k):=
 ⟨Nat.le_succ_of_le e.next,fun b ah=>by rw [hV,apw (fun q=>(K3 (h:=h) ah e.next) ▸ q)];exact e.get b ah⟩
theorem Ext.set {h ab:ae} (e:Ext h ab) {i:Nat} (ax:h.next<=i) (k:b1):Ext h (ab.set (aw i) k):=
 ⟨e.next,fun b ah=>by rw [dV,apw (fun q=>(K3 (h:=h) ah ax) ▸ q)];exact e.get b ah⟩
theorem Ext.rd {h ab:ae} (e:Ext h ab) {b:aL} (ah:Old h b) {ag:List V} (H:mE h b ag):mE ab b ag:=by unfold mE at H ⊢;rw [e.get b ah];exact H
def jz (h:ae) (b:aL) (off:Nat) (ag:List V):Prop:=Old h b/\∃us,mE h b us/\off+ag.length<=us.length/\(us.drop off).take ag.length=ag
theorem jz.ext {h ab:ae} (e:Ext h ab) {b:aL} {off:Nat} {ag:List V} (H:jz h b off ag):jz ab b off ag:=by obtain ⟨aY,us,aa,ad,aJ⟩:=H;exact ⟨e.bG aY,us,e.rd aY aa,ad,aJ⟩
theorem jz.dJ {h:ae} {b:aL} {off:Nat} {ag:List V} (H:jz h b off ag) {i:Nat} (ax:i<ag.length):fZ (h.get b) (off+i)=some ag[i]:=by
 obtain ⟨_,us,aa,ad,aJ⟩:=H;rw [aa.dJ,apr (by omega)];congr 1;have:((us.drop off).take ag.length)[i]? =ag[i]? :=by rw [aJ]
 rw [aqs ax,aqJ,apr (by omega),apr ax] at this;simpa using this
theorem jz.fh {h:ae} {b:aL} {off:Nat} {ag:List V} (H:jz h b off ag) {i n:Nat} (ax:i+n<=ag.length):ml n (h.get b) (off+i)=some (.agg ((ag.drop i).take n)):=by
 obtain ⟨_,us,aa,ad,aJ⟩:=H;rw [aa.fh,apz (by omega)];congr 2;have:(((us.drop off).take ag.length).drop i).take n=(ag.drop i).take n:=by rw [aJ]
 rw [<-this,List.drop_take,aqU,List.take_take];congr 1;omega
def fq (h:ae) (size:Nat) (v:V) (n:Nat) (ag:List V):Prop:=
 ag.length=n * size/\match v with
  | .bg=>n=0
  | .slice b off len _=>len=n/\jz h b off ag
  | .eh b off len _=>len=n/\jz h b off ag
  | .gI _ _ _ _=>n=0
  | _=>False
theorem fq.ext {h ab:ae} (e:Ext h ab) {size:Nat} {v:V} {n:Nat} {ag:List V} (H:fq h size v n ag):fq ab size v n ag:=by refine ⟨H.1,?_⟩;have cS:=H.2;cases v<;>simp only at cS ⊢<;>first | exact cS | exact ⟨cS.1,cS.2.ext e⟩
theorem fq.len {h:ae} {size:Nat} {v:V} {n:Nat} {ag:List V} (H:fq h size v n ag):hJ v=some (.int .i64 n):=by
 have cS:=H.2;cases v<;>simp only at cS<;>first
  | (rw [<-cS.1];rfl)
  | (subst cS;rfl)
  | (exact cS.elim)
theorem fq.cr {h:ae} {size:Nat} {v:V} {n:Nat} {ag:List V} (H:fq h size v n ag) {k:IntKind} {i:Nat} (ax:i<n):
 ∃b off,fK size v (.int k i)=some (.ptr b (off+i * size))/\jz h b off ag:=by
 have cS:=H.2;cases v<;>simp only at cS<;>first
  | omega
  | (exact cS.elim)
  | skip
 . rename_i b off len cap;obtain ⟨rfl,aa⟩:=cS;refine ⟨b,off,?_,aa⟩;rw [E5,apz (by omega)];simp
 . rename_i b off len cap;obtain ⟨rfl,aa⟩:=cS;refine ⟨b,off,?_,aa⟩;rw [E4,apz (by omega)];simp
end
structure Mod (M:aL->Prop) (h ab:ae):Prop where
 next:h.next<=ab.next
 get:∀b,Old h b->¬M b->ab.get b=h.get b
theorem Mod.refl (M:aL->Prop) (h:ae):Mod M h h:=⟨apv _,fun _ _ _=>rfl⟩
theorem Mod.bG {M:aL->Prop} {h ab:ae} (e:Mod M h ab) {b:aL} (ah:Old h b):Old ab b:=arv ah e.next
theorem Mod.trans {M:aL->Prop} {h ab oK:ae} (e:Mod M h ab) (cC:Mod M ab oK):Mod M h oK:=
 ⟨aqo e.next cC.next,fun b ah hm=>(cC.get b (e.bG ah) hm).trans (e.get b ah hm)⟩
theorem Mod.mono {M ve:aL->Prop} {h ab:ae} (e:Mod M h ab) (hm:∀b,Old h b->M b->ve b):Mod ve h ab:=
 ⟨e.next,fun b ah aV=>e.get b ah fun q=>aV (hm b ah q)⟩
theorem Mod.new {M:aL->Prop} {h ab:ae} (e:Mod M h ab) (k:b1):Mod M h (ab.new k):=
 ⟨Nat.le_succ_of_le e.next,fun b ah hm=>by rw [hV,apw (fun q=>(K3 (h:=h) ah e.next) ▸ q)];exact e.get b ah hm⟩
theorem Mod.set {M:aL->Prop} {h ab:ae} (e:Mod M h ab) {b:aL} (ah:Old h b->M b) (k:b1):Mod M h (ab.set b k):=
 ⟨e.next,fun bL gW hm=>by
   rw [dV];by_cases q:b=bL
   . subst q;exact absurd (ah gW) hm
   . rw [apw q];exact e.get bL gW hm⟩
theorem Ext.mod {h ab:ae} (e:Ext h ab) (M:aL->Prop):Mod M h ab:=⟨e.next,fun b ah _=>e.get b ah⟩
theorem Ext.nZ {h ab oK:ae} (e:Ext h ab) {M:aL->Prop} (m:Mod M ab oK) (hm:∀b,M b->h.next<=bX b):Ext h oK:=
 ⟨aqo e.next m.next,fun b ah=>by
   have k':¬M b:=fun q=>by have:=hm b q;unfold Old at ah;omega
   exact (m.get b (e.bG ah) k').trans (e.get b ah)⟩
theorem Mod.at {M:aL->Prop} {h ab:ae} (e:Mod M h ab) {b:aL} {off:Nat} {ag:List V} (H:jz h b off ag) (hm:¬M b):jz ab b off ag:=by obtain ⟨aY,us,aa,ad,aJ⟩:=H;refine ⟨e.bG aY,us,?_,ad,aJ⟩;unfold mE at aa ⊢;rw [e.get b aY hm];exact aa
theorem hv {h:ae} {i:Nat} (ax:i<h.next):Old h (aw i):=by unfold Old;rw [c1];exact ax
theorem B3 {h:ae} {b:aL} {i:Nat} (ah:Old h b) (ax:h.next<=i):(b=aw i)=False:=by apply apy;intro e;unfold Old at ah;rw [e,c1] at ah;omega
def V.aW:V->aL->Prop
 | .slice b _ _ _,bL=>bL=b
 | .eh b _ _ _,bL=>bL=b
 | _,_=>False
theorem fq.jI {h:ae} {size:Nat} {v:V} {n:Nat} {ag:List V} (H:fq h size v n ag) {k:IntKind} {i:Nat} (ax:i<n):
 ∃b off,fK size v (.int k i)=some (.ptr b (off+i * size))/\jz h b off ag/\v.aW b:=by
 have cS:=H.2;cases v<;>simp only at cS<;>first
  | omega
  | (exact cS.elim)
  | skip
 . rename_i b off len cap;obtain ⟨rfl,aa⟩:=cS;refine ⟨b,off,?_,aa,rfl⟩;rw [E5,apz (by omega)];simp
 . rename_i b off len cap;obtain ⟨rfl,aa⟩:=cS;refine ⟨b,off,?_,aa,rfl⟩;rw [E4,apz (by omega)];simp
theorem fq.one {h:ae} {size:Nat} {v:V} {n:Nat} {ag:List V} (H:fq h size v n ag):v.one=true/\v.cells=[v]/\v.eO=true:=by have q:=H.2;cases v<;>simp only at q<;>first | exact ⟨rfl,rfl,rfl⟩ | exact q.elim
theorem fq.mod {M:aL->Prop} {h ab:ae} (e:Mod M h ab) {size:Nat} {v:V} {n:Nat} {ag:List V} (H:fq h size v n ag) (hm:∀b,v.aW b->¬M b):fq ab size v n ag:=by refine ⟨H.1,?_⟩;have cS:=H.2;cases v<;>simp only at cS ⊢<;>first | exact cS | exact ⟨cS.1,e.at cS.2 (hm _ rfl)⟩
theorem fq.bG {h:ae} {size:Nat} {v:V} {n:Nat} {ag:List V} (H:fq h size v n ag) {b:aL} (ah:v.aW b):Old h b:=by have cS:=H.2;cases v<;>simp only [V.aW] at cS ah<;>first | (exact ah.elim) | (subst ah;exact cS.2.1)
def dS (B:Nat) (h:ae) (size:Nat) (v:V) (n:Nat) (ag:List V):Prop:=
 ag.length=n * size/\match v with
  | .bg=>n=0
  | .slice b off len cap=>len=n/\B<=bX b/\Old h b/\n<=cap/\cap<=top/\∃us cH st,h.get b=.bQ us cH st/\off+cap * size<=us.length/\(us.drop off).take ag.length=ag
  | .eh b off len idx=>len=n/\B<=bX b/\Old h b/\off=0/\idx=0/\∃us st,h.get b=.bQ us size st/\ag.length<=us.length/\us.take ag.length=ag
  | _=>False
theorem dS.v {B:Nat} {h:ae} {size:Nat} {v:V} {n:Nat} {ag:List V} (H:dS B h size v n ag):fq h size v n ag:=by
 obtain ⟨aa,ad⟩:=H;refine ⟨aa,?_⟩;cases v<;>simp only at ad ⊢<;>first | exact ad | skip
 . obtain ⟨ak,_,al,aI,_,us,cH,st,bB,cG,ef⟩:=ad;refine ⟨ak,al,us,.inr ⟨cH,st,bB⟩,?_,ef⟩;rw [aa];have:=aqz size aI;omega
 . obtain ⟨ak,_,al,aI,_,us,st,bB,cG,ef⟩:=ad;subst aI;exact ⟨ak,al,us,.inr ⟨size,st,bB⟩,by omega,by simpa using ef⟩
theorem dS.base {B:Nat} {h:ae} {size:Nat} {v:V} {n:Nat} {ag:List V} (H:dS B h size v n ag) {b:aL} (ah:v.aW b):B<=bX b:=by have cS:=H.2;cases v<;>simp only [V.aW] at cS ah<;>first | (exact ah.elim) | (subst ah;exact cS.2.1)
theorem dS.mono {B ts:Nat} {h:ae} {size:Nat} {v:V} {n:Nat} {ag:List V} (H:dS B h size v n ag) (cD:ts<=B):dS ts h size v n ag:=by refine ⟨H.1,?_⟩;have cS:=H.2;cases v<;>simp only at cS ⊢<;>first | exact cS | exact ⟨cS.1,aqo cD cS.2.1,cS.2.2⟩
theorem dS.mod {M:aL->Prop} {h ab:ae} (e:Mod M h ab) {B size:Nat} {v:V} {n:Nat} {ag:List V} (H:dS B h size v n ag) (hm:∀b,v.aW b->¬M b):dS B ab size v n ag:=by
 refine ⟨H.1,?_⟩;have cS:=H.2;cases v<;>simp only at cS ⊢<;>first | exact cS | skip
 . obtain ⟨ak,al,aI,bB,cG,us,cH,st,ef,hO⟩:=cS;exact ⟨ak,al,e.bG aI,bB,cG,us,cH,st,by rw [e.get _ aI (hm _ rfl)];exact ef,hO⟩
 . obtain ⟨ak,al,aI,bB,cG,us,st,ef,hO⟩:=cS;exact ⟨ak,al,e.bG aI,bB,cG,us,st,by rw [e.get _ aI (hm _ rfl)];exact ef,hO⟩
theorem dS.ext {h ab:ae} (e:Ext h ab) {B size:Nat} {v:V} {n:Nat} {ag:List V} (H:dS B h size v n ag):dS B ab size v n ag:=
 H.mod (e.mod fun _=>False) fun _ _ q=>q
theorem SY {h:ae} {size:Nat} {v:V} {n:Nat} {ag:List V} (H:fq h size v n ag):nX v=some n:=by
 have cS:=H.2;cases v<;>simp only at cS<;>first
  | (rw [<-cS.1];rfl)
  | (subst cS;rfl)
  | (exact cS.elim)
theorem zr {h:ae} {b:aL} {off size n:Nat} {ag:List V} (H:jz h b off ag) (aA:ag.length=n * size):o9 h size b off n=some ag:=by obtain ⟨_,us,aa,ad,aJ⟩:=H;unfold o9;rw [aa.o8,show Nat.ble (off+n * size) us.length=true from by rw [apE];omega,Ee us _ off (by omega),<-aA,aJ];rfl
theorem al1 {h:ae} {size:Nat} {v:V} {n:Nat} {ag:List V} (H:fq h size v n ag):uY h size v n=some ag:=by
 obtain ⟨aa,ad⟩:=H;cases v<;>simp only at ad<;>first
  | (exact ad.elim)
  | (obtain ⟨_,aJ⟩:=ad;exact zr aJ aa)
  | (subst ad
     have:ag=[]:=aqe (by omega);subst this;rfl)
theorem dS.grown {B:Nat} {h:ae} {size:Nat} {ag:List V} {n:Nat} {st:Bool} (aA:ag.length=n * size) (cD:B<=h.next):dS B (h.new (.bQ ag size st)) size (.eh (aw h.next) 0 n 0) n ag:=
 ⟨aA,rfl,by rw [c1];exact cD,TP,rfl,rfl,ag,st,qY _,apv _,aqX⟩
theorem Hw {h:ae} {size:Nat} {s x:V} {m:Nat} {ag:List V} (cS:fq h size x m ag) (hm:m<=top):jZ size s x h=(match s with
 | .bg=>vl size m ag h
 | .slice b off len cap=>vk size b off len cap m ag h
 | .eh b off len idx=>xI size b off len idx m ag h
 | _=>.fail):=by
 unfold jZ;rw [SY cS];simp only;rw [al1 cS];simp only;rw [show Nat.ble m top=true from by rw [apE];exact hm];rfl
theorem LO (A:List V) (o:Nat) (W:List V) (h:o+W.length<=A.length) (q:Nat):(hP A o W)[q]? =if q<o then A[q]? else if q<o+W.length then W[q-o]? else A[q]? :=by
 have aA:(A.take o).length=o:=by rw [ap4];omega
 unfold hP;rw [aqc];by_cases bK:q<o
 . rw [apz bK,apM (by omega),aqs bK]
 . rw [apw bK,apO (by omega),aA];by_cases bR:q<o+W.length
   . rw [apz bR,apM (by omega)]
   . rw [apw bR,apO (by omega),aqJ];congr 1;omega
theorem Vb (A:List V) (o j:Nat) (L W:List V) (jF:o+L.length<=A.length) (df:(A.drop o).take L.length=L) (bp:j+W.length<=L.length):((hP A (o+j) W).drop o).take L.length=hP L j W:=by
 apply arz;intro q;have aA:((A.drop o).take L.length)[q]? =L[q]? :=by rw [df]
 rw [LO L j W bp];by_cases az:q<L.length
 . rw [aqs az,aqJ,LO A (o+j) W (by omega)];rw [aqs az,aqJ] at aA;by_cases bK:q<j
   . rw [apz (by omega),apz bK,aA]
   . rw [apw (by omega),apw bK];by_cases bR:q<j+W.length
     . rw [apz (by omega),apz bR];congr 1;omega
     . rw [apw (by omega),apw bR,aA]
 . rw [List.getElem?_take_eq_none (by omega),apw (by omega),apw (by omega),apT (by omega)]
theorem Hy {B:Nat} {h:ae} {size:Nat} {s x:V} {n m:Nat} {us ag:List V} (cq:1<=size) (H1:dS B h size s n us) (cS:fq h size x m ag) (cD:B<=h.next) (hlen:(n+m) * size<=top) (aU:eY ag=true):
 ∃v ab,jZ size s x h=.val v ab/\dS B ab size v (n+m) (us++ag)/\Mod s.aW h ab/\∀b,v.aW b->s.aW b\/h.next<=bX b:=by
 have k':n+m<=top:=aqo (Nat.le_mul_of_pos_right _ cq) hlen;have l7:=H1.1;have kB:=cS.1;have j7:(us++ag).length=(n+m) * size:=by rw [apD,l7,kB,aqw]
 rw [Hw cS (by omega)];have ad:=H1.2;cases s<;>simp only at ad ⊢<;>try (exact ad.elim)
 case bg=>
  subst ad;have:us=[]:=aqe (by omega);subst this;unfold vl;by_cases hm:m=0
  . subst hm;have:ag=[]:=aqe (by omega);subst this;exact ⟨.bg,h,rfl,⟨by simp,rfl⟩,Mod.refl _ _,fun b ah=>.inl ah⟩
  . rw [show Nat.beq m 0=false from by rw [<-ap2,apV];exact hm];simp only [apA];rw [B2 (by rw [kB];simpa using hlen) cq];refine ⟨_,_,rfl,?_,(Mod.refl _ _).new _,fun b ah=>.inr (by rw [show b=aw h.next from ah,c1];exact apv _)⟩;have:=dS.grown (B:=B) (h:=h) (size:=size) (ag:=ag) (n:=m) (st:=false) kB cD;simpa using this
 case slice b off len cap=>
  obtain ⟨rfl,al,aI,bB,cG,kX,cH,st,ef,hO,kQ⟩:=ad;unfold vk;by_cases ao:len+m<=cap
  . rw [show Nat.ble (len+m) cap=true from by rw [apE];exact ao];simp only [apu];have eQ:off+len * size+ag.length<=kX.length:=by
     have:=aqz size ao;rw [aqw] at this;rw [kB];omega
    rw [Own.lay (ag:=kX) (cH:=cH) (st:=st) ef eQ aU];refine ⟨_,_,rfl,⟨j7,rfl,al,aI,ao,cG,_,cH,st,dV _ _ _ |>.trans (apz rfl),?_,?_⟩,(Mod.refl (V.aW (.slice b off len cap)) h).set (fun _=>rfl) _,fun bL ah=>.inl ah⟩
    . rw [Gv _ _ _ eQ];exact hO
    . rw [apD];unfold hP;have ep:off+us.length<=kX.length:=by rw [l7];omega
      have aK:kX.take (off+len * size)=kX.take off++us:=by rw [<-l7,List.take_add,kQ]
      rw [aK,aqc,aqc,List.drop_append,aqv (by rw [ap4];omega),aqk];rw [show off - (kX.take off).length=0 from by rw [ap4];omega,aqy];rw [<-aqc,arG (by rw [apD])]
  . rw [show Nat.ble (len+m) cap=false from by rw [<-ap2,apE];exact ao];simp only [apA];rw [show (Nat.ble (len+m) top&&Nat.ble cap top)=true from by simp only [apq,apE];exact ⟨k',cG⟩];simp only [apu];have fI:jz h b off us:=⟨aI,kX,.inr ⟨cH,st,ef⟩,by rw [l7];have:=aqz size bB;omega,kQ⟩;rw [zr fI l7];simp only;rw [B2 (by rw [j7];exact hlen) cq];exact ⟨_,_,rfl,dS.grown j7 cD,(Mod.refl _ _).new _,fun b ah=>.inr (by rw [show b=aw h.next from ah,c1];exact apv _)⟩
 case eh b off len idx=>
  obtain ⟨rfl,al,aI,rfl,rfl,kX,st,ef,hO,kQ⟩:=ad;unfold xI;by_cases hm:m=0
  . subst hm;have:ag=[]:=aqe (by omega);subst this;exact ⟨_,h,rfl,⟨j7,rfl,al,aI,rfl,rfl,kX,st,ef,by simpa using hO,by simpa using kQ⟩,Mod.refl _ _,fun b ah=>.inl ah⟩
  . rw [show Nat.beq m 0=false from by rw [<-ap2,apV];exact hm];simp only [apA];rw [ef];simp only [b1.bQ,b1.on];rw [show (Nat.beq size size&&(Nat.ble (len+m) top&&eY ag)&&Nat.beq 0 (0 * size))=true from by
     simp only [apq,apV,apE]
     exact ⟨⟨trivial,k',aU⟩,by omega⟩]
    simp only [apu];have fI:jz h b 0 us:=⟨aI,kX,.inr ⟨size,st,ef⟩,by omega,by simpa using kQ⟩;rw [zr fI l7];simp only;rw [B2 (by rw [j7];exact hlen) cq];exact ⟨_,_,rfl,dS.grown (h:=h.set b .dead) j7 cD,((Mod.refl (V.aW (.eh b 0 len 0)) h).set (fun _=>rfl) _).new _,fun bL ah=>.inr (by rw [show bL=aw h.next from ah,c1];exact apv _)⟩
def V.at (v:V) (b:aL) (off:Nat):Prop:=
 match v with
 | .slice bL o _ _=>b=bL/\off=o
 | .eh bL o _ _=>b=bL/\off=o
 | _=>False
theorem Nr {h:ae} {size:Nat} {v:V} {n:Nat} {ag:List V} (H:fq h size v n ag) {k:IntKind} {i:Nat} (ax:i<n) {b:aL} {off:Nat} (e:fK size v (.int k i)=some (.ptr b (off+i * size))):v.at b off:=by
 have cS:=H.2;cases v<;>simp only at cS<;>first | omega | (exact cS.elim) | skip
 . obtain ⟨rfl,_⟩:=cS;rw [E5,apz (by omega)] at e;simp only [aps,V.ptr.injEq,apx] at e;exact ⟨e.1.symm,by omega⟩
 . obtain ⟨rfl,_⟩:=cS;rw [E4,apz (by omega)] at e;simp only [aps,V.ptr.injEq,apx] at e;exact ⟨e.1.symm,by omega⟩
theorem Vc (ag:List V) (c:Nat) (y:V) (h:c<ag.length):hP ag c [y]=ag.set c y:=by unfold hP;rw [List.set_eq_take_append_cons_drop,apz h];simp
theorem dS.Ut {B:Nat} {h:ae} {size:Nat} {v:V} {n:Nat} {ag:List V} (H:dS B h size v n ag) {b:aL} {off:Nat} (bt:v.at b off) {c:Nat} (ao:c<ag.length) {y:V} (a6:y.cells=[y]) (aU:y.one=true):
 ∃k,m' 1 h b (off+c) y (h.get b)=some (h.set b k)/\(∀eg:ae,eg.get b=h.get b->m' 1 eg b (off+c) y (h.get b)=some (eg.set b k))/\dS B (h.set b k) size v n (ag.set c y)/\v.aW b:=by
 obtain ⟨aa,ad⟩:=H;have gY:eY y.cells=true:=by rw [a6];simp [eY,aU]
 cases v<;>simp only at ad<;>simp only [V.at] at bt<;>try (exact bt.elim)
 case slice bL o len cap=>
  obtain ⟨rfl,rfl⟩:=bt;obtain ⟨rfl,al,aI,bB,cG,kX,cH,st,ef,hO,kQ⟩:=ad;have oM:=aqz size bB;have eQ:off+c+y.cells.length<=kX.length:=by rw [a6];simp;omega
  have e:∀eg:ae,eg.get b=h.get b->m' 1 eg b (off+c) y (h.get b)=some (eg.set b (.bQ (nm kX (off+c) y.cells) cH st)):=by intro eg _;rw [ef];exact Kr (by rw [a6];rfl) gY (by rw [a6] at eQ;simpa using eQ)
  refine ⟨_,e h rfl,e,⟨by simpa using aa,rfl,al,aI,bB,cG,_,cH,st,dV _ _ _ |>.trans (apz rfl),?_,?_⟩,rfl⟩
  . rw [LN _ _ _ eQ];exact hO
  . rw [zq _ _ _ eQ,aq_];have:=Vb kX off c ag y.cells (by rw [aa];omega) kQ (by rw [a6];simp;omega);rw [this,a6,Vc ag c y ao]
 case eh bL o len idx=>
  obtain ⟨rfl,rfl⟩:=bt;obtain ⟨rfl,al,aI,rfl,rfl,kX,st,ef,hO,kQ⟩:=ad;have eQ:0+c+y.cells.length<=kX.length:=by rw [a6];simp;omega
  have e:∀eg:ae,eg.get b=h.get b->m' 1 eg b (0+c) y (h.get b)=some (eg.set b (.bQ (nm kX (0+c) y.cells) size st)):=by intro eg _;rw [ef];exact Kr (by rw [a6];rfl) gY (by rw [a6] at eQ;simpa using eQ)
  refine ⟨_,e h rfl,e,⟨by simpa using aa,rfl,al,aI,rfl,rfl,_,st,dV _ _ _ |>.trans (apz rfl),?_,?_⟩,rfl⟩
  . rw [LN _ _ _ eQ,aq_];exact hO
  . rw [zq _ _ _ eQ,aq_];have:=Vb kX 0 c ag y.cells (by omega) (by simpa using kQ) (by rw [a6];simp;omega);rw [aqy] at this;rw [this,a6,Vc ag c y ao]
theorem aj' (r:bc):aT.opt r none=none:=(rfl)
theorem aj_ (r:bc) (x:aT):aT.opt r (some x)=some (x.aP r):=(rfl)
theorem HM {k:IntKind} {m d y:Nat} (h:m<=y):bound (some (.int k (m:Int))) d y=some m:=by simp only [bound,V.ej,oZ];rw [show (decide ((0:Int)<=(m:Int))&&decide ((m:Int)<=(y:Int)))=true from by simp;omega];simp
theorem As (d y:Nat):bound none d y=some d:=rfl
theorem ajn (b:aL) (o:Nat):uH (.ptr b o)=some (.ptr b o):=rfl
theorem ai5 (k br:IntKind) (a b:Int):kN (fun b a=>!Int.leB a b) [.int k a,.int br b]=some (.int k (if b<a then b else a)):=by
 simp only [kN,wW,V.ej,oZ];by_cases h:b<a
 . rw [apz h];have:¬a<=b:=by omega
   simp [this]
 . rw [apw h];have:a<=b:=by omega
   simp [this]
theorem Tq (k br:IntKind) (a b:Int):kN (fun b a=>!Int.leB b a) [.int k a,.int br b]=some (.int k (if a<b then b else a)):=by
 simp only [kN,wW,V.ej,oZ];by_cases h:a<b
 . rw [apz h];have:¬b<=a:=by omega
   simp [this]
 . rw [apw h];have:b<=a:=by omega
   simp [this]
end
section
open Go Go.RowKit
set_option linter.defProp false
variable [Lay]
end
section
open Go Go.RowKit
variable [Lay]
theorem Z9 {P:Program} {aM:List h9} {r:bc} {h:ae} {Q:cO->bc->ae->Prop} {a b:a1}:xR P (.bool true) a b aM r h Q=bo P (.c a::aM) .normal r h Q:=by rw [Ps];simp
theorem Z8 {P:Program} {aM:List h9} {r:bc} {h:ae} {Q:cO->bc->ae->Prop} {a b:a1}:xR P (.bool false) a b aM r h Q=bo P (.c b::aM) .normal r h Q:=by rw [Ps];simp
theorem Nx (a b:List UInt8):lC a b=decide (a=b):=by rw [vp,aqm];simp
theorem HK (k:IntKind) (b:Int) (d y:Nat):bound (some (.int k b)) d y=if 0<=b/\b<=(y:Int) then some b.toNat else none:=by simp only [bound,V.ej,oZ];by_cases aa:0<=b<;>by_cases ad:b<=(y:Int)<;>simp [aa,ad]
theorem alR (s:List UInt8) (k:IntKind) (b:Int):mv (.str s) none (some (.int k b)) none=if 0<=b/\b<=(s.length:Int) then some (.str (s.take b.toNat)) else none:=by
 simp only [mv,HK];by_cases h:0<=b/\b<=(s.length:Int)
 . simp only [h,and_self,ap3,bound,aqy,arD]
 . simp only [h,ap9]
theorem alS (s:List UInt8) (k:IntKind) (a:Int):mv (.str s) (some (.int k a)) none none=if 0<=a/\a<=(s.length:Int) then some (.str (s.drop a.toNat)) else none:=by
 simp only [mv,As,HK];by_cases h:0<=a/\a<=(s.length:Int)
 . simp only [h,and_self,ap3];rw [aqn (by rw [aqa];omega)]
 . simp only [h,ap9]
theorem alT (s:List UInt8) (k br:IntKind) (a b:Int):mv (.str s) (some (.int k a)) (some (.int br b)) none=if 0<=a/\a<=b/\b<=(s.length:Int) then some (.str ((s.drop a.toNat).take (b.toNat-a.toNat))) else none:=by
 simp only [mv,HK];by_cases h:0<=b/\b<=(s.length:Int)
 . simp only [h,and_self,ap3];by_cases ad:0<=a/\a<=b
   . have:0<=a/\a<=((b.toNat:Nat):Int):=by omega
     simp only [this,and_self,ap3,ad,h]
   . have aJ:¬(0<=a/\a<=((b.toNat:Nat):Int)):=by omega
     have bu:¬(0<=a/\a<=b/\b<=(s.length:Int)):=by omega
     have cV:¬(0<=a/\a<=b/\True):=fun q=>ad ⟨q.1,q.2.1⟩;rw [apw cV,apw aJ]
 . have bu:¬(0<=a/\a<=b/\b<=(s.length:Int)):=by omega
   simp only [h,bu,ap9]
theorem alQ (s:List UInt8):mv (.str s) none none none=some (.str s):=by simp only [mv,As,aqy,arD,aqX]
section
variable {P:Program}
theorem alC (a b:List UInt8):(e1.str .eql).run P (.str a) (.str b)=some (.bool (decide (a=b))):=by simp only [e1.run,tf,rH,Nx]
theorem alB (a b:List UInt8):(e1.str .add).run P (.str a) (.str b)=if a.length+b.length<=top then some (.str (a++b)) else none:=by
 simp only [e1.run,tf,Gz];by_cases h:a.length+b.length<=top
 . rw [apz h,show Nat.ble (a.length+b.length) top=true from by rw [apE];exact h];rfl
 . rw [apw h,show Nat.ble (a.length+b.length) top=false from by rw [<-ap2,apE];exact h];rfl
theorem alD (s:List UInt8) (k:IntKind) (i:Int):sR.run (.str s) (.int k i)=if 0<=i/\i < (s.length:Int) then some (.int .u8 (((s[i.toNat]?).getD 0).toNat:Int)) else none:=by
 simp only [sR,V.ej,oZ];by_cases aa:0<=i
 . simp only [aa,aq3,apu,arj];by_cases ad:i < (s.length:Int)
   . rw [apz ad,apr (by omega)];rfl
   . rw [apw ad,apT (by omega)]
 . simp only [aa,aq8,apA,arI,ap9]
theorem alE (a b:List UInt8):(e1.str .neq).run P (.str a) (.str b)=some (.bool (!decide (a=b))):=by simp only [e1.run,tf,rH,Nx]
end
end
section
open Go Go.RowKit
set_option linter.defProp false
def am9:=
 And.intro @agG<|And.intro @afN<|And.intro @agR<|And.intro @afO<|And.intro @agN<|And.intro @agS<|And.intro @agO<|And.intro @af8<|And.intro @afY<|And.intro @afV<|And.intro @afW<|And.intro @agu<|And.intro @af4<|And.intro @agK<|And.intro @agC<|And.intro @ahD<|And.intro @agM<|And.intro @ahK<|And.intro @afS<|And.intro @ag6<|And.intro @agk<|And.intro @ahp<|And.intro @agl<|And.intro @ahq<|And.intro @agH<|And.intro @ahG<|And.intro @afM<|And.intro @ag3<|And.intro @agX<|And.intro @ahQ<|And.intro @agb<|And.intro @ahj<|And.intro @agh<|And.intro @ahm<|And.intro @agU<|And.intro @ahO<|And.intro @agT<|And.intro @ahN<|And.intro @af'<|@ahg
def am':=
 And.intro @af_<|And.intro @ahh<|And.intro @aga<|And.intro @ahi<|And.intro @age<|And.intro @ahk<|And.intro @agf<|And.intro @ahl<|And.intro @agj<|And.intro @aho<|And.intro @agi<|And.intro @ahn<|And.intro @agr<|And.intro @ahv<|And.intro @af9<|And.intro @ahf<|And.intro @agA<|And.intro @ahC<|And.intro @agD<|And.intro @ahE<|And.intro @af0<|And.intro @aha<|And.intro @ago<|And.intro @aht<|And.intro @agp<|And.intro @ahu<|And.intro @agm<|And.intro @ahr<|And.intro @agF<|And.intro @ahF<|And.intro @afQ<|And.intro @ag4<|And.intro @afR<|And.intro @ag5<|And.intro @agV<|And.intro @ahP<|And.intro @agz<|And.intro @ahB<|And.intro @agY<|@ahR
def am_:=
 And.intro @agy<|And.intro @ahA<|And.intro @agQ<|And.intro @ahM<|And.intro @agI<|And.intro @ahH<|And.intro @afJ<|And.intro @ag1<|And.intro @afX<|And.intro @ag'<|And.intro @agn<|And.intro @ahs<|And.intro @afZ<|And.intro @ag_<|And.intro @af2<|And.intro @ahc<|And.intro @af1<|And.intro @ahb<|And.intro @ag7<|And.intro @ag8<|And.intro @Sy<|And.intro @afT<|@af3
def ana:=
 And.intro @amk<|And.intro @alZ<|And.intro @Z9<|And.intro @Z8<|And.intro @Zz<|And.intro @alf<|And.intro @Yq<|And.intro @Yp<|And.intro @akb<|And.intro @abE<|And.intro @abD<|And.intro @Ys<|And.intro @abl<|And.intro @abk<|And.intro @akt<|And.intro @abz<|And.intro @ajO<|And.intro @ajN<|And.intro @aip<|And.intro @ain<|And.intro @aiq<|And.intro @aio<|And.intro @air<|And.intro @E5<|And.intro @E4<|And.intro @aaq<|And.intro @abn<|And.intro @abm<|And.intro @amH<|And.intro @alG<|And.intro @alH<|And.intro @ajC<|And.intro @ajD<|And.intro @aka<|And.intro @aj9<|And.intro @amX<|And.intro @amW<|And.intro @Ye<|And.intro @Yf<|@Yg
def anb:=
 And.intro @Yh<|And.intro @Yd<|And.intro @Wt<|And.intro @Wv<|And.intro @Wu<|And.intro @amE<|And.intro @amG<|And.intro @amF<|And.intro @afy<|And.intro @afA<|And.intro @afz<|And.intro @afI<|And.intro @agW<|And.intro @agB<|And.intro @af6<|And.intro @agE<|And.intro @agv<|And.intro @agq<|And.intro @agd<|And.intro @agc<|And.intro @afL<|And.intro @afP<|And.intro @amS<|And.intro @amR<|And.intro @aiB<|And.intro @aiD<|And.intro @SO<|And.intro @SP<|And.intro @SR<|And.intro @SS<|And.intro @al9<|And.intro @ah1<|And.intro @qY<|And.intro @hV<|And.intro @dV<|And.intro @mr<|And.intro @f_<|And.intro @nd<|And.intro @aje<|@ZD
def anc:=
 And.intro @ajQ<|And.intro @ach<|And.intro @ZH<|And.intro @ajU<|And.intro @acm<|And.intro @ZR<|And.intro @aj4<|And.intro @acw<|And.intro @ZM<|And.intro @aj0<|And.intro @acr<|And.intro @ZO<|And.intro @aj2<|And.intro @acu<|And.intro @ZQ<|And.intro @aj3<|And.intro @acv<|And.intro @ZF<|And.intro @ajS<|And.intro @acj<|And.intro @ZS<|And.intro @aj5<|And.intro @acx<|And.intro @ZN<|And.intro @aj1<|And.intro @acs<|And.intro @ZL<|And.intro @ajZ<|And.intro @acq<|And.intro @ZI<|And.intro @ajV<|And.intro @acn<|And.intro @ZE<|And.intro @ajR<|And.intro @aci<|And.intro @ZK<|And.intro @ajY<|And.intro @acp<|And.intro @ZG<|@ajT
def ane:=
 And.intro @ack<|And.intro @ZJ<|And.intro @ajX<|And.intro @aco<|And.intro @ZC<|And.intro @acg<|And.intro @acy<|And.intro @aih<|And.intro @aii<|And.intro @aif<|And.intro @beq_true<|And.intro @beq_false<|And.intro @Bool.not_true<|And.intro @Bool.not_false<|And.intro @ap6<|And.intro @aqt<|And.intro @ap7<|And.intro @aqG<|And.intro @Bool.not_not<|And.intro @V.bool.injEq<|And.intro @apW<|And.intro @aqC<|And.intro @amA<|And.intro @amB<|And.intro @amy<|And.intro @Bool.true_eq_false<|And.intro @apH<|And.intro @amD<|And.intro @akE<|And.intro @akF<|And.intro @X2<|And.intro @X0<|And.intro @XX<|And.intro @XT<|And.intro @adz<|And.intro @adB<|And.intro @adA<|And.intro @XU<|And.intro @XV<|@XY
def anf:=
 And.intro @XZ<|And.intro @TD<|And.intro @anj<|And.intro @B5<|And.intro @ank<|And.intro @aju<|And.intro @anl<|And.intro @ajv<|And.intro @anm<|And.intro @ajw<|And.intro @ann<|And.intro @ajx<|And.intro @ano<|And.intro @ajy<|And.intro @anp<|And.intro @ajz<|And.intro @anq<|And.intro @ab_<|And.intro @ab8<|And.intro @ab'<|And.intro @ab9<|And.intro @aca<|And.intro @Bool.or_false<|And.intro @arF<|And.intro @Bool.or_true<|And.intro @Bool.true_or<|And.intro @ajn<|And.intro @ai5<|And.intro @Tq<|And.intro @aj'<|And.intro @aj_<|And.intro @Xu<|And.intro @XA<|And.intro @XB<|And.intro @XC<|And.intro @XD<|And.intro @XE<|And.intro @XF<|And.intro @XG<|@XH
def ang:=
 And.intro @Xt<|And.intro @Xv<|And.intro @Xw<|And.intro @Xx<|And.intro @Xy<|And.intro @Xz<|And.intro @alR<|And.intro @alS<|And.intro @alT<|And.intro @alQ<|And.intro @alC<|And.intro @alE<|And.intro @alB<|@alD
end
section
open Go Go.RowKit
variable [Lay]
theorem Ai {B:Nat} {h:ae} {size:Nat} {s:V} {n:Nat} {us cs:List V} (cq:1<=size) (H1:dS B h size s n us) (cD:B<=h.next) (hlen:(n+1) * size<=top) (ic:cs.length=size) (aU:eY cs=true):
 ∃v ab,jZ size s (.slice (aw h.next) 0 1 1) (h.new (.bQ cs 0 false))=.val v ab/\dS B ab size v (n+1) (us++cs)/\Mod s.aW h ab/\h.next+1<=ab.next/\∀b,v.aW b->s.aW b\/h.next<bX b:=by
 have aj:Ext h (h.new (.bQ cs 0 false)):=(Ext.refl h).new _;have bs:fq (h.new (.bQ cs 0 false)) size (.slice (aw h.next) 0 1 1) 1 cs:=by refine ⟨by rw [ic];omega,rfl,hv (by rw [f_];omega),cs,.inr ⟨0,false,by rw [qY]⟩,by omega,by simp⟩
 obtain ⟨v,ab,ak,al,aI,bB⟩:=Hy cq (H1.ext aj) bs (by rw [f_];omega) hlen aU;refine ⟨v,ab,ak,al,(aj.mod _).trans aI,by have:=aI.next;rw [f_] at this;exact this,fun b ah=>?_⟩;rcases bB b ah with q | q
 . exact .inl q
 . exact .inr (by rw [f_] at q;omega)
theorem VD:∀l:List UInt8,oa (h' l)=some l
 | []=>rfl
 | c::l=>by have bb:=VD l;simp only [h',oa,bb];simp
theorem DA:∀l:List UInt8,(h' l).length=l.length
 | []=>rfl
 | c::l=>by simp only [h',apB,DA l]
theorem NG:∀l m:List UInt8,h' (l++m)=h' l++h' m
 | [],m=>rfl
 | c::l,m=>by simp only [h',apS,NG l m]
theorem Vh {h:ae} {b:aL} {us:List V} {cH:Nat} {st:Bool} {off:Nat} {l:List UInt8} (aG:h.get b=.bQ us cH st) (aA:off+l.length<=us.length) (hu:(us.drop off).take l.length=h' l):u0 b off l.length h=.val (.str l) h:=by unfold u0;rw [aG];simp only [b1.o8,b1.bQ];rw [show Nat.ble (off+l.length) us.length=true from by rw [apE];exact aA];simp only [apu];rw [Ee us l.length off aA,hu,VD]
theorem Px {B:Nat} {h:ae} {v:V} {n:Nat} {l:List UInt8} (H:dS B h 1 v n (h' l)):tO.run v h=.val (.str l) h:=by
 have aa:=H.1;rw [DA,arC] at aa;have ad:=H.2;cases v<;>simp only at ad<;>try (exact ad.elim)
 case bg=>
  subst ad;rw [aq6] at aa;subst aa;rfl
 case slice=>
  obtain ⟨ak,al,aI,bB,cG,us,cH,st,ef,hO,kQ⟩:=ad;rw [DA] at kQ;simp only [tO];rw [ak,<-aa];exact Vh ef (by omega) kQ
 case eh=>
  obtain ⟨ak,al,aI,bB,cG,us,st,ef,hO,kQ⟩:=ad;rw [DA] at kQ hO;simp only [tO];rw [ak,bB,<-aa];exact Vh ef (by omega) (by simpa using kQ)
theorem Mod.self {b:aL} {h ab:ae} (e:Mod (fun q=>q=b) h ab) (k:b1):Mod (fun q=>q=b) h (ab.set b k):=e.set (fun _=>rfl) k
theorem Mod.fresh {M:aL->Prop} {h ab:ae} (e:Mod M h ab) {i:Nat} (ax:h.next<=i) (k:b1):Mod M h (ab.set (aw i) k):=
 e.set (fun q=>absurd (show bX (aw i)<h.next from q) (by rw [c1];omega)) k
theorem Mod.amz {M N:aL->Prop} {h ad aJ:ae} (e:Mod M h ad) (q:Mod N ad aJ) (aV:∀b,N b->h.next<=bX b):Mod M h aJ:=
 ⟨aqo e.next q.next,fun b aU ah=>by rw [q.get b (e.bG aU) (fun k=>absurd (show bX b<h.next from aU) (by have:=aV b k;omega)),e.get b aU ah]⟩
end
section
open Go Go.RowKit
set_option linter.defProp false
variable [Lay]
def an:=And.intro @am9<|And.intro @am' @am_
def amZ:=And.intro @ana<|And.intro @anb<|And.intro @anc<|And.intro @ane<|And.intro @anf @ang
def am0:=And.intro @aqK.{0}<|And.intro @apX.{0}<|And.intro @ap3.{1}<|And.intro @ap9.{1}<|And.intro @arj<|And.intro @and_true<|And.intro @apK.{0}<|And.intro @aqr.{0}<|And.intro @apB.{0}<|And.intro @ap_.{0}<|
 And.intro @aqy.{0}<|And.intro @arB.{0}<|And.intro @aqY.{0}<|And.intro @List.take_zero.{0}<|And.intro @apS.{0}<|And.intro @aqk.{0}<|And.intro @aps.{0}<|And.intro @exists_eq_left'.{1}<|And.intro @ary.{0}<|
 And.intro @Nat.succ_ne_zero<|And.intro @afm<|And.intro @afl<|And.intro @List.getElem?_nil.{0}<|And.intro @aq3<|And.intro @aq8<|And.intro @eq_self.{1}<|And.intro @not_true_eq_false<|And.intro @not_false_eq_true<|And.intro @ite_true.{1} @ite_false.{1}
def bH:=And.intro amZ (And.intro am0 (And.intro @im.eq_1 (And.intro @im.eq_2 (And.intro @aT.fx.eq_1 (And.intro @aT.fx.eq_2 (And.intro @nm.eq_1 (And.intro @nm.eq_2 (And.intro @nm.eq_3 (And.intro @over.eq_1 (And.intro @over.eq_2 (And.intro @over.eq_3 (And.intro @eY.eq_1 (@eY.eq_2)))))))))))))
def aF:=And.intro bH (And.intro @cO.ends.eq_1 (And.intro @cO.ends.eq_2 (And.intro @k4.eq_1 (And.intro @k4.eq_2 (And.intro @k4.eq_3 (And.intro @k4.eq_4 (And.intro @oneOf.eq_1 (And.intro @oneOf.eq_2 top.eq_1))))))))
end
section
open Go Go.RowKit
variable [Lay]
theorem ZY {P:Program} {f:FuncId} (a6:Nat.beq f dr=false) {v:V} (bs:∀E x,x=.bool true->Rel E v x) (ho:∃fn,P.funcs[f]? =some fn/\fn.body.isSome=true) (H:∀w,Lay.ok w->Calls P f #[] w fun e w'=>e=.returned (.bool true)/\Below w.heap.size w w') (h:ae):
 eV P f [] h v h:=by
 refine ⟨fun e=>by subst e;simp at a6,.inl ⟨ho,fun ay E w xs aj s=>?_⟩⟩;simp only [bf] at aj;subst aj;refine (H w (Lay.eR s.laid s.frame)).mono fun e w' q=>?_;obtain ⟨rfl,ah⟩:=q;exact ⟨E,_,rfl,fun _ _ q=>q,bs E _ rfl,s.below ah⟩
def rK (E:Env) (h:ae) (p:jb):Env:=fun b=>if b=aw h.next then some p else E b
theorem VN (E:Env) (h:ae) (p:jb):rK E h p (aw h.next)=some p:=apz rfl
theorem L' {ay:Fr} {E:Env} {h:ae} {w:World} (s:a8 ay E h w) (p:jb):E.le (rK E h p):=fun b q az=>by unfold rK;rw [apw (fun e=>by rw [e,s.fresh _ (apv _)] at az;cases az)];exact az
theorem alN {W:World} {E:Env} {h:ae} (s:a8 ⟨W,fun _=>none⟩ E h W) (p:jb) (k:b1) (aU:k.own=false) (aB:fv W.heap.size (rK E h p) W (aw h.next) k):
 a8 ⟨W,fun _=>none⟩ (rK E h p) (h.new k) W:=by
 refine ⟨fun b _=>?_,fun _ _ h=>(by cases h),fun b bL q fj aa ad aK aS az=>?_,fun i ax=>?_,s.frame,s.laid,fun b q n cs st aa aK=>by
  rw [hV] at aa;by_cases bK:aw h.next=b
  . rw [apz bK] at aa;rw [aa] at aU;cases aU
  . rw [apw bK] at aa;unfold rK at aK;rw [apw (fun e=>bK e.symm)] at aK;exact s.base _ _ _ _ _ aa aK⟩
 . rw [hV];by_cases e:aw h.next=b
   . subst e;rw [apz rfl];exact aB
   . rw [apw e];exact (s.aW b rfl).mono (L' s p)
 . rw [hV] at aa ad;by_cases bK:aw h.next=b
   . rw [apz bK,aU] at aa;cases aa
   . by_cases bR:aw h.next=bL
     . rw [apz bR,aU] at ad;cases ad
     . rw [apw bK] at aa;rw [apw bR] at ad;unfold rK at aK aS;rw [apw (fun e=>bK e.symm)] at aK;rw [apw (fun e=>bR e.symm)] at aS;exact s.inj b bL q fj aa ad aK aS az
 . rw [f_] at ax;unfold rK;rw [apw (fun e=>by have:=hN e;omega)];exact s.fresh i (by omega)
theorem alO {W:World} {E:Env} {h:ae} (s:a8 ⟨W,fun _=>none⟩ E h W) {k base cap:Nat} {c:Array Value} {el:TypeId} {bZ:Nat × Nat} (aB:W.heap[k]? =some (.cells c el bZ)) {ag:List V}
 (ao:base+ag.length<=c.size) (aC:∀i v y,ag[i]? =some v->c[base+i]? =some y->Rel E v y):
 a8 ⟨W,fun _=>none⟩ (rK E h ⟨k,base,cap⟩) (h.new (.ro ag)) W:=by
 refine alN s _ _ rfl ?_;have aR:k<W.heap.size:=by
  by_cases aR:k<W.heap.size
  . exact aR
  . rw [ara (by omega)] at aB;cases aB
 refine ⟨trivial,⟨k,base,cap⟩,c,el,bZ,VN _ _ _,aR,aB,ao,fun i y ax a6=>?_⟩;have:T.get .bad (aw i) (fF .e 0 ag)=ag[i]:=by have:=Ec ag 0 i .e;rw [apW] at this;rw [this,apz ax,apr ax];rfl
 rw [this];exact Rel.mono (L' s _) _ _ (aC i _ y (apr ax) a6)
end
end Go.Proofs.YtgmhjhgoamjeeaaGreatDoor.aX
