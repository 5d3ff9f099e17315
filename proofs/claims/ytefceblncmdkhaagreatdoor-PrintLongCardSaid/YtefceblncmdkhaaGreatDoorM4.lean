/- The abstract machine and its walks (a verified interpreter of the model's code: plain definitions and lemmas, no condition). Printed by a program from longer texts: names made short. -/
import Derived.Test.YtefceblncmdkhaaGreatDoorM3
import Derived.IntWalk
import Derived.ChangeArms
import Derived.DataReads
set_option linter.unusedSectionVars false
set_option linter.unusedSimpArgs false
set_option linter.unusedVariables false
set_option maxHeartbeats 64000000
noncomputable section
namespace Go.Proofs.YtefceblncmdkhaaGreatDoor.bd
section
open Go Go.RowKit
variable [Lay]
inductive aW where
 | t (n:Nat)
 | c (v:V)
abbrev bz:=Nat->V
def aW.aV (r:bz):aW->V
 | .t n=>r n
 | .c v=>v
def aW.fv (r:bz):List aW->List V
 | []=>[]
 | x::xs=>x.aV r::aW.fv r xs
def rx:Operand->aW
 | .tmp t=>bif Nat.ble t top then .t t else .c .bad
 | .const v=>.c (hY v)
 | .func f=>bif Nat.beq f dv then .c .bad else .c (.func f [])
 | .global _=>.c .bad
def lK:List Operand->List aW
 | []=>[]
 | x::xs=>rx x::lK xs
def aW.opt (r:bz):Option aW->Option V
 | none=>none
 | some x=>some (x.aV r)
def s8:Option Operand->Option aW
 | none=>none
 | some x=>some (rx x)
inductive en where
 | int (op:BinOp)
 | str (op:BinOp)
 | shl
 | shr
 | x0 (neg:Bool)
 | lV (neg:Bool) (k:Nat)
 | other (op:BinOp) (t:TypeId)
def en.run (P:Program):en->V->V->Option V
 | .int op=>(l5 op).run
 | .str op=>(ta op).run
 | .shl=>(xb true).run
 | .shr=>(xb false).run
 | .x0 neg=>(j3 neg q8).run
 | .lV neg k=>(j3 neg (hL k)).run
 | .other op t=>(sd P op t).run
inductive tj where
 | int (k:IntKind)
 | bytes
 | str
 | other (s d:TypeId)
def tj.run (P:Program):tj->V->ah->a7
 | .int k=>fun x h=>x.e1 .fail fun _ n=>.val (.int k (k.wrap n)) h
 | .bytes=>vu.run
 | .str=>tE.run
 | .other s d=>(q6 P s d).run
inductive nL where
 | int | str | bool
def nL.eq:nL->ec
 | .int=>nj
 | .str=>vD
 | .bool=>q8
inductive Da where
 | arr (n:Nat)
 | str
 | slice
 | map
inductive G where
 | bad
 | bg (x:aW)
 | pick (c a b:aW)
 | new (z:List V)
 | box (x:aW)
 | build (z:List V) (bD:List (Nat × Nat × aW))
 | eP (len size:Nat) (z:List V) (bD:List (Nat × Nat × aW))
 | eA (x:aW)
 | ka (size:Nat) (x:aW)
 | st (size:Nat) (x y:aW)
 | uD (x:aW)
 | bin (k:en) (x y:aW)
 | un (op:UnOp) (x:aW)
 | im (k:tj) (x:aW)
 | fn (f:FuncId) (e':List aW)
 | uz (f:FuncId) (first:List aW)
 | Di (t:TypeId) (z:Option V) (ok:Bool) (x:aW)
 | sL (t:TypeId) (x:aW)
 | y7 (size:Nat) (z:List V) (l c:aW)
 | qN (x:aW) (bO au eT:Option aW)
 | ek (size:Nat) (x:aW) (bO au eT:Option aW)
 | hi (off:Nat) (x:aW)
 | vI (off:Nat) (x:aW)
 | vJ (off size:Nat) (x:aW)
 | dG (size:Nat) (x i:aW)
 | t' (n size:Nat) (x i:aW)
 | oe (x i:aW)
 | ky (t:TypeId) (x i:aW)
 | look (k:nL) (z:V) (ok:Bool) (x i:aW)
 | CB (k:nL) (m i x:aW)
 | B0 (x:Option aW)
 | zp (x:aW)
 | zb (x:aW)
 | ext (x:aW) (i:Nat)
 | call (f:FuncId) (args:List aW)
 | p5 (f:aW) (args:List aW)
 | len (k:Da) (x:aW)
 | app (size:Nat) (s x:aW)
 | copy (size:Nat) (d s:aW)
 | y8 (args:List aW)
 | eT (args:List aW)
 | Ov (z:List V) (x:aW)
 | Dt (x:aW)
 | LQ (size:Nat) (z:List V) (s x:aW)
 | ET (z:V) (ok:Bool) (x i:aW)
 | looks (k:TypeId) (z:V) (ok:Bool) (x i:aW)
 | UI (m i x:aW)
 | UJ (k:TypeId) (m i x:aW)
 | Sq (z:V) (m i:aW)
 | Sr (k:TypeId) (z:V) (m i:aW)
 | Pm (m s x:aW)
 | TV (x:aW)
 | SB (x:aW)
 | Pb (x:aW)
 | Ch (neg:Bool) (x y:aW)
 | gj (f:aW) (args:List aW)
abbrev eh:Nat:=17179869185
def k_ (r:bz):List (Nat × Nat × aW)->List (Nat × Nat × V)
 | []=>[]
 | (o,s,x)::bD=>(o,s,x.aV r)::k_ r bD
def jP:List V->List (Nat × Nat × V)->Option (List V)
 | cells,[]=>some cells
 | cells,(off,size,v)::rest=>bif v.fK&&(Nat.beq v.cells.length size&&Nat.ble (off+v.cells.length) cells.length) then jP (sk cells off v.cells) rest else none
def Da.run:Da->V->ah->a7
 | .arr n=>fun _ h=>.val (.int .i64 n) h
 | .str=>fun x h=>a7.of h ((pD .string).run x)
 | .slice=>fun x h=>a7.of h ((pD (.slice 0)).run x)
 | .map=>fun x h=>BQ [x] h
def Ks (neg:Bool) (h:ah) (x y:V):Option V:=
 match me h x y with
 | some b=>some (.bool (bif neg then !b else b))
 | none=>none
def G.run (P:Program) (g:G) (call:et) (r:bz) (h:ah):a7:=
 match g with
 | .bad=>.fail
 | .bg x=>.val (x.aV r) h
 | .pick c a b=>match c.aV r with
   | .bool t=>.val (bif t then a.aV r else b.aV r) h
   | _=>.fail
 | .new z=>hC (.ptr (aC h.next) 0) (gP h z)
 | .box x=>bif (x.aV r).fK then hC (.ptr (aC h.next) 0) (gP h (x.aV r).cells) else .fail
 | .build z bD=>(match jP z (k_ r bD) with
   | some cs=>.val (.agg cs) h
   | none=>.fail)
 | .eP n _ z bD=>match jP (jh z n) (k_ r bD) with
   | some cs=>(match gP h cs with
     | some aa=>.val (.slice (aC h.next) 0 n n) aa
     | none=>.fail)
   | none=>.fail
 | .eA x=>a7.of h (om h (x.aV r))
 | .ka n x=>a7.of h (oj n h (x.aV r))
 | .st n x y=>hC .bad (xd n h (x.aV r) (y.aV r))
 | .uD x=>a7.of h (uC (x.aV r))
 | .bin k x y=>a7.of h (k.run P (x.aV r) (y.aV r))
 | .un op x=>a7.of h (r0 op (x.aV r))
 | .im k x=>k.run P (x.aV r) h
 | .fn f e'=>.val (.func f (aW.fv r e')) h
 | .uz f first=>.val (.kT f (aW.fv r first)) h
 | .Di t z ok x=>a7.of h (Am t z ok (x.aV r))
 | .sL t x=>.val (.iface t (x.aV r)) h
 | .y7 n z l c=>ux n z (l.aV r) (c.aV r) h
 | .qN x bO au m3=>a7.of h (mR (x.aV r) (aW.opt r bO) (aW.opt r au) (aW.opt r m3))
 | .ek n x bO au m3=>a7.of h (match x.aV r with
   | .cc=>zw (aW.opt r bO) (aW.opt r au) (aW.opt r m3)
   | .slice b off wL cap=>rW n b off wL cap (aW.opt r bO) (aW.opt r au) (aW.opt r m3)
   | .eu b off wL idx=>s9 n b off wL idx (aW.opt r bO) (aW.opt r au) (aW.opt r m3)
   | .gQ b off nD idx=>zx b off nD idx (aW.opt r bO) (aW.opt r au) (aW.opt r m3)
   | _=>none)
 | .hi off x=>a7.of h ((x.aV r).ke none fun b o=>some (.ptr b (o+off)))
 | .vI off x=>a7.of h (match x.aV r with
   | .agg cs=>cs[off]?
   | _=>none)
 | .vJ off n x=>a7.of h (match x.aV r with
   | .agg cs=>some (.agg ((cs.drop off).take n))
   | _=>none)
 | .dG n x i=>a7.of h ((wE n).run (x.aV r) (i.aV r))
 | .t' n s x i=>a7.of h ((sN n s).run (x.aV r) (i.aV r))
 | .oe x i=>a7.of h (sP.run (x.aV r) (i.aV r))
 | .ky t x i=>a7.of h ((sO P t).run (x.aV r) (i.aV r))
 | .look k z ok x i=>a7.of h (kA k.eq z ok h (x.aV r) (i.aV r))
 | .CB k m i x=>hC .bad (pS k.eq h (m.aV r) (i.aV r) (x.aV r))
 | .B0 x=>wS (aW.opt r x) h
 | .zp x=>(match x.aV r with
   | .str s=>.val (.ptr (aC h.next) 0) (h.new (.iter s 0))
   | _=>.fail)
 | .zb x=>wX (x.aV r) h
 | .ext x i=>(match x.aV r with
   | .tuple ai=>a7.of h ai[i]?
   | _=>.fail)
 | .call f args=>call f (aW.fv r args) h
 | .p5 f args=>(f.aV r).ze (aW.fv r args) fun g xs=>call g xs h
 | .len k x=>k.run (x.aV r) h
 | .app n s x=>iY n (s.aV r) (x.aV r) h
 | .copy n d s=>copyV n (d.aV r) (s.aV r) h
 | .y8 args=>a7.of h (lG (fun b a=>!Int.leB a b) (aW.fv r args))
 | .eT args=>a7.of h (lG (fun b a=>!Int.leB b a) (aW.fv r args))
 | .Ov z x=>Dv z (x.aV r) h
 | .Dt x=>a7.of h (Ay (x.aV r))
 | .LQ n z s x=>GY n z (s.aV r) (x.aV r) h
 | .ET z ok x i=>a7.of h (nC ⟨me h⟩ z ok h (x.aV r) (i.aV r))
 | .looks k z ok x i=>a7.of h (bif rH P k (i.aV r) then nC (structEq P k) z ok h (x.aV r) (i.aV r) else none)
 | .UI m i x=>hC .bad (pS ⟨me h⟩ h (m.aV r) (i.aV r) (x.aV r))
 | .UJ k m i x=>hC .bad (bif rH P k (i.aV r) then pS (structEq P k) h (m.aV r) (i.aV r) (x.aV r) else none)
 | .Sq z m i=>HC z (m.aV r) (i.aV r) h
 | .Sr k z m i=>HD P k z (m.aV r) (i.aV r) h
 | .Pm m s x=>hC .bad (AH h (m.aV r) (s.aV r) (x.aV r))
 | .TV x=>rangeMap (x.aV r) h
 | .SB x=>hA (x.aV r) h
 | .Pb x=>DG (x.aV r) h
 | .Ch neg x y=>a7.of h (Ks neg h (x.aV r) (y.aV r))
 | .gj f args=>(match f.aV r with
   | .func g cs=>bif Nat.beq g dv then .fail else .val (.tuple (.func g (aW.fv r args++cs)::(r eh).list)) h
   | _=>.fail)
def KA (P:Program) (op:BinOp) (t:TypeId):en:=
 match op with
 | .shl=>.shl
 | .shr=>.shr
 | op=>match bf P t with
   | none=>.other op t
   | some aO=>match aO.bl with
     | .int _=>.int op
     | .string=>.str op
     | .bool=>(match op with
       | .eql=>.x0 false
       | .neq=>.x0 true
       | _=>.other op t)
     | .pointer _=>(match op with
       | .eql=>.lV false 1
       | .neq=>.lV true 1
       | _=>.other op t)
     | .slice _=>(match op with
       | .eql=>.lV false 2
       | .neq=>.lV true 2
       | _=>.other op t)
     | .map _ _=>(match op with
       | .eql=>.lV false 3
       | .neq=>.lV true 3
       | _=>.other op t)
     | .func _ _ _=>(match op with
       | .eql=>.lV false 4
       | .neq=>.lV true 4
       | _=>.other op t)
     | _=>.other op t
def KF (P:Program) (op:BinOp) (t:TypeId) (lit:Bool):en:=
 bif lit then (match bf P t with
  | some aO=>match aO.bl with
    | .interface _=>match op with
      | .eql=>.lV false 5
      | .neq=>.lV true 5
      | _=>.lV false 99
    | _=>.lV false 99
  | none=>.lV false 99) else KA P op t
def KD (P:Program) (s d:TypeId):tj:=
 match bf P s,bf P d with
 | some uS,some pf=>match pf.bl with
   | .int k=>.int k
   | .string=>match uS.bl with
     | .slice e=>match bf P e with
       | some bh=>match bh.bl with
         | .int .u8=>.str
         | _=>.other s d
       | none=>.other s d
     | _=>.other s d
   | .slice e=>match bf P e with
     | some bh=>match bh.bl with
       | .int .u8=>.bytes
       | _=>.other s d
     | none=>.other s d
   | _=>.other s d
 | _,_=>.other s d
def qG (place:Nat->Option (Nat × Nat)):List (Nat × Operand)->Option (List (Nat × Nat × aW))
 | []=>some []
 | (i,x)::bD=>match place i with
   | none=>none
   | some (off,size)=>match qG place bD with
     | none=>none
     | some l=>some ((off,size,rx x)::l)
def TL (P:Program) (t:TypeId) (bD:List (Nat × Operand)):G:=
 match bf P t with
 | some aO=>match aO.zero with
   | some z=>match aO.bl with
     | .struct cl=>bif DQ P cl.toList then (match qG (x5 P cl) bD with
       | some l=>.build z.cells l
       | none=>.bad) else .bad
     | .array _ e=>match bf P e with
       | some bh=>(match qG (fun i=>some (i * bh.size,bh.size)) bD with
         | some l=>.build z.cells l
         | none=>.bad)
       | none=>.bad
     | _=>.bad
   | none=>.bad
 | none=>.bad
def TO (P:Program) (t:TypeId) (len:Nat) (bD:List (Nat × Operand)):G:=
 match bf P t with
 | some aO=>match aO.bl with
   | .slice e=>match bf P e with
     | some bh=>match bh.zero with
       | some z=>bif Nat.ble (len * bh.size) 1000000&&Nat.beq z.cells.length bh.size then
          (match qG (fun i=>some (i * bh.size,bh.size)) bD with
          | some l=>.eP len bh.size z.cells l
          | none=>.bad) else .bad
       | none=>.bad
     | none=>.bad
   | _=>.bad
 | none=>.bad
def wK:TypeDesc->Option nL
 | .int _=>some .int
 | .string=>some .str
 | .bool=>some .bool
 | _=>none
def Ho (P:Program) (t:TypeId):Option (List V):=
 match bf P t with
 | some aO=>match aO.bl with
   | .slice e=>match bf P e with
     | some bh=>match bh.zero with
       | some z=>some z.cells
       | none=>none
     | none=>none
   | _=>none
 | none=>none
theorem YT (P:Program) (t:TypeId):Az P t=Ho P t:=rfl
def KC (P:Program) (c:Call):G:=
 match c.callee with
 | .value (.func f)=>bif Nat.beq f dv then .bad else .call f (lK c.args.toList)
 | .value x=>.p5 (rx x) (lK c.args.toList)
 | .invoke _ _=>.bad
 | .builtin b=>match b with
   | .len=>match c.argTypes.toList,c.args.toList with
     | [t],[x]=>(match bf P t with
       | some aO=>(match aO.bl with
         | .map _ _=>.len .map (rx x)
         | .array n _=>.len (.arr n) (rx x)
         | .string=>.len .str (rx x)
         | .slice _=>.len .slice (rx x)
         | _=>.bad)
       | none=>.bad)
     | _,_=>.bad
   | .append=>match c.argTypes.toList,c.args.toList with
     | [t,u],[s,x]=>(match bf P t,bf P u with
       | some aO,some mh=>(match mh.bl with
         | .int _=>(match aO.bl with
           | .slice e=>(match bf P e with
             | none=>.bad
             | some bh=>match bh.zero with
               | none=>.bad
               | some z=>bif Nat.ble 1 bh.size&&Nat.ble bh.bytes 4096&&Nat.beq z.cells.length bh.size then .LQ bh.size z.cells (rx s) (rx x) else .bad)
           | _=>.bad)
         | _=>match aO.bl with
           | .slice e=>(match bf P e with
             | none=>.bad
             | some bh=>match bh.zero with
               | none=>.bad
               | some z=>bif Nat.ble 1 bh.size&&Nat.ble bh.bytes 4096&&Nat.beq z.cells.length bh.size then .app bh.size (rx s) (rx x) else .bad)
           | _=>.bad)
       | _,_=>.bad)
     | _,_=>.bad
   | .copy=>match c.argTypes.toList,c.args.toList with
     | t::_,[d,s]=>(match bf P t with
       | some aO=>(match aO.bl with
         | .slice e=>(match bf P e with
           | some bh=>.copy bh.size (rx d) (rx s)
           | none=>.bad)
         | _=>.bad)
       | none=>.bad)
     | _,_=>.bad
   | .min=>.y8 (lK c.args.toList)
   | .max=>.eT (lK c.args.toList)
   | .clear=>match c.argTypes.toList,c.args.toList with
     | [t],[x]=>(match Ho P t with
       | some z=>.Ov z (rx x)
       | none=>.bad)
     | _,_=>.bad
   | .cap=>match c.argTypes.toList,c.args.toList with
     | [t],[x]=>(match bf P t with
       | some aO=>bif By aO.bl then .Dt (rx x) else .bad
       | none=>.bad)
     | _,_=>.bad
   | _=>.bad
def FL (P:Program) (op:Op):G:=
 match op with
 | .move x=>.bg (rx x)
 | .assign x=>.bg (rx x)
 | .pick c a b=>.pick (rx c) (rx a) (rx b)
 | .alloc t=>(match bf P t with
   | some aO=>(match aO.zero with
     | some z=>.new z.cells
     | none=>.bad)
   | none=>.bad)
 | .box _ x=>.box (rx x)
 | .build t bD=>TL P t bD.toList
 | .buildSlice t n bD=>TO P t n bD.toList
 | .load t x=>(match bf P t with
   | none=>.bad
   | some aO=>bif aO.agg then .ka aO.size (rx x) else bif Nat.beq aO.size 1 then .eA (rx x) else .bad)
 | .store t x y=>(match bf P t with
   | none=>.bad
   | some aO=>.st aO.size (rx x) (rx y))
 | .nilCheck x=>.uD (rx x)
 | .binOp op t x y _=>.bin (KF P op t (rO x||rO y)) (rx x) (rx y)
 | .unOp op _ x=>.un op (rx x)
 | .convert s d x=>.im (KD P s d) (rx x)
 | .makeFunc (.func f) first e'=>bif first.isEmpty&&!Nat.beq f dv then .fn f (lK e'.toList) else bif e'.isEmpty&&!Nat.beq f dv then .uz f (lK first.toList) else .bad
 | .makeInterface t x=>(match bf P t with
   | some aO=>bif Nat.beq (fx aO.bl) 5 then .bad else .sL t (rx x)
   | none=>.bad)
 | .makeSlice t l c=>(match bf P t with
   | some aO=>(match aO.bl with
     | .slice e=>(match bf P e with
       | some bh=>(match bh.zero with
         | some z=>bif Nat.ble bh.bytes 4096 then .y7 bh.size z.cells (rx l) (rx c) else .bad
         | none=>.bad)
       | none=>.bad)
     | _=>.bad)
   | none=>.bad)
 | .slice t x bO au eT=>(match bf P t with
   | none=>.bad
   | some aO=>match aO.bl with
     | .string=>.qN (rx x) (s8 bO) (s8 au) (s8 eT)
     | .slice e=>(match bf P e with
       | none=>.bad
       | some bh=>.ek bh.size (rx x) (s8 bO) (s8 au) (s8 eT))
     | _=>.bad)
 | .fieldAddr t x i=>(match rb P t i with
   | none=>.bad
   | some f=>match bf P f.type with
     | none=>.bad
     | some la=>bif Nat.beq la.size 0 then .bad else .hi f.offset (rx x))
 | .field t x i=>(match rb P t i with
   | none=>.bad
   | some f=>match bf P f.type with
     | none=>.bad
     | some aO=>bif aO.agg then .vJ f.offset aO.size (rx x) else .vI f.offset (rx x))
 | .indexAddr t x i=>(match bf P t with
   | none=>.bad
   | some aO=>match aO.bl with
     | .slice e=>(match bf P e with
       | none=>.bad
       | some bh=>.dG bh.size (rx x) (rx i))
     | .array n e=>(match bf P e with
       | none=>.bad
       | some bh=>.t' n bh.size (rx x) (rx i))
     | _=>.bad)
 | .index t x i=>(match bf P t with
   | none=>.bad
   | some aO=>match aO.bl with
     | .string=>.oe (rx x) (rx i)
     | _=>.ky t (rx x) (rx i))
 | .range t x=>(match bf P t with
   | some aO=>(match aO.bl with
     | .string=>.zp (rx x)
     | .map _ _=>.TV (rx x)
     | _=>.bad)
   | none=>.bad)
 | .next it s=>bif s then .zb (rx it) else .SB (rx it)
 | .entry it=>.Pb (rx it)
 | .lookup t x k ok=>(match bf P t with
   | some aO=>(match aO.bl with
     | .map bx e=>(match bf P bx with
       | some g'=>(match bf P e with
         | some bh=>(match bh.zero with
           | some z=>(match wK g'.bl with
             | some dy=>.look dy z ok (rx x) (rx k)
             | none=>bif lu g'.bl then .bad else bif jV P bx then .ET z ok (rx x) (rx k) else bif mS P bx then .looks bx z ok (rx x) (rx k) else .bad)
           | none=>.bad)
         | none=>.bad)
       | none=>.bad)
     | _=>.bad)
   | none=>.bad)
 | .mapUpdate t m k x | .insert t m k x=>(match bf P t with
   | some aO=>(match aO.bl with
     | .map bx _=>(match bf P bx with
       | some g'=>(match wK g'.bl with
         | some dy=>.CB dy (rx m) (rx k) (rx x)
         | none=>bif lu g'.bl then .bad else bif jV P bx then .UI (rx m) (rx k) (rx x) else bif mS P bx then .UJ bx (rx m) (rx k) (rx x) else .bad)
       | none=>.bad)
     | _=>.bad)
   | none=>.bad)
 | .mapEntry t m k=>(match bf P t with
   | some aO=>(match aO.bl with
     | .map bx e=>(match bf P e with
       | some bh=>(match bh.zero with
         | some z=>bif jV P bx then .Sq z (rx m) (rx k) else bif mS P bx then .Sr bx z (rx m) (rx k) else .bad
         | none=>.bad)
       | none=>.bad)
     | _=>.bad)
   | none=>.bad)
 | .entryStore _ m st x=>.Pm (rx m) (rx st) (rx x)
 | .makeMap t x=>(match bf P t with
   | some aO=>bif Nat.beq (fx aO.bl) 3 then .B0 (s8 x) else .bad
   | none=>.bad)
 | .extract x i=>.ext (rx x) i
 | .typeAssert x _ t ok=>(match bf P t with
   | some aO=>bif Nat.beq (fx aO.bl) 5 then .bad else .Di t aO.zero ok (rx x)
   | none=>.bad)
 | .call c=>KC P c
 | _=>.bad
def eM (c1:bN):bz:=fun t=>T.get .bad (aC t) c1
theorem fl (c1:bN) (x:Operand):(bZ x).run c1=(rx x).aV (eM c1):=by
 cases x with
 | tmp t=>
   simp only [bZ,rx];cases Nat.ble t top<;>rfl
 | const v=>rfl
 | func f=>
   simp only [bZ,rx];cases Nat.beq f dv<;>rfl
 | global g=>rfl
theorem x3 (c1:bN):∀xs:List Operand,(p_ xs).run c1=aW.fv (eM c1) (lK xs)
 | []=>rfl
 | x::xs=>by simp only [p_,lK,aW.fv,fl,x3 c1 xs]
theorem Kd (c1:bN) (x:Option Operand):(rR x).run c1=aW.opt (eM c1) (s8 x):=by
 cases x with
 | none=>rfl
 | some x=>simp only [rR,s8,aW.opt,fl]
theorem DR (c1:bN) {place:Nat->Option (Nat × Nat)}:∀{bD:List (Nat × Operand)} {l:List (Nat × Nat × aW)},qG place bD=some l->∀cells,nW place cells ((uI bD).run c1)=jP cells (k_ (eM c1) l)
 | [],l,h,cells=>by simp only [qG,amW] at h;subst h;rfl
 | (i,x)::bD,l,h,cells=>by
   simp only [qG] at h;cases ak:place i with
   | none=>rw [ak] at h;cases h
   | some os=>
     obtain ⟨off,size⟩:=os;rw [ak] at h;simp only at h;cases ax:qG place bD with
     | none=>rw [ax] at h;cases h
     | some gd=>
       rw [ax] at h;simp only [amW] at h;subst h;simp only [uI,nW,ak,k_,jP,fl];cases ((rx x).aV (eM c1)).fK&&(Nat.beq ((rx x).aV (eM c1)).cells.length size&&Nat.ble (off + ((rx x).aV (eM c1)).cells.length) cells.length) with
       | false=>rfl
       | true=>exact DR c1 ax _
section
variable {P:Program}
theorem ai_ (op:BinOp) (t:TypeId):(KA P op t).run P=(sd P op t).run:=by
 unfold KA sd;cases op<;>first | rfl | skip
 all_goals
  cases aE:bf P t with
  | none=>simp only [en.run];unfold sd;rw [aE]
  | some aO=>
    simp only;cases hu:aO.bl<;>first | rfl | (simp only [en.run];unfold sd;rw [aE];simp only [hu];done) | (simp only [en.run];unfold p8 h8;simp only [aE,hu];first | done | rfl)
theorem ajc (op:BinOp) (t:TypeId) (lit:Bool):(KF P op t lit).run P=(Ao P op t lit).run:=by
 unfold KF Ao;cases lit with
 | false=>simp only [anf];exact ai_ op t
 | true=>
   simp only [am4];cases bf P t with
   | none=>rfl
   | some aO=>
     simp only;cases aO.bl<;>first | rfl | (cases op<;>rfl)
theorem ajb (s d:TypeId):(KD P s d).run P=(q6 P s d).run:=by
 unfold KD
 split
 . rename_i uS pf aM aZ
   split
   . rename_i k hu;simp only [tj.run];unfold q6;rw [aM,aZ];simp only [hu]
   . rename_i hu
     split
     . rename_i e bB
       split
       . rename_i bh he
         split
         . rename_i hw;simp only [tj.run];unfold q6;rw [aM,aZ];simp only [hu,bB,he,hw]
         . rfl
       . rfl
     . rfl
   . rename_i e hu
     split
     . rename_i bh he
       split
       . rename_i hw;simp only [tj.run];unfold q6;rw [aM,aZ];simp only [hu,he,hw]
       . rfl
     . rfl
   . rfl
 . rfl
theorem JD {d:TypeDesc} {dy:nL} (h:wK d=some dy):lu d=true/\l8 d=dy.eq:=by cases d<;>simp only [wK] at h<;>first | (cases h;done) | (cases h;exact ⟨rfl,rfl⟩)
theorem aja {c:Call} {call:et} {c1:bN} {h aa:ah} {v:V} (he:(KC P c).run P call (eM c1) h=.val v aa):(sf P c).run call c1 h=.val v aa:=by
 unfold KC at he;unfold sf
 split at he
 . rename_i f ao;rw [ao];cases bc:Nat.beq f dv with
   | true=>rw [bc] at he;cases he
   | false=>
     rw [bc] at he;simp only [anf,G.run] at he;simpa only [bZ,bc,anf,q_,V.ze,x3,anC] using he
 . rename_i x ar ao;rw [ao];simp only [G.run] at he;simpa only [fl,x3] using he
 . cases he
 . rename_i b ao;rw [ao];simp only [x3];cases b<;>simp only at he<;>try (cases he;done)
   case len=>
    split at he
    . rename_i t x aE ar;cases l4:bf P t with
      | none=>rw [l4] at he;cases he
      | some aO=>
        rw [l4] at he;simp only at he;simp only [q5,aE,l4,ar,lK,aW.fv];cases hu:aO.bl<;>rw [hu] at he<;>first | (cases he;done) | (simpa only [ue,am4,anf,G.run,Da.run,pD,a7.of] using he)
    . cases he
   case append=>
    split at he
    . rename_i t u s x aE ar
      split at he
      . rename_i aO mh l4 yJ;simp only [q5,aE,ar,lK,aW.fv,Dg,l4,yJ]
        split at he
        . rename_i k ac0
          split at he
          . rename_i e cE;cases fh:bf P e with
            | none=>rw [fh] at he;cases he
            | some bh=>
              rw [fh] at he;simp only at he;cases bG:bh.zero with
              | none=>rw [bG] at he;cases he
              | some z=>
                rw [bG] at he;simp only at he;cases aj:(Nat.ble 1 bh.size&&Nat.ble bh.bytes 4096&&Nat.beq z.cells.length bh.size) with
                | false=>rw [aj] at he;cases he
                | true=>
                  rw [aj] at he;simp only [am4,G.run] at he;simp only [ac0,cE,fh,bG,aj,am4];exact he
          . cases he
        . rename_i ez
          split at he
          . rename_i e cE;cases fh:bf P e with
            | none=>rw [fh] at he;cases he
            | some bh=>
              rw [fh] at he;simp only at he;cases bG:bh.zero with
              | none=>rw [bG] at he;cases he
              | some z=>
                rw [bG] at he;simp only at he;cases aj:(Nat.ble 1 bh.size&&Nat.ble bh.bytes 4096&&Nat.beq z.cells.length bh.size) with
                | false=>rw [aj] at he;cases he
                | true=>
                  rw [aj] at he;simp only [am4,G.run] at he;cases Je:mh.bl<;>first
                   | (exact absurd Je (ez _))
                   | (simp only [cE,fh,bG,aj,am4];exact he)
          . cases he
      . cases he
    . cases he
   case copy=>
    split at he
    . rename_i t cZ d s aE ar;cases l4:bf P t with
      | none=>rw [l4] at he;cases he
      | some aO=>
        rw [l4] at he;simp only at he
        split at he
        . rename_i e cE;cases fh:bf P e with
          | none=>rw [fh] at he;cases he
          | some bh=>
            rw [fh] at he;simp only [G.run] at he;simp only [q5,aE,ar,lK,aW.fv,Dx,l4,cE,fh];exact he
        . cases he
    . cases he
   case min=>exact he
   case max=>exact he
   case clear=>
    split at he
    . rename_i t x aE ar;cases ao:Ho P t with
      | none=>rw [ao] at he;cases he
      | some z=>
        rw [ao] at he;simp only [G.run] at he;simp only [q5,aE,ar,lK,aW.fv,YT,ao];exact he
    . cases he
   case cap=>
    split at he
    . rename_i t x aE ar;cases l4:bf P t with
      | none=>rw [l4] at he;cases he
      | some aO=>
        rw [l4] at he;simp only at he;cases aj:By aO.bl with
        | false=>rw [aj] at he;cases he
        | true=>
          rw [aj] at he;simp only [am4,G.run] at he;simp only [q5,aE,ar,lK,aW.fv,l4,aj,am4];exact he
    . cases he
theorem TM {o:Oper} {call:et} {c1:bN} {h aa:ah} {v:V} (he:(FL P o.op).run P call (eM c1) h=.val v aa):(fP P o).run call c1 h=.val v aa:=by
 obtain ⟨dst,op,type,pos,after,guard⟩:=o;cases op<;>simp only [FL] at he<;>try (cases he;done)
 all_goals simp only [fP]
 case move x=>simpa only [fl,G.run] using he
 case assign x=>simpa only [fl,G.run] using he
 case pick c a b=>
  simp only [fl,G.run] at he ⊢;generalize (rx c).aV (eM c1)=q at he ⊢;cases q<;>exact he
 case alloc t=>
  cases aE:bf P t with
  | none=>rw [aE] at he;cases he
  | some aO=>
    rw [aE] at he;simp only at he ⊢;cases bG:aO.zero with
    | none=>rw [bG] at he;cases he
    | some z=>rw [bG] at he;exact he
 case box t x=>simpa only [fl,G.run] using he
 case build t bD=>
  unfold TL at he;unfold Dp;cases aE:bf P t with
  | none=>rw [aE] at he;cases he
  | some aO=>
    rw [aE] at he;simp only at he ⊢;cases bG:aO.zero with
    | none=>rw [bG] at he;cases he
    | some z=>
      rw [bG] at he;simp only at he ⊢;cases hu:aO.bl<;>rw [hu] at he<;>simp only at he ⊢<;>try (cases he;done)
      . rename_i n e;cases fh:bf P e with
        | none=>rw [fh] at he;cases he
        | some bh=>
          rw [fh] at he;simp only at he ⊢;cases ak:qG (fun i=>some (i * bh.size,bh.size)) bD.toList with
          | none=>rw [ak] at he;cases he
          | some l=>
            rw [ak] at he;simp only [G.run] at he;rw [DR c1 ak];cases aA:jP z.cells (k_ (eM c1) l) with
            | none=>rw [aA] at he;cases he
            | some cs=>rw [aA] at he;exact he
      . rename_i cl;cases ay:DQ P cl.toList with
        | false=>rw [ay] at he;cases he
        | true=>
          rw [ay] at he;simp only [am4] at he ⊢;cases ak:qG (x5 P cl) bD.toList with
          | none=>rw [ak] at he;cases he
          | some l=>
            rw [ak] at he;simp only [G.run] at he;rw [DR c1 ak];cases aA:jP z.cells (k_ (eM c1) l) with
            | none=>rw [aA] at he;cases he
            | some cs=>rw [aA] at he;exact he
 case buildSlice t n bD=>
  unfold TO at he;unfold vs;cases aE:bf P t with
  | none=>rw [aE] at he;cases he
  | some aO=>
    rw [aE] at he;simp only at he ⊢;cases hu:aO.bl<;>rw [hu] at he<;>simp only at he ⊢<;>try (cases he;done)
    rename_i e;cases fh:bf P e with
    | none=>rw [fh] at he;cases he
    | some bh=>
      rw [fh] at he;simp only at he ⊢;cases bG:bh.zero with
      | none=>rw [bG] at he;cases he
      | some z=>
        rw [bG] at he;simp only at he ⊢;cases aj:(Nat.ble (n * bh.size) 1000000&&Nat.beq z.cells.length bh.size) with
        | false=>rw [aj] at he;cases he
        | true=>
          rw [aj] at he;simp only [am4] at he ⊢;cases ak:qG (fun i=>some (i * bh.size,bh.size)) bD.toList with
          | none=>rw [ak] at he;cases he
          | some l=>
            rw [ak] at he;simp only [G.run] at he;rw [DR c1 ak];exact he
 case load t x=>
  unfold qC;cases aE:bf P t with
  | none=>rw [aE] at he;cases he
  | some aO=>
    rw [aE] at he;simp only at he ⊢;cases bF:aO.agg with
    | true=>rw [bF] at he;simpa only [am4,fl,G.run] using he
    | false=>
      rw [bF] at he;simp only [anf] at he ⊢;cases aM:Nat.beq aO.size 1 with
      | true=>rw [aM] at he;simpa only [am4,fl,G.run] using he
      | false=>rw [aM] at he;cases he
 case store t x y=>
  unfold s';cases aE:bf P t with
  | none=>rw [aE] at he;cases he
  | some aO=>rw [aE] at he;simpa only [fl,G.run] using he
 case nilCheck x=>simpa only [fl,G.run] using he
 case binOp op t x y t2=>simpa only [fl,G.run,ajc] using he
 case unOp op t x=>simpa only [fl,G.run] using he
 case convert s d x=>simpa only [fl,G.run,ajb] using he
 case makeFunc fn first e'=>
  cases fn<;>simp only at he<;>try (cases he;done)
  simp only;cases aA:(first.isEmpty&&!Nat.beq _ dv) with
  | true=>rw [aA] at he;simpa only [am4,x3,G.run] using he
  | false=>
    rw [aA] at he;simp only [anf] at he ⊢;cases j8:(e'.isEmpty&&!Nat.beq _ dv) with
    | true=>rw [j8] at he;simpa only [am4,x3,G.run] using he
    | false=>rw [j8] at he;cases he
 case typeAssert x uZ t ok=>
  cases aE:bf P t with
  | none=>rw [aE] at he;cases he
  | some aO=>
    rw [aE] at he;simp only at he ⊢;cases aj:Nat.beq (fx aO.bl) 5 with
    | true=>rw [aj] at he;cases he
    | false=>rw [aj] at he;simpa only [anf,fl,G.run] using he
 case makeInterface t x=>
  cases aE:bf P t with
  | none=>rw [aE] at he;cases he
  | some aO=>
    rw [aE] at he;simp only at he ⊢;cases aj:Nat.beq (fx aO.bl) 5 with
    | true=>rw [aj] at he;cases he
    | false=>rw [aj] at he;simpa only [anf,fl,G.run] using he
 case makeSlice t l c=>
  unfold wT;cases aE:bf P t with
  | none=>rw [aE] at he;cases he
  | some aO=>
    rw [aE] at he;simp only at he ⊢;cases hu:aO.bl<;>rw [hu] at he<;>simp only at he ⊢<;>try (cases he;done)
    rename_i e;cases fh:bf P e with
    | none=>rw [fh] at he;cases he
    | some bh=>
      rw [fh] at he;simp only at he ⊢;cases bG:bh.zero with
      | none=>rw [bG] at he;cases he
      | some z=>
        rw [bG] at he;simp only at he ⊢;cases aj:Nat.ble bh.bytes 4096 with
        | false=>rw [aj] at he;cases he
        | true=>rw [aj] at he;simpa only [am4,fl,G.run] using he
 case slice t x bO au m3=>
  unfold FZ;cases aE:bf P t with
  | none=>rw [aE] at he;cases he
  | some aO=>
    rw [aE] at he;simp only at he ⊢;cases hu:aO.bl<;>rw [hu] at he<;>simp only at he ⊢<;>try (cases he;done)
    . simpa only [fl,Kd,G.run] using he
    . rename_i e;cases fh:bf P e with
      | none=>rw [fh] at he;cases he
      | some bh=>
        rw [fh] at he;simp only [fl,Kd,G.run] at he ⊢;generalize (rx x).aV (eM c1)=q at he ⊢;cases q<;>exact he
 case fieldAddr t x i=>
  unfold DN;cases aA:rb P t i with
  | none=>rw [aA] at he;cases he
  | some f=>
    rw [aA] at he;simp only at he ⊢;cases aE:bf P f.type with
    | none=>rw [aE] at he;cases he
    | some la=>
      rw [aE] at he;simp only at he ⊢;cases aj:Nat.beq la.size 0 with
      | true=>rw [aj] at he;cases he
      | false=>rw [aj] at he;simpa only [anf,fl,G.run] using he
 case field t x i=>
  unfold DO;cases aA:rb P t i with
  | none=>rw [aA] at he;cases he
  | some f=>
    rw [aA] at he;simp only [qF] at he ⊢;cases aE:bf P f.type with
    | none=>rw [aE] at he;cases he
    | some la=>
      rw [aE] at he;simp only at he ⊢;cases aj:la.agg with
      | true=>
        rw [aj] at he;simp only [am4,fl,G.run] at he ⊢;generalize (rx x).aV (eM c1)=q at he ⊢;cases q<;>exact he
      | false=>
        rw [aj] at he;simp only [anf,fl,G.run] at he ⊢;generalize (rx x).aV (eM c1)=q at he ⊢;cases q<;>exact he
 case indexAddr t x i=>
  unfold Ew;cases aE:bf P t with
  | none=>rw [aE] at he;cases he
  | some aO=>
    rw [aE] at he;simp only at he ⊢;cases hu:aO.bl<;>rw [hu] at he<;>simp only at he ⊢<;>try (cases he;done)
    all_goals
     rename_i e;cases fh:bf P e with
     | none=>rw [fh] at he;cases he
     | some bh=>rw [fh] at he;simpa only [fl,G.run] using he
 case index t x i=>
  cases aE:bf P t with
  | none=>rw [aE] at he;cases he
  | some aO=>
    rw [aE] at he;simp only at he;cases hu:aO.bl<;>rw [hu] at he<;>simp only [G.run] at he
    case string=>
     unfold sO;rw [aE];simp only [hu];simpa only [fl] using he
    all_goals simpa only [fl] using he
 case range t x=>
  unfold FG;cases aE:bf P t with
  | none=>rw [aE] at he;cases he
  | some aO=>
    rw [aE] at he;simp only at he ⊢;cases hu:aO.bl<;>rw [hu] at he<;>simp only at he ⊢<;>try (cases he;done)
    all_goals simp only [fl,G.run] at he ⊢
    all_goals first
     | exact he
     | (generalize (rx x).aV (eM c1)=q at he ⊢
        cases q<;>exact he)
 case next it b=>
  cases b<;>simpa only [am4,anf,fl,G.run] using he
 case entry it=>simpa only [fl,G.run] using he
 case mapEntry t m k=>
  unfold EX;cases aE:bf P t with
  | none=>rw [aE] at he;cases he
  | some aO=>
    rw [aE] at he;simp only at he ⊢;cases hu:aO.bl<;>rw [hu] at he<;>simp only at he ⊢<;>try (cases he;done)
    rename_i bx e;cases fh:bf P e with
    | none=>rw [fh] at he;cases he
    | some bh=>
      rw [fh] at he;simp only at he ⊢;cases bG:bh.zero with
      | none=>rw [bG] at he;cases he
      | some z=>
        rw [bG] at he;simp only at he ⊢;cases ak:jV P bx with
        | true=>rw [ak] at he;simpa only [am4,fl,G.run] using he
        | false=>
          rw [ak] at he;simp only [anf] at he ⊢;cases aM:mS P bx with
          | true=>rw [aM] at he;simpa only [am4,fl,G.run] using he
          | false=>rw [aM] at he;cases he
 case entryStore t m st x=>simpa only [fl,G.run] using he
 case lookup t x k ok=>
  unfold EU;cases aE:bf P t with
  | none=>rw [aE] at he;cases he
  | some aO=>
    rw [aE] at he;simp only at he ⊢;cases hu:aO.bl<;>rw [hu] at he<;>simp only at he ⊢<;>try (cases he;done)
    rename_i bx e;cases ay:bf P bx with
    | none=>rw [ay] at he;cases he
    | some g'=>
      rw [ay] at he;simp only at he ⊢;cases fh:bf P e with
      | none=>rw [fh] at he;cases he
      | some bh=>
        rw [fh] at he;simp only at he ⊢;cases bG:bh.zero with
        | none=>rw [bG] at he;cases he
        | some z=>
          rw [bG] at he;simp only at he ⊢;cases jQ:wK g'.bl with
          | none=>
            rw [jQ] at he;simp only at he ⊢;cases aA:lu g'.bl with
            | true=>rw [aA] at he;cases he
            | false=>
              rw [aA] at he;simp only [anf] at he ⊢;cases ak:jV P bx with
              | true=>rw [ak] at he;simpa only [am4,fl,G.run] using he
              | false=>
                rw [ak] at he;simp only [anf] at he ⊢;cases aM:mS P bx with
                | true=>rw [aM] at he;simpa only [am4,fl,G.run] using he
                | false=>rw [aM] at he;cases he
          | some dy=>
            rw [jQ] at he;obtain ⟨ag,av⟩:=JD jQ;simp only [ag,av,am4];simpa only [fl,G.run] using he
 case mapUpdate t m k x=>
  unfold pR;cases aE:bf P t with
  | none=>rw [aE] at he;cases he
  | some aO=>
    rw [aE] at he;simp only at he ⊢;cases hu:aO.bl<;>rw [hu] at he<;>simp only at he ⊢<;>try (cases he;done)
    rename_i bx e;cases ay:bf P bx with
    | none=>rw [ay] at he;cases he
    | some g'=>
      rw [ay] at he;simp only at he ⊢;cases jQ:wK g'.bl with
      | none=>
        rw [jQ] at he;simp only at he ⊢;cases aA:lu g'.bl with
        | true=>rw [aA] at he;cases he
        | false=>
          rw [aA] at he;simp only [anf] at he ⊢;cases ak:jV P bx with
          | true=>rw [ak] at he;simpa only [am4,fl,G.run] using he
          | false=>
            rw [ak] at he;simp only [anf] at he ⊢;cases aM:mS P bx with
            | true=>rw [aM] at he;simpa only [am4,fl,G.run] using he
            | false=>rw [aM] at he;cases he
      | some dy=>
        rw [jQ] at he;obtain ⟨ag,av⟩:=JD jQ;simp only [ag,av,am4];simpa only [fl,G.run] using he
 case insert t m k x=>
  unfold pR;cases aE:bf P t with
  | none=>rw [aE] at he;cases he
  | some aO=>
    rw [aE] at he;simp only at he ⊢;cases hu:aO.bl<;>rw [hu] at he<;>simp only at he ⊢<;>try (cases he;done)
    rename_i bx e;cases ay:bf P bx with
    | none=>rw [ay] at he;cases he
    | some g'=>
      rw [ay] at he;simp only at he ⊢;cases jQ:wK g'.bl with
      | none=>
        rw [jQ] at he;simp only at he ⊢;cases aA:lu g'.bl with
        | true=>rw [aA] at he;cases he
        | false=>
          rw [aA] at he;simp only [anf] at he ⊢;cases ak:jV P bx with
          | true=>rw [ak] at he;simpa only [am4,fl,G.run] using he
          | false=>
            rw [ak] at he;simp only [anf] at he ⊢;cases aM:mS P bx with
            | true=>rw [aM] at he;simpa only [am4,fl,G.run] using he
            | false=>rw [aM] at he;cases he
      | some dy=>
        rw [jQ] at he;obtain ⟨ag,av⟩:=JD jQ;simp only [ag,av,am4];simpa only [fl,G.run] using he
 case makeMap t x=>
  unfold y2;cases aE:bf P t with
  | none=>rw [aE] at he;cases he
  | some aO=>
    rw [aE] at he;simp only at he ⊢;cases aj:Nat.beq (fx aO.bl) 3 with
    | false=>rw [aj] at he;cases he
    | true=>rw [aj] at he;simpa only [am4,Kd,G.run] using he
 case extract x i=>
  simp only [fl,G.run] at he ⊢;generalize (rx x).aV (eM c1)=q at he ⊢;cases q<;>exact he
 case call c=>exact aja he
end
end
section
open Go Go.RowKit
variable [Lay]
def ff (P:Program) (f:FuncId) (args:List V) (h:ah) (v:V) (aa:ah):Prop:=
 f≠dv/\(((∃fn,P.funcs[f]? =some fn/\fn.body.isSome=true)/\∀(aB:Fr) E w xs,bm E args xs->ba aB E h w->
  Calls P f xs.toArray w fun e w'=>∃aw x,e=.returned x/\E.le aw/\Rel aw v x/\ba aB aw aa w')\/
 ∀(aB:Fr) E w xs,bm E args xs->ba aB E h w->∃aw x w',(callFunc f xs.toArray).run P w=.ok (.value x) w'/\E.le aw/\Rel aw v x/\ba aB aw aa w')
def LG (P:Program) (args:List V) (b:aU) (h:ah) (v:V) (aa:ah):Prop:=
 ∀(aB:Fr) E w xs p,bm E args xs->ba aB E h w->E b=some p->
  ∃f tmps assign body,(Instr.yield p.bj xs.toArray).run P w=.ok (.round p.bj f tmps assign body) w/\
   RoundIn (cb none) 0 P p.bj f tmps assign body w fun e w'=>∃aw x,e=.returned x/\E.le aw/\Rel aw v x/\ba aB aw aa w'
theorem ff.calls {P:Program} (aK:e6 P) {f:FuncId} {args:List V} {h aa:ah} {v:V} (H:ff P f args h v aa) (aj:∃fn,P.funcs[f]? =some fn/\fn.body.isSome=true) (aB:Fr) (E:Env) (w:World) (xs:List Value) (ar:bm E args xs) (s:ba aB E h w):
 Calls P f xs.toArray w fun e w'=>∃aw x,e=.returned x/\E.le aw/\Rel aw v x/\ba aB aw aa w':=by
 rcases H.2 with ⟨_,H⟩ | H
 . exact H aB E w xs ar s
 . obtain ⟨aw,x,w',aJ,_⟩:=H aB E w xs ar s;obtain ⟨fn,J,ad⟩:=aj;rw [s7 aK J ad] at aJ;cases aJ
def b' (P:Program) (f:FuncId) (args:List V) (h:ah) (K:V->ah->Prop):Prop:=∃v aa,ff P f args h v aa/\K v aa
def VC (P:Program) (args:List V) (b:aU) (h:ah) (K:V->ah->Prop):Prop:=∃v aa,LG P args b h v aa/\K v aa
def LH (P:Program) (xs:List V) (h:ah) (K:V->ah->Prop):Prop:=∃cS b,xs=cS++[.ptr b 0]/\VC P cS b h K
def Lg (P:Program) (g:FuncId) (xs:List V) (h:ah) (K:V->ah->Prop):Prop:=if g=dv then LH P xs h K else b' P g xs h K
def V.target (v:V) (args:List V):Option (FuncId × List V):=
 match v with
 | .func g cs=>some (g,args++cs)
 | .kT g cs=>some (g,cs++args)
 | _=>none
theorem SQ {v:V} {args xs:List V} {g:FuncId} (h:v.target args=some (g,xs)) (F:FuncId->List V->a7):v.ze args F=F g xs:=by
 cases v<;>simp only [V.target] at h<;>try (cases h;done)
 all_goals (simp only [amW,aoi] at h;obtain ⟨rfl,rfl⟩:=h;rfl)
theorem b'.mono {P:Program} {f:FuncId} {args:List V} {h:ah} {K mr:V->ah->Prop} (c:b' P f args h K) (ay:∀v aa,K v aa->mr v aa):b' P f args h mr:=by obtain ⟨v,aa,ag,av⟩:=c;exact ⟨v,aa,ag,ay v aa av⟩
def mb:et:=fun _ _ _=>.fail
theorem E5 (P:Program):ht P mb/\hG P mb:=
 ⟨⟨fun _ f args h v aa _ he=>by simp [mb] at he,fun _ f args h v aa _ he=>by simp [mb] at he,fun _ args b h v aa he=>by simp [mb] at he,fun args h v aa he=>by simp [mb] at he⟩,fun f args h v aa he=>by simp [mb] at he⟩
open Classical in
def ov (f:FuncId) (args:List V) (h:ah) (v:V) (aa:ah):et:=
 fun f1 bR J=>if f1=f/\bR=args/\J=h then .val v aa else .fail
theorem SY {P:Program} {f:FuncId} {args:List V} {h aa:ah} {v:V} (H:ff P f args h v aa):ht P (ov f args h v aa)/\hG P (ov f args h v aa):=by
 refine ⟨⟨fun aB f1 bR J v1 fL _ he=>?_,fun aB f1 bR J v1 fL _ he=>?_,fun aB bR b J v1 fL he=>?_,fun bR J v1 fL he=>?_⟩,fun f1 bR J v1 fL he=>?_⟩
 . unfold ov at he
   split at he
   . rename_i ao;obtain ⟨rfl,rfl,rfl⟩:=ao;simp only [a7.val.injEq] at he;obtain ⟨rfl,rfl⟩:=he;intro E w xs ar s;rcases H.2 with H | H
     . exact .inl ⟨H.1,H.2 aB E w xs ar s⟩
     . exact .inr (H aB E w xs ar s)
   . cases he
 . unfold ov at he
   split at he<;>cases he
 . unfold ov at he
   split at he
   . rename_i ao;exact absurd ao.1.symm H.1
   . cases he
 . unfold ov at he
   split at he<;>cases he
 . trivial
theorem aj1 {xs cS:List V} {x y:V} (h:xs++[x]=cS++[y]):xs=cS/\x=y:=by have:=List.append_inj' h rfl;exact ⟨this.1,by simpa using this.2⟩
theorem aik {P:Program} {args:List V} {b:aU} {h aa:ah} {v:V} (H:LG P args b h v aa):ht P (ov dv (args++[.ptr b 0]) h v aa)/\hG P (ov dv (args++[.ptr b 0]) h v aa):=by
 refine ⟨⟨fun aB f1 bR J v1 fL ez he=>?_,fun aB f1 bR J v1 fL _ he=>?_,fun aB bR b8 J v1 fL he=>?_,fun bR J v1 fL he=>?_⟩,fun f1 bR J v1 fL he=>?_⟩
 . unfold ov at he
   split at he
   . rename_i ao;exact absurd ao.1 ez
   . cases he
 . unfold ov at he
   split at he<;>cases he
 . unfold ov at he
   split at he
   . rename_i ao;obtain ⟨_,ao,rfl⟩:=ao;obtain ⟨rfl,aj⟩:=aj1 ao;simp only [V.ptr.injEq,ao7] at aj;subst aj;simp only [a7.val.injEq] at he;obtain ⟨rfl,rfl⟩:=he;exact fun E w xs p ar s ak=>H aB E w xs p ar s ak
   . cases he
 . unfold ov at he
   split at he<;>cases he
 . trivial
theorem Ke {f:FuncId} {args:List V} {h aa:ah} {v:V}:ov f args h v aa f args h=.val v aa:=by unfold ov;rw [anb ⟨rfl,rfl,rfl⟩]
def bz.set (r:bz) (d:Option Nat) (v:V):bz:=
 match d with
 | none=>r
 | some d=>fun t=>if t=d then v else r t
def bz.trim (r:bz):List Nat->bz
 | [],_=>.bad
 | u::us,t=>if t=u then r t else bz.trim r us t
def bz.a_:List V->bz
 | [],_=>.bad
 | v::ai,t=>if t=0 then v else bz.a_ ai (t-1)
def CA (r:bz):List Nat->bN
 | []=>.e
 | t::cZ=>T.put .bad (r t) (aC t) (CA r cZ)
theorem Uu (r:bz):∀cZ:List Nat,eM (CA r cZ)=bz.trim r cZ
 | []=>by funext t;simp [eM,CA,bz.trim]
 | u::cZ=>by
   funext t;have bA:=congrFun (Uu r cZ) t;simp only [eM] at bA;simp only [eM,CA,bz.trim,T.iH];by_cases h:t=u
   . subst h;simp
   . rw [am7 (fun e=>h (lF e).symm),am7 h];exact bA
theorem zF (c1:bN):∀cZ:List Nat,eM (dM c1 cZ)=bz.trim (eM c1) cZ
 | []=>by funext t;simp [eM,dM,bz.trim]
 | u::cZ=>by
   funext t;have bA:=congrFun (zF c1 cZ) t;simp only [eM] at bA;simp only [eM,dM,bz.trim,T.iH];by_cases h:t=u
   . subst h;simp
   . rw [am7 (fun e=>h (lF e).symm),am7 h];exact bA
theorem K0 {r:bz}:∀{cZ:List Nat} {t:Nat},t ∈ cZ->bz.trim r cZ t=r t
 | [],t,h=>by simp at h
 | u::cZ,t,h=>by
   simp only [bz.trim];by_cases hu:t=u
   . rw [anb hu]
   . rw [am7 hu];simp only [ans] at h;exact K0 (h.resolve_left hu)
theorem Uv {r:bz}:∀{cZ:List Nat} {t:Nat},t ∉ cZ->bz.trim r cZ t=.bad
 | [],t,_=>rfl
 | u::cZ,t,h=>by simp only [ans,not_or] at h;simp only [bz.trim];rw [am7 h.1];exact Uv h.2
theorem Kt (d:Option Nat) (c1:bN) (v:V):eM ((gh d).run c1 v)=(eM c1).set d v:=by
 cases d with
 | none=>rfl
 | some d=>
   funext t;simp only [eM,gh,bz.set,T.iH];by_cases h:t=d
   . subst h;simp
   . rw [am7 (fun e=>h (lF e).symm),am7 h]
def Out (az:Nat) (r:bz):Prop:=∀t,az<=t->t≠eh->r t=.bad
theorem x4 {az:Nat} {r:bz} (a8:Out az r):∃c1,eM c1=r:=by
 refine ⟨CA r (eh::List.range az),?_⟩;rw [Uu];funext t;by_cases h:t<az
 . exact K0 (anJ _ (aoy.2 h))
 . by_cases ad:t=eh
   . exact K0 (by rw [ad];exact anV)
   . rw [Uv (by simp only [ans,aoy,not_or];exact ⟨ad,h⟩),a8 t (by omega) ad]
theorem Out.set {az:Nat} {r:bz} (a8:Out az r) {d:Option Nat} (aZ:fG az d=true) (v:V):Out az (r.set d v):=by
 intro t aE aM;cases d with
 | none=>exact a8 t aE aM
 | some d=>
   simp only [fG,amX,anF] at aZ;simp only [bz.set];rw [am7 (by omega)];exact a8 t aE aM
theorem FX {az:Nat} {r:bz} {d:Option Nat} (aZ:fG az d=true) (v:V):r.set d v eh=r eh:=by
 cases d with
 | none=>rfl
 | some d=>
   simp only [fG,amX,anF,ann] at aZ;simp only [bz.set];rw [am7 (by have:=aZ.2;unfold top at this;unfold eh;omega)]
structure j0 (E:Env) (az:Nat) (r:bz) (a:Act):Prop where
 size:a.tmps.size=az
 defers:lO E (r eh) a.defers
 af:∀t,t≠eh->Rel E (r t) (a.tmps.getD t undef)
theorem pF {t:Nat} (h:t<=top):t≠eh:=by unfold top at h;unfold eh;omega
theorem j0.mono {E aw:Env} (h:E.le aw) {az:Nat} {r:bz} {a:Act} (k:j0 E az r a):j0 aw az r a:=
 ⟨k.size,k.defers.mono h,fun t aE=>Rel.mono h _ _ (k.af t aE)⟩
theorem j0.put {E aw:Env} (h:E.le aw) {az:Nat} {r:bz} {a:Act} (k:j0 E az r a) {d:Option Nat} (aZ:fG az d=true) {v:V} {x:Value} (ar:Rel aw v x):j0 aw az (r.set d v) (a.put d x):=by
 cases d with
 | none=>exact k.mono h
 | some d=>
   have aM:=FX (r:=r) aZ v;simp only [fG,amX,anF] at aZ;refine ⟨by simp [Act.put,k.size],by rw [aM];exact k.defers.mono h,fun t fW=>?_⟩;simp only [bz.set,Act.put];rw [anq,ank];by_cases aE:t=d
   . subst aE;rw [anb rfl,anb rfl,anb (by rw [k.size];exact aZ.1)];exact ar
   . rw [am7 aE,am7 (fun e=>aE e.symm),<-Array.getD_eq_getD_getElem?];exact Rel.mono h _ _ (k.af t fW)
def G.wp (P:Program) (g:G) (r:bz) (h:ah) (K:V->ah->Prop):Prop:=
 match g with
 | .call f args=>b' P f (aW.fv r args) h K
 | .p5 f args=>∃g xs,(f.aV r).target (aW.fv r args)=some (g,xs)/\Lg P g xs h K
 | g=>∃v aa,g.run P mb r h=.val v aa/\K v aa
theorem G.zI {P:Program} {g:G} {r:bz} {h:ah} {K:V->ah->Prop} (H:g.wp P r h K):∃call v aa,(ht P call/\hG P call)/\g.run P call r h=.val v aa/\K v aa:=by
 cases g
 case call f args=>
  obtain ⟨v,aa,ag,av⟩:=H;exact ⟨_,v,aa,SY ag,Ke,av⟩
 case p5 f args=>
  obtain ⟨g,xs,aA,H⟩:=H;unfold Lg at H
  split at H
  rotate_left
  . obtain ⟨v,aa,ag,av⟩:=H;refine ⟨_,v,aa,SY ag,?_,av⟩;simp only [G.run];rw [SQ aA];exact Ke
  . rename_i al;subst al;obtain ⟨cS,b,rfl,v,aa,ag,av⟩:=H;refine ⟨_,v,aa,aik ag,?_,av⟩;simp only [G.run];rw [SQ aA];exact Ke
 all_goals
  obtain ⟨v,aa,ag,av⟩:=H;exact ⟨mb,v,aa,E5 P,ag,av⟩
structure bs where
 dst:Option Nat
 g:G
 aaG:Option (Nat × Bool)
 rs:List Nat
def bs.bad:bs:=⟨none,.bad,none,[]⟩
def gate (v:V) (want:Bool) (A B:Prop):Prop:=
 match v with
 | .bool b=>(b=want->A)/\(b=!want->B)
 | .tuple _=>B
 | _=>False
def bs.wp (P:Program) (o:bs) (r:bz) (h:ah) (K:bz->V->ah->Prop):Prop:=
 match o.aaG with
 | none=>o.g.wp P (r.trim o.rs) h fun v aa=>K (r.set o.dst v) v aa
 | some (d,want)=>gate (r.trim o.rs d) want (o.g.wp P (r.trim o.rs) h fun v aa=>K (r.set o.dst v) v aa) (K (r.set o.dst (.tuple [])) (.tuple []) h)
def uP (P:Program) (az:Nat) (all:Array Oper) (o:Oper):bs:=
 bif fG az o.dst&&ji (b2 all o) then
  match o.guard with
  | none=>⟨o.dst,FL P o.op,none,b2 all o⟩
  | some (j,want)=>match all[j]? with
    | some g=>match g.dst with
      | some d=>bif Nat.blt d az&&Nat.ble d top then ⟨o.dst,FL P o.op,some (d,want),b2 all o⟩ else bs.bad
      | none=>bs.bad
    | none=>bs.bad
 else bs.bad
def zn (P:Program) (az:Nat) (all:Array Oper):List Oper->List bs
 | []=>[]
 | o::os=>uP P az all o::zn P az all os
theorem TN (P:Program) (az:Nat) (all:Array Oper):∀l:List Oper,zn P az all l=l.map (uP P az all)
 | []=>rfl
 | o::os=>by simp [zn,TN P az all os]
def aW.isNil:aW->Bool
 | .c .ma=>true
 | _=>false
def s4 (P:Program) (az:Nat) (all:Array Oper) (o:Oper):bs:=
 match o.op,o.guard with
 | .binOp op t x y _,none=>match w4 P op t with
   | some neg=>bif !((rx x).isNil||(rx y).isNil)&&(fG az o.dst&&ji (b2 all o)) then ⟨o.dst,.Ch neg (rx x) (rx y),none,b2 all o⟩ else uP P az all o
   | none=>uP P az all o
 | .defer c,none=>match c.callee with
   | .value f=>bif o.dst.isNone&&ji (b2 all o) then ⟨some eh,.gj (rx f) (lK c.args.toList),none,eh::b2 all o⟩ else bs.bad
   | _=>bs.bad
 | _,_=>uP P az all o
def bs.J6 (o:bs):Bool:=
 match o.g with
 | .gj _ _=>false
 | _=>true
def zo (P:Program) (az:Nat) (all:Array Oper):List Oper->List bs
 | []=>[]
 | o::os=>s4 P az all o::zo P az all os
theorem bs.An {P:Program} {r:bz} {h:ah} {K:bz->V->ah->Prop}:¬bs.bad.wp P r h K:=by rintro ⟨v,aa,q,_⟩;cases q
theorem bs.zI {P:Program} {az:Nat} {all:Array Oper} {o:Oper} {r:bz} {h:ah} {K:bz->V->ah->Prop} (H:(uP P az all o).wp P r h K):
 ∃call v aa,(ht P call/\hG P call)/\fG az o.dst=true/\K (r.set o.dst v) v aa/\∀c1,eM c1=r->(cU P az all o).run call c1 h=.val v aa:=by
 unfold uP at H;cases ao:(fG az o.dst&&ji (b2 all o)) with
 | false=>rw [ao] at H;exact absurd H bs.An
 | true=>
   have aZ:fG az o.dst=true:=by simp only [amX] at ao;exact ao.1
   rw [ao] at H;simp only [am4] at H;cases al:o.guard with
   | none=>
     rw [al] at H;obtain ⟨call,v,aa,ag,av,aI⟩:=G.zI H;refine ⟨call,v,aa,ag,aZ,aI,fun c1 eo=>?_⟩;unfold cU;rw [ao];simp only [am4,al,jO];refine TM ?_;rw [zF,eo];exact av
   | some qy=>
     obtain ⟨j,want⟩:=qy;rw [al] at H;simp only at H;cases bJ:all[j]? with
     | none=>rw [bJ] at H;exact absurd H bs.An
     | some g=>
       rw [bJ] at H;simp only at H;cases lj:g.dst with
       | none=>rw [lj] at H;exact absurd H bs.An
       | some d=>
         rw [lj] at H;simp only at H;cases aj:(Nat.blt d az&&Nat.ble d top) with
         | false=>rw [aj] at H;exact absurd H bs.An
         | true=>
           rw [aj] at H;simp only [am4,bs.wp] at H;have key:cU P az all o=⟨jO (some (pk (aC d),want)) (fP P o) (b2 all o)⟩:=by unfold cU;rw [ao];simp only [am4,al,bJ,lj,aj]
           have Iv:∀c1,eM c1=r->(pk (aC d)).run (dM c1 (b2 all o))=r.trim (b2 all o) d:=by intro c1 eo;rw [<-eo,<-zF];rfl
           cases bB:r.trim (b2 all o) d<;>rw [bB] at H<;>simp only [gate] at H
           case bool b=>
            by_cases P9:b=want
            . obtain ⟨call,v,aa,ag,av,aI⟩:=G.zI (H.1 P9);refine ⟨call,v,aa,ag,aZ,aI,fun c1 eo=>?_⟩;rw [key];simp only [jO,Iv c1 eo,bB];rw [show (bif want then b else !b)=true from by subst P9;cases b<;>rfl];simp only [am4];refine TM ?_;rw [zF,eo];exact av
            . have P7:b=!want:=by cases b<;>cases want<;>simp_all
              refine ⟨mb,.tuple [],h,E5 P,aZ,H.2 P7,fun c1 eo=>?_⟩;rw [key];simp only [jO,Iv c1 eo,bB];rw [show (bif want then b else !b)=false from by subst P7;cases want<;>rfl];rfl
           case tuple ai=>
            refine ⟨mb,.tuple [],h,E5 P,aZ,H,fun c1 eo=>?_⟩;rw [key];simp only [jO,Iv c1 eo,bB]
def th (P:Program):List bs->bz->ah->(bz->ah->Prop)->Prop
 | [],r,h,K=>K r h
 | o::os,r,h,K=>o.wp P r h fun bI _ aa=>th P os bI aa K
structure gU where
 r:bz
 h:ah
 v:V
def mj (P:Program):List bs->bz->ah->(List gU->bz->ah->Prop)->Prop
 | [],r,h,K=>K [] r h
 | o::os,r,h,K=>o.wp P r h fun bI v aa=>mj P os bI aa fun es dk aA=>K (⟨r,h,v⟩::es) dk aA
def yn (es:List gU) (aA:ah) (i:Nat):ah:=
 match es[i]? with
 | some e=>e.h
 | none=>aA
def sb (P:Program) (o:Option bs) (e:Option gU) (es:List gU) (aA:ah):List Nat->Prop
 | []=>True
 | s::kh=>(match o,e with
   | some o,some e=>o.wp P e.r (yn es aA s) fun _ cI _=>cI=e.v
   | _,_=>False)/\sb P o e es aA kh
def p2 (P:Program) (ops:List bs) (es:List gU) (aA:ah):List (Nat × List Nat)->Prop
 | []=>True
 | (p,kh)::rest=>sb P ops[p]? es[p]? es aA kh/\p2 P ops es aA rest
inductive bE where
 | bad
 | skip
 | af (ops:List bs)
 | draw (ops:List bs) (asks:List (Nat × List Nat))
 | seq (a b:bE)
 | cond (c:aW) (a b:bE)
 | block (id:Nat) (b:bE)
 | loop (b:bE)
 | exit (id:Nat)
 | ret
 | range (f:aW) (bD:List Nat) (az:Nat) (a b:bE)
def xP (P:Program) (ops:List Oper) (eG aF e8:List Nat):Nat->List Oper->List (Nat × List Nat)
 | _,[]=>[]
 | i,o::os=>bif looks o.op&&!ft P o.op then
    (posOf aF i,e8.filter (sW P eG ops aF i ((eG[i]?).getD 0)))::xP P ops eG aF e8 (i+1) os
   else xP P ops eG aF e8 (i+1) os
def KE (P:Program) (az:Nat) (ops:Array Oper) (order aF:List Nat):bE:=
 bif mO ops.size order aF&&xW P ops aF then
  .draw (zn P az ops (hZ ops order)) (bif r' P ops.toList then xP P ops.toList (fi [] ops.toList) aF (ig P aF 0 ops.toList) 0 ops.toList else [])
 else .bad
def gE (P:Program) (az:Nat):Code->bE
 | .skip=>.skip
 | .label _=>.skip
 | .region _ ops draw=>bif draw then KE P az ops (Cd P ops) (Fq (Cd P ops) 0 ops.toList) else .af (zo P az ops ops.toList)
 | .seq a b=>.seq (gE P az a) (gE P az b)
 | .cond c a b=>.cond (rx c) (gE P az a) (gE P az b)
 | .block id b=>.block id (gE P az b)
 | .loop b=>.loop (gE P az b)
 | .exit id=>.exit id
 | .ret=>.ret
 | .scope b=>gE P az b
 | .rangeFunc f bD a b=>bif uK az bD.toList&&(noMark a&&noMark b) then .range (rx f) bD.toList az (gE P az a) (gE P az b) else .bad
 | _=>.bad
structure Vl (P:Program) (l:Ab) (az:Nat) (r:bz) (bD:List Nat) (Tv ai0:bE):Prop where
 aX:l.az=az
 aJ:eM l.r=r
 ak:l.bD=bD
 bF:gE P az l.assign=Tv
 aj:gE P az l.body=ai0
 nX:uK az bD=true
 amj:noMark l.assign=true
 amk:noMark l.body=true
 out:Out az r
def ei.andThen:ei->Prop->Prop->Prop
 | .normal,A,_=>A
 | _,_,B=>B
def ei.leave (id:Nat):ei->ei
 | .exit i=>if i=id then .normal else .exit i
 | e=>e
def gK (P:Program):bE->bz->ah->(ei->bz->ah->Prop)->Prop
 | .bad,_,_,_=>False
 | .skip,r,h,Q=>Q .normal r h
 | .af ops,r,h,Q=>th P ops r h (Q .normal)
 | .draw ops asks,r,h,Q=>mj P ops r h fun es dk aA=>p2 P ops es aA asks/\Q .normal dk aA
 | .seq a b,r,h,Q=>gK P a r h fun e bI aa=>e.andThen (gK P b bI aa Q) (Q e bI aa)
 | .cond c a b,r,h,Q=>match c.aV r with
   | .bool t=>(t=true->gK P a r h Q)/\(t=false->gK P b r h Q)
   | _=>False
 | .block id b,r,h,Q=>gK P b r h fun e bI aa=>Q (e.leave id) bI aa
 | .loop b,r,h,Q=>∃(I:bz->ah->Prop) (μ:bz->ah->Nat),I r h/\∀r h,I r h->gK P b r h fun e bI aa=>e.andThen (I bI aa/\μ bI aa<μ r h) (Q e bI aa)
 | .exit id,r,h,Q=>Q (.exit id) r h
 | .ret,r,h,Q=>Q .ret r h
 | .range f bD az a b,r,h,Q=>∃g cs,f.aV r=.func g cs/\g≠dv/\(∃fn,P.funcs[g]? =some fn/\fn.body.isSome=true)/\∀l,Vl P l az r bD a b->l.st=0->l.h0=none->
    b' P g (.func dv [.ptr (aC (h.next+1)) 0]::cs) ((h.new .gj).new (.gq l)) fun _ aa=>
     ∃gd,aa.get (aC (h.next+1))=.gq gd/\gd.st≠1/\Q (gd.h0.getD .normal) (r.set (some eh) (.tuple (.ptr (aC h.next) 0::(r eh).list))) (aa.set (aC (h.next+1)) .dead)
def bE.plain:bE->Bool
 | .seq a b=>a.plain&&b.plain
 | .cond _ a b=>a.plain&&b.plain
 | .block _ b=>b.plain
 | .loop b=>b.plain
 | .range _ _ _ _ _=>false
 | .af ops=>ops.all bs.J6
 | _=>true
def CH (P:Program) (az:Nat) (c:Code) (r:bz) (h:ah) (e:ei) (bI:bz) (aa:ah):Prop:=
 ∀(rd:Option Nat) (aB:Fr) E a w,(rd=none\/noMark c=true)->j0 E az r a->ba aB E h w->∀Q:Exit->Act->World->Prop,
  (∀aw bt w',E.le aw->j0 aw az bI bt->ba aB aw aa w'->Q (toExit e) bt w')->Gc rd P c Q a w
section
variable {P:Program} {az:Nat}
theorem ajd (P:Program) (az:Nat) (all:Array Oper) (o:Oper):s4 P az all o=uP P az all o\/(∃op t x y u neg,o.op=.binOp op t x y u/\o.guard=none/\w4 P op t=some neg/\fG az o.dst=true/\ji (b2 all o)=true/\s4 P az all o=⟨o.dst,.Ch neg (rx x) (rx y),none,b2 all o⟩)\/
 (∃f args types,o.op=.defer ⟨.value f,args,types⟩/\o.guard=none/\o.dst=none/\ji (b2 all o)=true/\s4 P az all o=⟨some eh,.gj (rx f) (lK args.toList),none,eh::b2 all o⟩)\/s4 P az all o=bs.bad:=by
 obtain ⟨dst,op,type,pos,after,guard⟩:=o;cases op<;>try (exact .inl rfl)
 . rename_i op t x y u;cases guard with
   | some g=>exact .inl rfl
   | none=>
     simp only [s4];cases ak:w4 P op t with
     | none=>exact .inl rfl
     | some neg=>
       simp only;cases ao:(!((rx x).isNil||(rx y).isNil)&&(fG az dst&&ji (b2 all ⟨dst,.binOp op t x y u,type,pos,after,none⟩))) with
       | false=>exact .inl rfl
       | true=>
         simp only [amX] at ao;exact .inr (.inl ⟨op,t,x,y,u,neg,by first | rfl | trivial,by first | rfl | trivial,ak,by first | exact ao.2.1 | trivial,by first | exact ao.2.2 | trivial,by first | rfl | trivial⟩)
 . rename_i c;cases guard with
   | some g=>exact .inl rfl
   | none=>
     obtain ⟨callee,args,types⟩:=c;cases callee with
     | value f=>
       simp only [s4];cases ao:(dst.isNone&&ji (b2 all ⟨dst,.defer ⟨.value f,args,types⟩,type,pos,after,none⟩)) with
       | false=>exact .inr (.inr (.inr rfl))
       | true=>
         simp only [amX,Option.isNone_iff_eq_none] at ao;exact .inr (.inr (.inl ⟨f,args,types,by first | rfl | trivial,by first | rfl | trivial,by first | exact ao.1 | trivial,by first | exact ao.2 | trivial,by first | rfl | trivial⟩))
     | _=>exact .inr (.inr (.inr rfl))
theorem bs.ak6 (aK:e6 P) {all:Array Oper} {o:Oper} {i:Nat} (au:all[i]? =some o) {r:bz} {h:ah} {K:bz->V->ah->Prop} (a8:Out az r) (H:(s4 P az all o).wp P r h K):
 ∃bI v aa,K bI v aa/\Out az bI/\((s4 P az all o).J6=true->bI eh=r eh)/\∀(rd:Option Nat) (aB:Fr) E a w,(rd=none\/B4 o=true)->j0 E az r a->ba aB E h w->∀(Q:Exit->Act->World->Prop) (C:Act->World->Prop),
  (∀aw bt w',E.le aw->j0 aw az bI bt->ba aB aw aa w'->C bt w')->wpOpIn (cb rd) 0 P all Q i C a w:=by
 obtain ⟨c1,eo⟩:=x4 a8;rcases ajd P az all o with e | ⟨op,t,x,y,u,neg,an,aN,cv,hh,ko,DE⟩ | ⟨f,args,types,an,aN,hh,ko,DE⟩ | e
 . rw [e] at H;obtain ⟨call,v,J,ao,aZ,H1,df⟩:=bs.zI H;refine ⟨_,v,J,H1,a8.set aZ v,fun _=>FX aZ v,fun rd aB E a w _ k s Q C AU=>?_⟩;refine q7 aK ao.1 ao.2 au (df c1 eo) k.size (fun t aE=>?_) s fun aw x w' ag av aI=>AU aw _ w' ag (k.put ag aZ av) aI;have:=congrFun eo t;simp only [eM] at this;rw [this];exact k.af t (pF (anx (anr.1 (k9 (df c1 eo)).2 t aE)))
 . rw [DE] at H;simp only [bs.wp,G.wp,G.run] at H;obtain ⟨v,aa,bB,dU⟩:=H;unfold Ks at bB;cases aq:me h ((rx x).aV (r.trim (b2 all o))) ((rx y).aV (r.trim (b2 all o))) with
   | none=>rw [aq] at bB;cases bB
   | some b=>
     rw [aq] at bB;simp only [a7.of,a7.val.injEq] at bB;obtain ⟨rfl,rfl⟩:=bB;refine ⟨_,_,h,dU,a8.set hh _,fun _=>FX hh _,fun rd aB E a w _ k s Q C AU=>?_⟩
     have cz:RegRel0 E az (dM c1 (b2 all o)) a:=⟨k.size,fun t aE=>by
      rw [F7 ko aE];by_cases hm:t ∈ b2 all o
      . rw [anb hm];have:=congrFun eo t;simp only [eM] at this;rw [this];exact k.af t (pF aE)
      . rw [am7 hm];simp [Rel]⟩
     have ex:∀z:Operand,(bZ z).run (dM c1 (b2 all o))=(rx z).aV (r.trim (b2 all o)):=fun z=>by rw [fl,zF,eo]
     rw [<-ex,<-ex] at aq;obtain ⟨dst,ah',type,pos,after,guard⟩:=o;subst an aN;obtain ⟨Z,cQ,cV⟩:=Tk (P:=P) (jS:=x) (jT:=y) s cv aq (d' cz x) (d' cz y);simp only [wpOpIn,au,Region.wanted,anz];exact gR rfl (dH.plain s cQ cV) fun aw v w' ag av aI=>AU aw _ w' ag (k.put ag hh av) aI
 . rw [DE] at H;simp only [bs.wp,G.wp,G.run] at H;obtain ⟨v,aa,bB,dU⟩:=H;have kx:∀t ∈ b2 all o,t≠eh:=fun t aE=>pF (anx (anr.1 ko t aE));have QX:∀z:Operand,(rx z).aV (r.trim (eh::b2 all o))=(bZ z).run (dM c1 (b2 all o)):=fun z=>by
    rw [fl,zF,eo];cases z with
    | tmp t=>
      simp only [rx];cases aj:Nat.ble t top with
      | false=>rfl
      | true=>
        simp only [am4,aW.aV,bz.trim];rw [am7 (pF (anx aj))]
    | const v=>rfl
    | func f=>simp only [rx];cases Nat.beq f dv<;>rfl
    | global g=>rfl
   have acV:∀l:List Operand,aW.fv (r.trim (eh::b2 all o)) (lK l)=(p_ l).run (dM c1 (b2 all o)):=fun l=>by
    induction l with
    | nil=>rfl
    | cons z l bA=>simp only [lK,aW.fv,QX,bA];rfl
   have Ep:r.trim (eh::b2 all o) eh=r eh:=by simp [bz.trim]
   rw [QX,acV,Ep] at bB;cases ri:(bZ f).run (dM c1 (b2 all o))<;>rw [ri] at bB<;>simp only at bB<;>try (cases bB;done)
   rename_i g cs;cases bc:Nat.beq g dv with
   | true=>rw [bc] at bB;cases bB
   | false=>
     rw [bc] at bB;simp only [anf,a7.val.injEq] at bB;obtain ⟨rfl,rfl⟩:=bB;have sv:g≠dv:=fun e=>by rw [e] at bc;exact absurd bc (by decide)
     refine ⟨_,_,h,dU,fun t J ad=>by simp only [bz.set];rw [am7 ad];exact a8 t J ad,fun z=>by (rw [DE] at z;cases z),fun rd aB E a w aJ k s Q C AU=>?_⟩;obtain ⟨dst,ah',type,pos,after,guard⟩:=o;subst an aN hh;rcases aJ with rfl | aJ
     case inr=>cases aJ
     have cz:RegRel0 E az (dM c1 (b2 all ⟨none,.defer ⟨.value f,args,types⟩,type,pos,after,none⟩)) a:=⟨k.size,fun t aE=>by
      rw [F7 ko aE];by_cases hm:t ∈ b2 all ⟨none,.defer ⟨.value f,args,types⟩,type,pos,after,none⟩
      . rw [anb hm];have:=congrFun eo t;simp only [eM] at this;rw [this];exact k.af t (pF aE)
      . rw [am7 hm];simp [Rel]⟩
     have aA:=d' cz f;rw [ri] at aA;simp only [Rel] at aA;rcases aA with ⟨_,e',dL,ax⟩ | ⟨al,_⟩
     case inr=>exact absurd al sv
     simp only [wpOpIn,au,Region.wanted,anz];refine ⟨fun _ _=>trivial,?_⟩;have hex:((Oper.mk none (.defer ⟨.value f,args,types⟩) type pos after none).semAt (cb none).round a.eval).run P w=.ok (.defer {target:=.fn (.func g) e',args:=#[]++args.map a.eval}) w:=by simp only [Oper.semAt_none,execOp,resolve,dL,Deferred.ofValue,pure_bind];rfl
     rw [hex];refine AU E _ w (Env.le.refl E) ?_ s;refine ⟨by simpa [Act.put] using k.size,?_,fun t aE=>?_⟩
     . simp only [bz.set,anz,lO,mm];refine ⟨_,_,rfl,⟨sv,e',rfl,?_⟩,k.defers.list⟩;have:=(qa cz args.toList).append ax;simpa using this
     . simp only [bz.set];rw [am7 aE];exact k.af t aE
 . rw [e] at H;exact absurd H bs.An
theorem UX (aK:e6 P) {all:Array Oper}:∀(l:List Oper) (i:Nat),(∀j,l[j]? =all[i+j]?)->∀(r:bz) (h:ah) (K:bz->ah->Prop),Out az r->th P (zo P az all l) r h K->
 ∃bI aa,K bI aa/\(Out az bI/\((zo P az all l).all bs.J6=true->bI eh=r eh))/\∀(rd:Option Nat) (aB:Fr) E a w,(rd=none\/∀o ∈ l,B4 o=true)->j0 E az r a->ba aB E h w->∀Q:Exit->Act->World->Prop,
  (∀aw bt w',E.le aw->j0 aw az bI bt->ba aB aw aa w'->Q .normal bt w')->wpOpsIn (cb rd) 0 P all Q (List.range' i l.length) a w
 | [],i,_,r,h,K,a8,H=>by refine ⟨r,h,H,⟨a8,fun _=>rfl⟩,fun rd aB E a w _ k s Q dV=>?_⟩;simp only [am8,List.range'_zero,wpOpsIn];exact dV E a w (Env.le.refl E) k s
 | o::os,i,ax,r,h,K,a8,H=>by
   have au:all[i]? =some o:=by have:=ax 0;simpa using this.symm
   simp only [zo,th] at H;obtain ⟨bT,v,J,H1,n5,wx,df⟩:=bs.ak6 aK au a8 H;obtain ⟨di,ad,ag,av,aI⟩:=UX aK os (i+1) (fun j=>by have:=ax (j+1);simp only [anS] at this;rw [this];congr 1;omega) _ J K n5 H1;refine ⟨di,ad,ag,⟨av.1,fun z=>by simp only [zo,anX,amX] at z;exact (av.2 z.2).trans (wx z.1)⟩,fun rd aB E a w aJ k s Q dV=>?_⟩;rw [am0,List.range'_succ,wpOpsIn_cons];refine df rd aB E a w (aJ.imp id fun z=>z o anV) k s _ _ fun aw bt w' cf cd eU=>?_;exact aI rd aB aw bt w' (aJ.imp id fun z cn ia=>z cn (anJ _ ia)) cd eU Q fun aH a2 b1 c9 z2 z3=>dV aH a2 b1 (cf.trans c9) z2 z3
def toF (e:fr):gU:=⟨eM e.r,e.h,e.v⟩
theorem abI (es:List fr) (aA:ah) (i:Nat):yn (es.map toF) aA i=cr es aA i:=by unfold yn cr;rw [anQ];cases es[i]? <;>rfl
theorem UW {all:Array Oper}:∀(l:List Oper) (nO:bN) (h:ah) (K:List gU->bz->ah->Prop),mj P (zn P az all l) (eM nO) h K->Out az (eM nO)->
 ∃es pa aA,K (es.map toF) (eM pa) aA/\(Out az (eM pa)/\eM pa eh=eM nO eh)/\es.length=l.length/\cr es aA 0=h/\e2 es pa 0=nO/\
  ∀j o,l[j]? =some o->∃e call,es[j]? =some e/\(ht P call/\hG P call)/\(cU P az all o).run call e.r e.h=.val e.v (cr es aA (j+1))/\e2 es pa (j+1)=(gh o.dst).run e.r e.v
 | [],nO,h,K,H,a8=>⟨[],nO,h,H,⟨a8,rfl⟩,rfl,rfl,rfl,fun j o bJ=>by simp at bJ⟩
 | o::os,nO,h,K,H,a8=>by
   simp only [zn,mj] at H;obtain ⟨call,v,J,ao,aZ,H1,df⟩:=bs.zI H;rw [<-Kt] at H1;obtain ⟨es,pa,aA,ag,av,aI,bU,c8,eH⟩:=UW os _ J _ H1 (by rw [Kt];exact a8.set aZ v);refine ⟨⟨nO,h,v⟩::es,pa,aA,ag,⟨av.1,av.2.trans (by rw [Kt];exact FX aZ v)⟩,by simp [aI],by simp [cr],by simp [e2],fun j cn bJ=>?_⟩;cases j with
   | zero=>
     simp only [anj,amW] at bJ;subst bJ;exact ⟨⟨nO,h,v⟩,call,rfl,ao,by rw [ym,bU];exact df nO rfl,by rw [zl,c8]⟩
   | succ j=>
     obtain ⟨e,c,cf,cd,eU,kf⟩:=eH j cn (by simpa using bJ);exact ⟨e,c,by simpa using cf,cd,by rw [ym];exact eU,by rw [zl];exact kf⟩
theorem LW {o:Option bs} {e:Option gU} {es:List gU} {aA:ah}:∀{kh:List Nat},sb P o e es aA kh->∀s ∈ kh,∃cn dI,o=some cn/\e=some dI/\cn.wp P dI.r (yn es aA s) fun _ cI _=>cI=dI.v
 | [],_,s,h=>by simp at h
 | h3::kh,H,s,hm=>by
   simp only [sb] at H;simp only [ans] at hm;rcases hm with rfl | hm
   . cases o with
     | none=>exact H.1.elim
     | some o=>
       cases e with
       | none=>exact H.1.elim
       | some e=>exact ⟨o,e,rfl,rfl,H.1⟩
   . exact LW H.2 s hm
theorem LZ {ops:List Oper} {eG aF e8:List Nat} {gs:List bs} {es:List gU} {aA:ah}:∀{l:List Oper} {i:Nat},p2 P gs es aA (xP P ops eG aF e8 i l)->∀j o,l[j]? =some o->looks o.op=true->ft P o.op=false->
 sb P gs[posOf aF (i+j)]? es[posOf aF (i+j)]? es aA (e8.filter (sW P eG ops aF (i+j) ((eG[i+j]?).getD 0)))
 | [],i,_,j,o,h,_,_=>by simp at h
 | cn::os,i,H,j,o,h,J,ad=>by
   simp only [xP] at H;cases j with
   | zero=>
     simp only [anj,amW] at h;subst h;rw [J,ad] at H;simp only [Bool.not_false,anY,am4,p2] at H;exact H.1
   | succ j=>
     have k2:p2 P gs es aA (xP P ops eG aF e8 (i+1) os):=by
      cases ao:(looks cn.op&&!ft P cn.op) with
      | true=>rw [ao] at H;simp only [am4,p2] at H;exact H.2
      | false=>rw [ao] at H;exact H
     have:=LZ k2 j o (by simpa using h) J ad;rw [show i+1+j=i + (j+1) from by omega] at this;exact this
theorem ZH (gz:az<=top) (dE:P.follows .mixedOrders=true) (aK:e6 P) {id:Nat} {ops:Array Oper} {order aF:List Nat} {r:bz} {h:ah} {Q:ei->bz->ah->Prop} (a8:Out az r)
 (H:gK P (KE P az ops order aF) r h Q):∃bI aa,Q .normal bI aa/\(Out az bI/\bI eh=r eh)/\CH P az (.region id ops true) r h .normal bI aa:=by
 unfold KE at H;cases aA:(mO ops.size order aF&&xW P ops aF) with
 | false=>rw [aA] at H;exact H.elim
 | true=>
   rw [aA] at H;simp only [am4,gK] at H;simp only [amX] at aA;obtain ⟨ib,hW⟩:=aA;unfold mO at ib;simp only [amX,anA] at ib;obtain ⟨n5,yx,Be,Bf⟩:=ib;have iQ:∀k,k<ops.size->posOf aF k<ops.size/\order[posOf aF k]? =some k:=by
    intro k ay;have al:aF[k]? =some (posOf aF k):=by unfold posOf;rw [amY (by omega)];rfl
    have:=uJ Be al;rw [anB] at this;exact ⟨by have:=(anl.1 this).1;omega,this⟩
   have mc:∀p,p<ops.size->∃i,i<ops.size/\posOf aF i=p:=by intro p ak;have al:order[p]? =some (order[p]'(by omega)):=amY (by omega);have:=uJ Bf al;rw [anB] at this;refine ⟨order[p]'(by omega),by have:=(anl.1 this).1;omega,?_⟩;unfold posOf;rw [this];rfl
   obtain ⟨nO,D8⟩:=x4 a8;rw [<-D8] at H a8;obtain ⟨es,pa,bo,⟨AW,dV⟩,⟨kt,QS⟩,ag,av,aI,bU⟩:=UW _ nO h _ H a8;refine ⟨_,bo,dV,⟨kt,by rw [<-D8];exact QS⟩,fun rd aB E a w aJ k s iX Ia=>?_⟩;have step:∀i:Nat,∃call,(ht P call/\hG P call)/\∀o,ops[i]? =some o->∃e,es[posOf aF i]? =some e/\(cU P az ops o).run call e.r e.h=.val e.v (cr es bo (posOf aF i+1))/\e2 es pa (posOf aF i+1)=(gh o.dst).run e.r e.v:=by
    intro i;cases au:ops[i]? with
    | none=>exact ⟨mb,E5 P,fun o h=>by cases h⟩
    | some o=>
      obtain ⟨e,call,cf,cd,eU,kf⟩:=bU _ o (ou (iQ i (am1.1 au).1).2 au);exact ⟨call,cd,fun cn ia=>by cases ia;exact ⟨e,cf,eU,kf⟩⟩
   obtain ⟨calls,yi⟩:=Classical.axiomOfChoice step;have tN:∀j o,ops[j]? =some o->looks o.op=true->ft P o.op=false->∃e,es[posOf aF j]? =some e/\∀s ∈ ig P aF 0 ops.toList,
    sW P (fi [] ops.toList) ops.toList aF j (((fi [] ops.toList)[j]?).getD 0) s=true->∃c aa,(ht P c/\hG P c)/\(cU P az ops o).run c e.r (cr es bo s)=.val e.v aa:=by
    intro j o rm eE abN;have bJ:=(am1.1 rm).1;obtain ⟨e,cf,cd,eU⟩:=(yi j).2 o rm;refine ⟨e,cf,fun s aM hm=>?_⟩;cases ax:r' P ops.toList with
    | true=>
      rw [ax] at AW;simp only [am4] at AW;have:=LZ AW j o (by simpa using rm) eE abN;rw [anB] at this;obtain ⟨cn,dI,c9,z2,z3⟩:=LW this s (List.mem_filter.2 ⟨aM,hm⟩);rw [TN,anQ,ou (iQ j bJ).2 rm] at c9;simp only [aot,amW] at c9;rw [anQ,cf] at z2;simp only [aot,amW] at z2;subst c9;subst z2;rw [abI] at z3;obtain ⟨c,v,aa,fe,_,y3,y4⟩:=bs.zI z3;have U0:=y4 e.r rfl;rw [show v=e.v from y3] at U0;exact ⟨c,aa,fe,U0⟩
    | false=>
      have none:∀(l:List Oper),r' P l=false->∀(j:Nat) (o:Oper),l[j]? =some o->ft P o.op=false:=by
       intro l
       induction l with
       | nil=>intro _ j o h;simp at h
       | cons x l bA=>
         intro h j o a8;simp only [r',aoY] at h;cases j with
         | zero=>simp only [anj,amW] at a8;subst a8;exact h.1
         | succ j=>exact bA h.2 j o (by simpa using a8)
      have j':s=ops.size:=by
       rcases uu aM with h | ⟨EB,cn,J,ad,aD⟩
       . simpa using h
       . have:=none _ ax EB cn J;unfold eR at ad;rw [this] at ad;cases ad
      have flat:∀d,d<=ops.size->cr es bo d=cr es bo 0:=by
       intro d
       induction d with
       | zero=>intro _;rfl
       | succ d bA=>
         intro aZ;obtain ⟨i,da,gM⟩:=mc d (by omega);have cP:ops[i]? =some ops[i]:=ani da;obtain ⟨ZJ,b4,b1,_⟩:=(yi i).2 ops[i] cP;rw [gM] at b4 b1;have ez:ft P ops[i].op=false:=none _ ax i _ (by simp);rw [(vx ez b1).1,<-bA (by omega)];simp [cr,b4]
      have al9:=(iQ j bJ).1;have:e.h=cr es bo s:=by rw [j',flat ops.size (am6 _),<-flat (posOf aF j) (by omega)];simp [cr,cf]
      rw [<-this];exact ⟨_,_,(yi j).1,cd⟩
   have hlen:es.length=ops.size:=by rw [ag,qD,n5]
   have C:Cert P az ops calls es nO h pa bo (ig P aF 0 ops.toList) order aF ops.size ops.size false:=
    ⟨hlen,am6 _,am6 _,iQ,mc,av,aI,fun i o cP _=>(yi i).2 o cP,
      fun i o cP=>by
       obtain ⟨c7,c9,z2,z3⟩:=O4 hW i o cP
       exact ⟨c7,c9,z2,fun _ k ok ay _=>by
        obtain ⟨mk,fe,fu,y3⟩:=z3 k ok ay
        exact ⟨mk,fe,fu,fun an aN cv=>.inl (y3 an aN cv)⟩⟩,
      by simpa using EO (P:=P) (aF:=aF) (l:=ops.toList) (i:=0),
      fun j o J ad=>by simpa using y0 (aF:=aF) (i:=0) (j:=j) (l:=ops.toList) (by simpa using J) ad,
      fun s aM=>by
       rcases uu aM with h | ⟨j,o,J,ad,aD⟩
       . exact .inl (.inl (by simpa using h))
       . exact .inr ⟨j,o,by simpa using J,ad,by simpa using aD⟩,
      fun j o J ad aD _=>tN j o J ad aD,fun h=>absurd h (aoj _),fun h=>absurd h (aoj _)⟩
   have ay:RegRel0 E az nO a:=⟨k.size,fun t aE=>by have:=congrFun D8 t;simp only [eM] at this;rw [this];exact k.af t (pF aE)⟩;have d_:∀k,¬(Array.replicate ops.size false).getD k false=true:=by
    intro k;rw [tI,Array.getElem?_replicate]
    split<;>simp
   have kS:Holds aB aB es bo aF (kJ ops es bo aF (Array.replicate ops.size false) 0):=
    ⟨rfl,fun _ _=>rfl,fun k ay=>(by obtain ⟨_,_,_,_,a1⟩:=ay;omega),fun k bx ay=>(by obtain ⟨_,_,_,_,a1⟩:=ay;omega)⟩
   obtain ⟨h3,dn,g1,g2,g3,g4,g5,g6⟩:=C.advance ops.size 0 (by omega) (fun k o _ _ _=>d_ k) aB kS (E:=E) (w:={w with drawn:=w.drawn}) (by rw [av];exact s.same rfl rfl rfl rfl);have Ep:eM pa eh=r eh:=by rw [<-D8];exact QS
   have fin:∀aw bt w',E.le aw->RegRel0 aw az pa bt->bt.defers=a.defers->ba aB aw bo w'->iX .normal bt w':=by
    intro aw bt w' c9 z2 jJ z3;refine Ia aw bt w' c9 ⟨z2.size,by rw [Ep,jJ];exact k.defers.mono c9,fun t fW=>?_⟩ z3;by_cases aE:t<=top
    . exact z2.af t aE
    . have cy:=z2.size;rw [kt t (by omega) fW];simp [Rel]
   refine UT dE (O6 aK (fun i=>(yi i).1.1) (fun i=>(yi i).1.2) C (iC:=E) (D:=a.defers) (fun _=>fin)
    (fun _ _ _ _ _ _ _ h=>absurd h (aoj _)) (fun h=>absurd h (aoj _)) ops.size _ a _ ?_ ?_)
   . exact anM aoU (by simp)
   . refine ⟨by simp,ay.size,rfl,fun bx ay=>absurd ay (d_ bx),fun bx o e ay=>absurd ay (d_ bx),E,h3,dn,Env.le.refl E,g1,g3,fun bx o J ad=>⟨fun h=>absurd h (d_ bx),fun h=>by have:=g4 bx o J ad (aoL _);omega⟩,
      fun bx o _ _ h=>absurd h (d_ bx),g5,?_,fun t aE=>.inr ⟨fun bx o ay=>absurd ay (d_ bx),ay.af t aE⟩⟩
     exact g6.same rfl rfl rfl rfl
theorem Z3 {rd:Option Nat} {e:ei} {Q:Exit->Act->World->Prop} {a:Act} {w:World} (h:Q (toExit e) a w):(HI e).wpIn (cb rd) 0 P Q a w:=by
 cases e with
 | normal=>exact wpIn_skip h
 | exit id=>exact wpIn_exit h
 | ret=>exact wpIn_ret h
theorem aiY (gz:az<=top) (dE:P.follows .mixedOrders=true) (aK:e6 P) {f:Operand} {bD:Array Tmp} {x y:Code} {r:bz} {h:ah} {Q:ei->bz->ah->Prop} (a8:Out az r)
 (H:gK P (gE P az (.rangeFunc f bD x y)) r h Q):∃e bI aa,Q e bI aa/\(Out az bI/\((gE P az (.rangeFunc f bD x y)).plain=true->bI eh=r eh))/\CH P az (.rangeFunc f bD x y) r h e bI aa:=by
 simp only [gE] at H ⊢;cases hW:(uK az bD.toList&&(noMark x&&noMark y)) with
 | false=>rw [hW] at H;exact H.elim
 | true=>
   rw [hW] at H;simp only [am4,gK] at H ⊢;simp only [amX] at hW;obtain ⟨g,cs,bB,al,ss,H⟩:=H;obtain ⟨c1,eo⟩:=x4 a8;obtain ⟨v,aa,c',gd,an,aN,dV⟩:=H ⟨0,none,aC h.next,az,c1,bD.toList,x,y⟩ ⟨rfl,eo,rfl,rfl,rfl,hW.1,hW.2.1,hW.2.2,a8⟩ rfl rfl;refine ⟨_,_,_,dV,⟨fun t J ad=>by simp only [bz.set];rw [am7 ad];exact a8 t J ad,fun z=>by cases z⟩,fun rd aB E a w aJ k s iX Ia=>?_⟩;have acI:rd=none:=aJ.resolve_right (by simp [noMark]);subst acI;have aA:Rel E (.func g cs) (a.eval f):=by
    rw [<-bB];cases f with
    | tmp t=>
      simp only [rx];cases aj:Nat.ble t top with
      | false=>simp [aW.aV,Rel]
      | true=>
        simp only [am4,aW.aV];exact k.af t (pF (anx aj))
    | const v=>exact uE E v
    | func f=>
      simp only [rx];cases aj:Nat.beq f dv with
      | true=>simp [aW.aV,Rel]
      | false=>
        simp only [anf,aW.aV,Rel];exact .inl ⟨fun e=>by subst e;simp at aj,_,rfl,by simp [bm]⟩
    | global g=>simp [rx,aW.aV,Rel]
   simp only [Rel] at aA;rcases aA with ⟨_,e',dL,ax⟩ | ⟨IA,_⟩
   case inr=>exact absurd IA al
   refine (wpIn_rangeFunc fun fn _=>?_:(Code.rangeFunc f bD x y).wpIn (cb none) 0 P iX a w);have f0:=s.fresh h.next (am6 _)
   obtain ⟨aY,vM⟩:∃aY,aY=E.put (aC h.next) ⟨w.heap.size,0,0⟩:=⟨_,rfl⟩;obtain ⟨b4,qw⟩:∃b4:World,b4={w with heap:=w.heap.push (.deferred (some []))}:=⟨_,rfl⟩;have Bj:aY (aC h.next)=some ⟨w.heap.size,0,0⟩:=by rw [vM];unfold Env.put;rw [anb rfl]
   have s1:ba aB aY (h.new .gj) b4:=by rw [vM,qw];refine s.alloc 0 ⟨⟨w.heap.size,0,0⟩,by unfold Env.put;rw [anb rfl],s.frame.size,by simp⟩
   have pz:E.le aY:=by rw [vM];exact Env.nB f0
   have wy:b4.heap.size=w.heap.size+1:=by rw [qw];simp
   obtain ⟨o,ia⟩:∃o:Loop,o={state:=.ready,pending:=none,fn,tmps:=a.tmps,params:=bD,assign:=x,body:=y,defers:=w.heap.size}:=⟨_,rfl⟩;obtain ⟨aH,sn⟩:∃aH,aH=aY.put (aC (h.next+1)) ⟨b4.heap.size,0,0⟩:=⟨_,rfl⟩;obtain ⟨b1,tY⟩:∃b1:World,b1={b4 with heap:=b4.heap.push (.loop o)}:=⟨_,rfl⟩;have f1:aY (aC (h.next+1))=none:=s1.fresh (h.next+1) (am6 _);have mI:aY.le aH:=by rw [sn];exact Env.nB f1
   have Bk:aH (aC (h.next+1))=some ⟨b4.heap.size,0,0⟩:=by rw [sn];unfold Env.put;rw [anb rfl]
   have gq:vi aH ⟨0,none,aC h.next,az,c1,bD.toList,x,y⟩ o:=by subst ia;refine ⟨rfl,rfl,rfl,rfl,rfl,k.size,fun t aE=>?_,_,mI _ _ Bj,rfl⟩;have:=congrFun eo t;simp only [eM] at this;simp only [this];exact Rel.mono (pz.trans mI) _ _ (k.af t (pF aE))
   have s2:ba aB aH ((h.new .gj).new (.gq ⟨0,none,aC h.next,az,c1,bD.toList,x,y⟩)) b1:=by rw [sn,tY];refine s1.alloc 0 ⟨⟨b4.heap.size,0,0⟩,o,by show aY.put (aC (h.next+1)) _ (aC (h.next+1))=_;unfold Env.put;rw [anb rfl],by show aB.w.heap.size<=b4.heap.size;rw [wy];have:=s.frame.size;omega,by simp,?_⟩;have:=gq;rw [sn] at this;exact this
   obtain ⟨ix,qm⟩:∃ix,ix=b4.heap.size:=⟨_,rfl⟩;have bc:Rel aH (.func dv [.ptr (aC (h.next+1)) 0]) (.func (.yield ix) #[] #[]):=by simp only [Rel];exact .inr ⟨trivial,_,_,rfl,Bk,by rw [qm]⟩
   have qd:bm aH (.func dv [.ptr (aC (h.next+1)) 0]::cs) (.func (.yield ix) #[] #[]::e'.toList):=by simp only [bm];exact ⟨_,_,rfl,bc,bm.mono (pz.trans mI) _ _ ax⟩
   have ao:Calls P g (Value.func (Fn.yield ix) #[] #[]::e'.toList).toArray b1 (rangePost (cb none) 0 P ix iX {a with defers:=[{target:=.collected w.heap.size,args:=#[]}]++a.defers}):=(c'.calls aK ss aB aH b1 _ qd s2).mono fun e w' aq=>by
    obtain ⟨aw,amR,rfl,ag,_,aI⟩:=aq;simp only [rangePost];have kv:=ag _ _ Bk;have aj:=aI.at kv;rw [an] at aj;obtain ⟨p',cn,hN,dr,bo,IK⟩:=aj;rw [kv] at hN;cases hN;obtain ⟨t1,t2,t3,t4,t5,t6,t7,t8⟩:=IK;simp only at bo;rw [<-qm] at bo;have IS:(cn.state == LoopState.busy)=false:=by
     rw [t1]
     match l0:gd.st with
     | 0=>rfl
     | 1=>exact absurd l0 aN
     | n+2=>rfl
    have l3:=(am1.1 bo).1
    let jZ:World:={w' with heap:=w'.heap.setIfInBounds ix (.loop {cn with state:=.exhausted})}
    have gy:(Instr.endLoop ix).run P w'=.ok cn.pending jZ:=by
     have qv:(setObj ix (.loop {cn with state:=.exhausted})).run P w'=.ok () jZ:=by simp only [setObj,Sem.run,bo];rfl
     simp only [Instr.endLoop,Sem.run_bind,run_getLoop bo,Result.andThen_ok,IS,anm,anw,qv,Sem.run_pure]
    have zu:ba aB aw (aa.set (aC (h.next+1)) .dead) jZ:=by refine aI.gone (p:=⟨b4.heap.size,0,0⟩) (by rw [an];rfl) kv dr (by simp [jZ]) (fun j bJ=>?_) rfl rfl rfl;simp only at bJ;simp only [jZ,ank];rw [am7 (fun e=>bJ (by rw [<-e,qm]))]
    have e7:j0 aw az (r.set (some eh) (.tuple (.ptr (aC h.next) 0::(r eh).list))) {a with defers:=[{target:=.collected w.heap.size,args:=#[]}]++a.defers}:=by
     refine ⟨k.size,?_,fun t aE=>?_⟩
     . simp only [bz.set,anz,lO,mm,ang,anh];exact ⟨_,_,rfl,⟨_,ag _ _ (mI _ _ Bj),rfl⟩,(k.defers.mono (pz.trans (mI.trans ag))).list⟩
     . simp only [bz.set];rw [am7 aE];exact Rel.mono (pz.trans (mI.trans ag)) _ _ (k.af t aE)
    refine ⟨cn.pending,jZ,gy,?_⟩;rw [t2];have fin:=Ia aw _ jZ (pz.trans (mI.trans ag)) e7 zu;cases lp:gd.h0 with
    | none=>rw [lp] at fin;exact fin
    | some e=>rw [lp] at fin;exact Z3 fin
   obtain ⟨alV,Qh,ss⟩:=ss;refine ⟨ix,[{target:=.collected w.heap.size,args:=#[]}],b1,{target:=.fn (.func g) e',args:=#[]++#[.func (.yield ix) #[] #[]]},b1,g,_,b1,?_,?_,fun _ _=>trivial,?_,fun h=>by simp at h,si.2 ao⟩
   . subst ia tY qw;have he:=run_enterLoop_outer (P:=P) (w:=w) fn a.tmps bD x y;rw [World.alloc,World.alloc] at he;simp only [Array.size_push] at qm ⊢;rw [qm];exact he
   . simp only [resolve,dL,Deferred.ofValue,Sem.run_pure];simp [Act.eval]
   . simp only [invoke];have e:(#[]++#[Value.func (.yield ix) #[] #[]]:Array Value)++e'=(Value.func (.yield ix) #[] #[]::e'.toList).toArray:=by apply aoH;simp
     rw [e];exact s7 aK Qh ss _ b1
theorem K' (gz:az<=top) (dE:P.follows .mixedOrders=true) (aK:e6 P):∀(c:Code) (r:bz) (h:ah) (Q:ei->bz->ah->Prop),Out az r->gK P (gE P az c) r h Q->
 ∃e bI aa,Q e bI aa/\(Out az bI/\((gE P az c).plain=true->bI eh=r eh))/\CH P az c r h e bI aa:=by
 intro c
 induction c with
 | skip=>
   intro r h Q a8 H;exact ⟨.normal,r,h,H,⟨a8,fun _=>rfl⟩,fun rd aB E a w aJ k s iX dV=>wpIn_skip (dV E a w (Env.le.refl E) k s)⟩
 | label l=>
   intro r h Q a8 H;exact ⟨.normal,r,h,H,⟨a8,fun _=>rfl⟩,fun rd aB E a w aJ k s iX dV=>wpIn_label (dV E a w (Env.le.refl E) k s)⟩
 | exit id=>
   intro r h Q a8 H;exact ⟨.exit id,r,h,H,⟨a8,fun _=>rfl⟩,fun rd aB E a w aJ k s iX dV=>wpIn_exit (dV E a w (Env.le.refl E) k s)⟩
 | ret=>
   intro r h Q a8 H;exact ⟨.ret,r,h,H,⟨a8,fun _=>rfl⟩,fun rd aB E a w aJ k s iX dV=>wpIn_ret (dV E a w (Env.le.refl E) k s)⟩
 | region id ops draw=>
   intro r h Q a8 H;cases draw with
   | true=>
     simp only [gE,am4] at H;obtain ⟨bI,aa,ag,av,aI⟩:=ZH gz dE aK (id:=id) a8 H;exact ⟨.normal,bI,aa,ag,⟨av.1,fun _=>av.2⟩,aI⟩
   | false=>
     simp only [gE,anf,gK] at H;obtain ⟨bI,aa,ag,av,aI⟩:=UX aK ops.toList 0 (fun j=>by simp) r h _ a8 H;refine ⟨.normal,bI,aa,ag,⟨av.1,fun z=>av.2 (by simpa only [gE,anf,bE.plain] using z)⟩,fun rd aB E a w aJ k s iX dV=>?_⟩;refine wpIn_region ?_;have:=aI rd aB E a w (aJ.imp (fun y=>y) fun z=>by simpa only [noMark,anr] using z) k s iX dV;rw [List.range_eq_range'];simpa using this
 | seq x y wC wD=>
   intro r h Q a8 H;simp only [gE,gK] at H;obtain ⟨e,bT,J,ag,av,aI⟩:=wC r h _ a8 H;cases e with
   | normal=>
     obtain ⟨e,di,ad,cf,cd,eU⟩:=wD bT J Q av.1 ag;refine ⟨e,di,ad,cf,⟨cd.1,fun z=>by simp only [gE,bE.plain,amX] at z;exact (cd.2 z.2).trans (av.2 z.1)⟩,fun rd aB E a w aJ k s iX dV=>?_⟩;refine wpIn_seq (aI rd aB E a w (aJ.imp (fun h=>h) fun h=>by simp only [noMark,amX] at h;exact h.1) k s _ fun aw bt w' c9 z2 z3=>?_).wp;exact (eU rd aB aw bt w' (aJ.imp (fun h=>h) fun h=>by simp only [noMark,amX] at h;exact h.2) z2 z3 iX fun aH a2 b1 fe fu y3=>dV aH a2 b1 (c9.trans fe) fu y3).wp
   | exit i=>
     refine ⟨.exit i,bT,J,ag,⟨av.1,fun z=>by simp only [gE,bE.plain,amX] at z;exact av.2 z.1⟩,fun rd aB E a w aJ k s iX dV=>?_⟩;refine wpIn_seq (aI rd aB E a w (aJ.imp (fun h=>h) fun h=>by simp only [noMark,amX] at h;exact h.1) k s _ fun aw bt w' c9 z2 z3=>?_).wp;exact dV aw bt w' c9 z2 z3
   | ret=>
     refine ⟨.ret,bT,J,ag,⟨av.1,fun z=>by simp only [gE,bE.plain,amX] at z;exact av.2 z.1⟩,fun rd aB E a w aJ k s iX dV=>?_⟩;refine wpIn_seq (aI rd aB E a w (aJ.imp (fun h=>h) fun h=>by simp only [noMark,amX] at h;exact h.1) k s _ fun aw bt w' c9 z2 z3=>?_).wp;exact dV aw bt w' c9 z2 z3
 | cond c x y wC wD=>
   intro r h Q a8 H;simp only [gE,gK] at H;cases bB:(rx c).aV r<;>rw [bB] at H<;>simp only at H<;>try (exact H.elim)
   rename_i t;have ao:∀E a,j0 E az r a->a.eval c=.bool t:=by
    intro E a k;cases c with
    | tmp d=>
      simp only [rx] at bB;cases aj:Nat.ble d top with
      | false=>rw [aj] at bB;simp [aW.aV] at bB
      | true=>
        rw [aj] at bB;simp only [am4,aW.aV] at bB;have:=k.af d (pF (anx aj));rw [bB] at this;simp only [Rel] at this;exact this
    | const v=>
      simp only [rx,aW.aV] at bB;have:=uE E v;rw [bB] at this;simp only [Rel] at this;exact this
    | func f=>
      simp only [rx] at bB;cases aj:Nat.beq f dv<;>rw [aj] at bB<;>simp [aW.aV] at bB
    | global g=>simp [rx,aW.aV] at bB
   cases t with
   | true=>
     obtain ⟨e,bT,J,ag,av,aI⟩:=wC r h Q a8 (H.1 rfl);exact ⟨e,bT,J,ag,⟨av.1,fun z=>by simp only [gE,bE.plain,amX] at z;exact av.2 z.1⟩,fun rd aB E a w aJ k s iX dV=>wpIn_cond_true (ao E a k) (aI rd aB E a w (aJ.imp (fun h=>h) fun h=>by simp only [noMark,amX] at h;exact h.1) k s iX dV).wp⟩
   | false=>
     obtain ⟨e,bT,J,ag,av,aI⟩:=wD r h Q a8 (H.2 rfl);exact ⟨e,bT,J,ag,⟨av.1,fun z=>by simp only [gE,bE.plain,amX] at z;exact av.2 z.2⟩,fun rd aB E a w aJ k s iX dV=>wpIn_cond_false (ao E a k) (aI rd aB E a w (aJ.imp (fun h=>h) fun h=>by simp only [noMark,amX] at h;exact h.2) k s iX dV).wp⟩
 | block id x bA=>
   intro r h Q a8 H;simp only [gE,gK] at H;obtain ⟨e,bT,J,ag,av,aI⟩:=bA r h _ a8 H;refine ⟨e.leave id,bT,J,ag,av,fun rd aB E a w aJ k s iX dV=>?_⟩;refine wpIn_block (aI rd aB E a w (aJ.imp (fun h=>h) fun h=>h) k s _ fun aw bt w' c9 z2 z3=>?_).wp;cases e with
   | normal=>exact dV aw bt w' c9 z2 z3
   | ret=>exact dV aw bt w' c9 z2 z3
   | exit i=>
     have:=dV aw bt w' c9 z2 z3;simp only [toExit,Exit.inBlock];simp only [ei.leave] at this;by_cases au:i=id
     . rw [anb au] at this ⊢;exact this
     . rw [am7 au] at this ⊢;exact this
 | loop x bA=>
   intro r h Q a8 H;simp only [gE,gK] at H;obtain ⟨I,μ,qc,acK⟩:=H;have key:∀n r h,μ r h=n->I r h->Out az r->∃e bI aa,Q e bI aa/\(Out az bI/\((gE P az (.loop x)).plain=true->bI eh=r eh))/\CH P az (.loop x) r h e bI aa:=by
    intro n
    induction n using Nat.strongRecOn with
    | _ n adk=>
      intro r h aX qc a8;obtain ⟨e,bT,J,ag,av,aI⟩:=bA r h _ a8 (acK r h qc);have body:∀(rd:Option Nat) (aB:Fr) E a w,(rd=none\/noMark x=true)->j0 E az r a->ba aB E h w->∀(b:Frame) (dy:List Item) (cs:List Frame),b.roundOf=rd->∃bt w' aw,E.le aw/\j0 aw az bT bt/\ba aB aw J w'/\ArrivesIn (Machine.fenced P (cb rd)) P (lone (b.atR a (.code x::.inLoop x::dy)) cs w) b (.inLoop x::dy) cs (toExit e) bt w':=by intro rd aB E a w aJ k s b dy cs mE;have:=(aI rd aB E a w aJ k s (fun dI bt w'=>dI=toExit e/\∃aw,E.le aw/\j0 aw az bT bt/\ba aB aw J w') (fun aw bt w' ag av aI=>⟨rfl,aw,ag,av,aI⟩)).wp b (.inLoop x::dy) cs mE trivial (KJ _);obtain ⟨aN,a2,b1,⟨rfl,aH,c9,z2,z3⟩,kq⟩:=this;exact ⟨a2,b1,aH,c9,z2,z3,kq⟩
      cases e with
      | normal=>
        obtain ⟨abg,aL⟩:=ag;obtain ⟨aN,di,ad,cf,cd,eU⟩:=adk (μ bT J) (aX ▸ aL) bT J rfl abg av.1;refine ⟨aN,di,ad,cf,⟨cd.1,fun z=>(cd.2 z).trans (av.2 z)⟩,fun rd aB E a w aJ k s iX dV b dy cs mE=>?_⟩;obtain ⟨a2,b1,aH,c9,z2,z3,kq⟩:=body rd aB E a w (aJ.imp (fun h=>h) fun h=>h) k s b dy cs mE;obtain ⟨cv,a3,jY,fe,fu⟩:=eU rd aB aH a2 b1 aJ z2 z3 iX (fun cJ a4 jZ t1 t2 t3=>dV cJ a4 jZ (c9.trans t1) t2 t3) b dy cs mE;exact ⟨cv,a3,jY,fe,.of_steps (StepsIn.trans kq (.one (ra _) stepR_inLoop)) fu⟩
      | exit i=>
        refine ⟨.exit i,bT,J,ag,av,fun rd aB E a w aJ k s iX dV b dy cs mE=>?_⟩;obtain ⟨a2,b1,aH,c9,z2,z3,kq⟩:=body rd aB E a w (aJ.imp (fun h=>h) fun h=>h) k s b dy cs mE;exact ⟨.exit i,a2,b1,dV aH a2 b1 c9 z2 z3,.pass (x:=.inLoop x) rfl (fun _ _=>.inl (by simp)) kq⟩
      | ret=>
        refine ⟨.ret,bT,J,ag,av,fun rd aB E a w aJ k s iX dV b dy cs mE=>?_⟩;obtain ⟨a2,b1,aH,c9,z2,z3,kq⟩:=body rd aB E a w (aJ.imp (fun h=>h) fun h=>h) k s b dy cs mE;exact ⟨.ret,a2,b1,dV aH a2 b1 c9 z2 z3,.pass (x:=.inLoop x) rfl (fun _ _=>.inl (by simp)) kq⟩
   exact key _ r h rfl qc a8
 | scope x bA=>
   intro r h Q a8 H;obtain ⟨e,bT,J,ag,av,aI⟩:=bA r h Q a8 H;refine ⟨e,bT,J,ag,av,fun rd aB E a w aJ k s iX dV=>?_⟩;refine T6 (aI rd aB E a w (aJ.imp (fun h=>h) fun h=>h) k s _ fun aw bt w' c9 z2 z3=>?_).wp;have:=dV aw bt w' c9 z2 z3;cases e<;>exact this
 | rangeFunc f bD x y _ _=>intro r h Q a8 H;exact aiY gz dE aK a8 H
 | goto l=>intro r h Q a8 H;exact H.elim
 | refuse akZ=>intro r h Q a8 H;exact H.elim
inductive p1 where
 | t (n:Nat)
 | bW (n:Nat)
 | tD (n size:Nat)
 | bad
def nF (P:Program) (az:Nat):List ResultVar->List p1
 | []=>[]
 | .tmp t::rs=>(bif Nat.ble t top&&Nat.blt t az then .t t else .bad)::nF P az rs
 | .cell a t::rs=>(bif Nat.ble a top&&Nat.blt a az then (match bf P t with
   | none=>.bad
   | some aO=>bif aO.agg then .tD a aO.size else bif Nat.beq aO.size 1 then .bW a else .bad) else .bad)::nF P az rs
def kp (r:bz) (h:ah):List p1->Option (List V)
 | []=>some []
 | x::xs=>match (match x with
   | .t n=>some (r n)
   | .bW n=>om h (r n)
   | .tD n size=>oj size h (r n)
   | .bad=>none) with
   | none=>none
   | some v=>match kp r h xs with
     | none=>none
     | some ai=>some (v::ai)
theorem x2 {r:bz} {h:ah} {c1:bN} (eo:eM c1=r):∀{l:List ResultVar} {ai:List V},kp r h (nF P az l)=some ai->(lI P az l).run c1 h=some ai
 | [],ai,he=>by simpa [kp,nF,lI] using he
 | .tmp t::rs,ai,he=>by
   simp only [nF,kp] at he;unfold lI;cases ao:(Nat.ble t top&&Nat.blt t az) with
   | false=>rw [ao] at he;simp at he
   | true=>
     rw [ao] at he;simp only [am4] at he ⊢;cases aJ:kp r h (nF P az rs) with
     | none=>rw [aJ] at he;cases he
     | some xj=>
       rw [aJ] at he;rw [x2 eo aJ];have:=congrFun eo t;simp only [eM] at this;rw [this];exact he
 | .cell a t::rs,ai,he=>by
   simp only [nF,kp] at he;unfold lI;cases ao:(Nat.ble a top&&Nat.blt a az) with
   | false=>rw [ao] at he;simp at he
   | true=>
     rw [ao] at he;simp only [am4] at he ⊢;have QM:=congrFun eo a;simp only [eM] at QM;rw [QM];unfold qC;cases aE:bf P t with
     | none=>rw [aE] at he;simp at he
     | some aO=>
       rw [aE] at he;simp only at he ⊢;cases P4:aO.agg with
       | true=>
         rw [P4] at he;simp only [am4] at he ⊢;cases ax:oj aO.size h (r a) with
         | none=>rw [ax] at he;cases he
         | some v=>
           rw [ax] at he;simp only at he ⊢;cases aJ:kp r h (nF P az rs) with
           | none=>rw [aJ] at he;cases he
           | some xj=>rw [aJ] at he;rw [x2 eo aJ];exact he
       | false=>
         rw [P4] at he;simp only [anf] at he ⊢;cases aM:Nat.beq aO.size 1 with
         | false=>rw [aM] at he;simp at he
         | true=>
           rw [aM] at he;simp only [am4] at he ⊢;cases ax:om h (r a) with
           | none=>rw [ax] at he;cases he
           | some v=>
             rw [ax] at he;simp only at he ⊢;cases aJ:kp r h (nF P az rs) with
             | none=>rw [aJ] at he;cases he
             | some xj=>rw [aJ] at he;rw [x2 eo aJ];exact he
theorem sX:∀(l:List V) (t:Nat),bz.a_ l t=(l[t]?).getD .bad
 | [],t=>by simp [bz.a_]
 | v::ai,t=>by
   simp only [bz.a_];cases t with
   | zero=>simp
   | succ t=>simp [sX ai t]
def ei.ends:ei->Prop
 | .exit _=>False
 | _=>True
def BO:List V->ah->Option ah
 | [],h=>some h
 | .ptr b _::ds,h=>(match h.get b with
   | .gj=>BO ds (h.set b .dead)
   | _=>none)
 | _::_,_=>none
theorem RX {k8:u6}:∀{ds:List V} {h ad:ah},BO ds h=some ad->og k8 ds none h=.go none ad
 | [],h,ad,e=>by simp only [BO,amW] at e;subst e;rfl
 | d::ds,h,ad,e=>by
   cases d<;>simp only [BO] at e<;>try (cases e;done)
   rename_i b o;simp only [og];cases al:h.get b<;>rw [al] at e<;>simp only at e<;>try (cases e;done)
   exact RX e
theorem Y_ (dE:P.follows .mixedOrders=true) (aK:e6 P) {f:FuncId} {fn:Func} {c:Code} {args:List V} {h:ah} {K:V->ah->Prop} (aA:P.funcs[f]? =some fn) (aj:fn.body=some c)
 (gz:Nat.ble fn.ntmps top=true) (bc:Nat.beq f dv=false) (j6:Nat.ble args.length fn.ntmps=true) {rc:bE} {eI:List p1} (wu:gE P fn.ntmps c=rc) (sG:nF P fn.ntmps fn.results.toList=eI) {Q:ei->bz->ah->Prop} (H:gK P rc (bz.a_ args) h Q)
 (dV:∀e r aa,(rc.plain=true->r eh=.bad)->Q e r aa->e.ends/\∃ad,BO (r eh).list aa=some ad/\∃ai,kp r ad eI=some ai/\K (oneOf ai) ad):b' P f args h K:=by
 subst wu sG;rw [ann] at gz j6;have a8:Out fn.ntmps (bz.a_ args):=by intro t aE _;rw [sX,anv (by omega)];rfl
 have iv:(bz.a_ args) eh=.bad:=by rw [sX,anv (by unfold eh;unfold top at gz;omega)];rfl
 obtain ⟨e,bI,aa,aq,kt,A2⟩:=K' gz dE aK c _ h _ a8 H;obtain ⟨gy,ad,sy,ai,Bq,dU⟩:=dV e bI aa (fun z=>(kt.2 z).trans iv) aq;have hX:f≠dv:=fun e=>by subst e;simp at bc
 refine ⟨oneOf ai,ad,⟨hX,.inl ⟨⟨fn,aA,by rw [aj];rfl⟩,fun aB E w xs ar s=>?_⟩⟩,dU⟩;have hlen:=ar.length;have cy:xs.toArray.size<=fn.ntmps:=by simp;omega
 refine si.1 (callsIn_of_wp_marks (F:=cb none) (n:=0) aA aj trivial ?_);have k:j0 E fn.ntmps (bz.a_ args) {tmps:=xs.toArray++Array.replicate (fn.ntmps-xs.toArray.size) undef,defers:=[]}:=by
  refine ⟨by simp;omega,by rw [iv];simp [lO],fun t _=>?_⟩;rw [sX];cases al:args[t]? with
  | none=>simp [Rel]
  | some v=>
    obtain ⟨y,bc,aJ⟩:=ar.get t v al;simp only [aop];have yI:t<xs.length:=(anl.1 bc).1;rw [anq,aol (by simpa using yI)];simp only [List.getElem?_toArray,bc,aop];exact aJ
 have mw:CJ P (fun _ _ _ _=>.fail):=fun f args u h eV aa he=>by cases he
 have fin:∀aw bt w',E.le aw->j0 aw fn.ntmps bI bt->ba aB aw aa w'->LeavesInM (cb none) 0 P fn bt.tmps (fun e w'=>∃aw x,e=.returned x/\E.le aw/\Rel aw (oneOf ai) x/\ba aB aw ad w') bt.defers .returning w':=by
  intro aw bt w' ag av aI;obtain ⟨c1,eo⟩:=x4 kt.1;have aZ:T.get .bad fs c1=bI eh:=by have:=congrFun eo eh;simp only [eM] at this;exact this
  have ay:fU aw fn.ntmps c1 bt:=⟨⟨av.size,fun t aE=>by
   have:=congrFun eo t;simp only [eM] at this;rw [this]
   exact av.af t (pF aE)⟩,by rw [aZ];exact av.defers⟩
  refine HK (C:=⟨P,fun _=>none,fun _=>none⟩) (u:=none) aK mw ay rfl aI ?_;rw [aZ,RX sy];simp only [finish];rw [x2 eo Bq];exact fun aH x b1 cf cd eU=>⟨aH,x,rfl,ag.trans cf,cd,eU⟩
 refine (A2 none aB E _ w (.inl rfl) k s _ fun aw bt w' ag av aI=>?_).wp;have:=fin aw bt w' ag av aI;cases e with
 | normal=>exact this
 | ret=>exact this
 | exit i=>exact gy.elim
theorem Za (dE:P.follows .mixedOrders=true) (aK:e6 P) {f:FuncId} {fn:Func} {c:Code} {args:List V} {h:ah} {K:V->ah->Prop} (aA:P.funcs[f]? =some fn) (aj:fn.body=some c)
 (gz:Nat.ble fn.ntmps top=true) (bc:Nat.beq f dv=false) (j6:Nat.ble args.length fn.ntmps=true) {rc:bE} {eI:List p1} (wu:gE P fn.ntmps c=rc) (sG:nF P fn.ntmps fn.results.toList=eI) (kv:rc.plain=true)
 (H:gK P rc (bz.a_ args) h fun e r aa=>e.ends/\∃ai,kp r aa eI=some ai/\K (oneOf ai) aa):b' P f args h K:=by
 refine Y_ dE aK aA aj gz bc j6 wu sG H fun e r aa aM ⟨J,ai,ad,aD⟩=>⟨J,aa,?_,ai,ad,aD⟩;rw [aM kv];rfl
end
end
section
open Go Go.RowKit
variable [Lay]
theorem s0 (i j:Nat):(aC i=aC j)=(i=j):=by apply propext;exact ⟨lF,fun h=>by rw [h]⟩
theorem aiK (ai:List V):∀(i off:Nat) (x:V) (t:T V),i<off->T.put .bad x (aC i) (gr t off ai)=gr (T.put .bad x (aC i) t) off ai:=by
 induction ai with
 | nil=>intro i off x t _;rfl
 | cons v ai bA=>
   intro i off x t h;simp only [gr];rw [bA i (off+1) x _ (by omega),T.put_comm _ _ _ _ _ _ (fun e=>by rw [s0] at e;omega)]
def jF (ai:List V) (off:Nat) (ws:List V):List V:=ai.take off++ws++ai.drop (off+ws.length)
theorem Tt:∀(ai:List V) (base i:Nat) (x:V) (t:T V),i<ai.length->T.put .bad x (aC (base+i)) (gr t base ai)=gr t base (ai.set i x)
 | [],_,i,_,_,h=>by simp at h
 | v::ai,base,i,x,t,h=>by
   cases i with
   | zero=>
     simp only [gr,aoA,List.set];rw [aiK ai base (base+1) x _ (by omega),T.Ts]
   | succ i=>
     simp only [gr,List.set];have:=Tt ai (base+1) i x (T.put .bad v (aC base) t) (by simpa using h);rw [show base + (i+1)=base+1+i from by omega];exact this
theorem T9 (ai:List V) (off:Nat) (w:V) (ws:List V) (h:off<ai.length):jF (ai.set off w) (off+1) ws=jF ai off (w::ws):=by
 unfold jF;have J:(ai.set off w).take (off+1)=ai.take off++[w]:=by rw [List.take_succ_eq_append_getElem (by simpa using h)];simp [List.take_set_of_le]
 have ad:(ai.set off w).drop (off+1+ws.length)=ai.drop (off + (w::ws).length):=by rw [List.drop_set_of_lt (by omega)];congr 1;simp;omega
 rw [J,ad];simp
theorem Cw (ai:List V) (off:Nat) (ws:List V) (h:off+ws.length<=ai.length):(jF ai off ws).length=ai.length:=by unfold jF;simp;omega
theorem Fv:∀(ws ai:List V) (off:Nat),off+ws.length<=ai.length->gr (gr .e 0 ai) off ws=gr .e 0 (jF ai off ws)
 | [],ai,off,h=>by simp [gr,jF]
 | w::ws,ai,off,h=>by simp only [am0] at h;simp only [gr];have J:=Tt ai 0 off w .e (by omega);rw [anB] at J;rw [J,Fv ws (ai.set off w) (off+1) (by simp;omega),T9 ai off w ws (by omega)]
theorem AO (ai:List V):∀(off i:Nat) (t:T V),T.get .bad (aC (off+i)) (gr t off ai)=if i<ai.length then (ai[i]?).getD .bad else T.get .bad (aC (off+i)) t:=by
 induction ai with
 | nil=>intro off i t;simp [gr]
 | cons v ai bA=>
   intro off i t;simp only [gr];cases i with
   | zero=>
     have:∀(ws:List V) (o:Nat) (s:T V),off<o->T.get .bad (aC off) (gr s o ws)=T.get .bad (aC off) s:=by
      intro ws
      induction ws with
      | nil=>intro o s _;rfl
      | cons w ws adl=>
        intro o s a8;simp only [gr];rw [adl (o+1) _ (by omega),T.iH,am7 (fun e=>by rw [s0] at e;omega)]
     rw [aoA,this ai (off+1) _ (by omega),T.iH];simp
   | succ i=>
     have:=bA (off+1) i (T.put .bad v (aC off) t);rw [show off+1+i=off + (i+1) from by omega] at this;rw [this,T.iH];have ez:¬aC off=aC (off + (i+1)):=fun e=>by rw [s0] at e;omega
     rw [am7 ez];simp
theorem DZ (ai:List V):∀(n i:Nat),i+n<=ai.length->h' (gr .e 0 ai) i n=(ai.drop i).take n
 | 0,i,h=>by simp [h']
 | n+1,i,h=>by simp only [h'];have J:=AO ai 0 i .e;rw [anB] at J;rw [J,anb (by omega),DZ ai n (i+1) (by omega)];have aZ:ai.drop i=ai[i]::ai.drop (i+1):=ant (by omega);rw [aZ,aoe];simp [amY (by omega:i<ai.length)]
def cm.a_ (ai:List V) (cT:Nat) (st:Bool):cm:=.cells ai.length (gr .e 0 ai) cT st
def cm.ro (ai:List V):cm:=.view ai.length (gr .e 0 ai)
def nN (h:ah) (b:aU) (ai:List V):Prop:=h.get b=.ro ai\/∃cT st,h.get b=.a_ ai cT st
def Own (h:ah) (b:aU) (ai:List V) (cT:Nat) (st:Bool):Prop:=h.get b=.a_ ai cT st
theorem nN.pL {α:Type} {h:ah} {b:aU} {ai:List V} (H:nN h b ai) (d:α) (f:Nat->T V->α):(h.get b).pL d f=f ai.length (gr .e 0 ai):=by rcases H with H | ⟨_,_,H⟩<;>rw [H]<;>rfl
theorem Own.lay {h:ah} {b:aU} {ai:List V} {cT:Nat} {st:Bool} (H:Own h b ai cT st) {off:Nat} {ws:List V} (a8:off+ws.length<=ai.length) (J:fq ws=true):
 lay h b off ws=some (h.set b (.a_ (jF ai off ws) cT st)):=by
 unfold bd.lay;rw [show h.get b=.cells ai.length (gr .e 0 ai) cT st from H];simp only [cm.on];rw [show Nat.ble (off+ws.length) ai.length=true from by rw [ann];exact a8,J];simp only [anY,am4,amW,cm.a_];rw [Cw ai off ws a8,Fv ws ai off a8]
theorem Su {h:ah} {ai:List V} (ax:ai.length<=top):gP h ai=some (h.new (.a_ ai 0 false)):=by unfold gP;rw [show Nat.ble ai.length top=true from by rw [ann];exact ax];rfl
theorem wV {h:ah} {ai:List V} {cT:Nat} {st:Bool} (ax:ai.length<=top) (he:1<=cT):l_ h ai cT st=some (h.new (.a_ ai cT st)):=by unfold l_;rw [show Nat.ble ai.length top=true from by rw [ann];exact ax,show Nat.ble 1 cT=true from by rw [ann];exact he];rfl
theorem gD (h:ah) (k:cm):(h.new k).next=h.next+1:=rfl
theorem pG (h:ah) (b:aU) (k:cm):(h.set b k).next=h.next:=rfl
section
variable {P:Program} {r:bz} {h:ah}
theorem ajN (r:bz) (d:Nat) (v:V) (t:Nat):bz.set r (some d) v t=if t=d then v else r t:=(rfl)
theorem ajO (r:bz) (v:V):bz.set r none v=r:=(rfl)
theorem akF (r:bz) (u:Nat) (us:List Nat) (t:Nat):bz.trim r (u::us) t=if t=u then r t else bz.trim r us t:=(rfl)
theorem ahK (v:V) (ai:List V):bz.a_ (v::ai) 0=v:=(rfl)
theorem ahL (v:V) (ai:List V) (t:Nat):bz.a_ (v::ai) (t+1)=bz.a_ ai t:=by simp [bz.a_]
theorem Z1 (r:bz) (n:Nat):aW.aV r (.t n)=r n:=(rfl)
theorem Z0 (r:bz) (v:V):aW.aV r (.c v)=v:=(rfl)
theorem SE {d:Option Nat} {g:G} {rs:List Nat} {K:bz->V->ah->Prop}:bs.wp P ⟨d,g,none,rs⟩ r h K=g.wp P (r.trim rs) h fun v aa=>K (r.set d v) v aa:=(rfl)
theorem SC {d:Option Nat} {g:G} {j:Nat} {want:Bool} {rs:List Nat} {K:bz->V->ah->Prop}:bs.wp P ⟨d,g,some (j,want),rs⟩ r h K=
 gate (r.trim rs j) want (g.wp P (r.trim rs) h fun v aa=>K (r.set d v) v aa) (K (r.set d (.tuple [])) (.tuple []) h):=(rfl)
variable {K:V->ah->Prop}
theorem ph (k:IntKind):pg k k=true:=by cases k<;>rfl
theorem pA (a b:Int):Int.leB a b=decide (a<=b):=pB a b
theorem AI (a b:Int):Int.hV a b=decide (a=b):=by rw [ni];rfl
variable (k:IntKind) (a b:Int)
theorem adU:(en.int .add).run P (.int k a) (.int k b)=some (.int k (k.wrap (a+b))):=by simp [en.run,l5,px,V.e1,ph]
theorem aeX:(en.int .sub).run P (.int k a) (.int k b)=some (.int k (k.wrap (a-b))):=by simp [en.run,l5,px,V.e1,ph]
theorem aeF:(en.int .mul).run P (.int k a) (.int k b)=some (.int k (k.wrap (a * b))):=by simp [en.run,l5,px,V.e1,ph]
theorem Rw (aj:b≠0):(en.int .quo).run P (.int k a) (.int k b)=some (.int k (k.wrap (a.tdiv b))):=by simp [en.run,l5,yO,V.e1,ph,AI,aj]
theorem JB (aj:b≠0):(en.int .rem).run P (.int k a) (.int k b)=some (.int k (a.tmod b)):=by simp [en.run,l5,yO,V.e1,ph,AI,aj]
theorem aee:(en.int .eql).run P (.int k a) (.int k b)=some (.bool (decide (a=b))):=by simp [en.run,l5,od,V.e1,ph,AI]
theorem aeI:(en.int .neq).run P (.int k a) (.int k b)=some (.bool (!decide (a=b))):=by simp [en.run,l5,od,V.e1,ph,AI]
theorem aeB:(en.int .lss).run P (.int k a) (.int k b)=some (.bool (decide (a<b))):=by simp [en.run,l5,od,V.e1,ph,pA];rw [anT];simp
theorem aey:(en.int .leq).run P (.int k a) (.int k b)=some (.bool (decide (a<=b))):=by simp [en.run,l5,od,V.e1,ph,pA]
theorem aem:(en.int .gtr).run P (.int k a) (.int k b)=some (.bool (decide (b<a))):=by simp [en.run,l5,od,V.e1,ph,pA];rw [anT];simp
theorem ael:(en.int .geq).run P (.int k a) (.int k b)=some (.bool (decide (b<=a))):=by simp [en.run,l5,od,V.e1,ph,pA]
theorem adW (x y:Bool):(en.x0 false).run P (.bool x) (.bool y)=some (.bool (x == y)):=by simp [en.run,j3,AK,q8]
theorem ad0 (x y:Bool):(en.x0 true).run P (.bool x) (.bool y)=some (.bool (!(x == y))):=by simp [en.run,j3,AK,q8]
theorem akS (x:Bool):r0 .not (.bool x)=some (.bool (!x)):=(rfl)
theorem akR:r0 .neg (.int k a)=some (.int k (k.wrap (0-a))):=(rfl)
theorem wrap_i64 {n:Int} (J:-9223372036854775808<=n) (ad:n<=9223372036854775807):IntKind.i64.wrap n=n:=by exact Go.IntWalk.i64_in n ⟨J,ad⟩
end
section
variable {P:Program} {r:bz} {h:ah} {Q:ei->bz->ah->Prop}
theorem Yl {ops:List bs}:gK P (.af ops) r h Q=th P ops r h (Q .normal):=(rfl)
theorem Ym {a b:bE}:gK P (.seq a b) r h Q=gK P a r h fun e bI aa=>e.andThen (gK P b bI aa Q) (Q e bI aa):=(rfl)
theorem akw {A B:Prop}:ei.andThen .normal A B=A:=(rfl)
theorem akx {A B:Prop}:ei.andThen .ret A B=B:=(rfl)
theorem aku {A B:Prop} {i:Nat}:ei.andThen (.exit i) A B=B:=(rfl)
theorem ags {id:Nat}:ei.leave id .normal=.normal:=(rfl)
theorem agt {id:Nat}:ei.leave id .ret=.ret:=(rfl)
theorem agr {id i:Nat}:ei.leave id (.exit i)=if i=id then .normal else .exit i:=(rfl)
end
def xl {α:Type} (o:Option α) (k:α->Prop):Prop:=
 match o with
 | some v=>k v
 | none=>False
@[congr] theorem amJ {α:Type} {o cn:Option α} {k:α->Prop} (h:o=cn):xl o k=xl cn k:=by rw [h]
def V.opt (c:Bool) (v:V):V:=bif c then v else .tuple []
theorem aii (v:V):V.opt true v=v:=(rfl)
theorem aie (v:V):V.opt false v=.tuple []:=(rfl)
@[congr] theorem amv {c hU:Bool} {v cI:V} (h:c=hU) (bB:hU=true->v=cI):V.opt c v=V.opt hU cI:=by
 subst h;cases c with
 | true=>rw [bB rfl]
 | false=>rfl
def V.bif (t:Bool) (a b:V):V:=bif t then a else b
theorem akW (a b:V):V.bif true a b=a:=(rfl)
theorem akV (a b:V):V.bif false a b=b:=(rfl)
theorem Wr (t a b:Bool):V.bif t (.bool a) (.bool b)=.bool (bif t then a else b):=by cases t<;>rfl
theorem Ws (t:Bool) (k:IntKind) (a b:Int):V.bif t (.int k a) (.int k b)=.int k (if t=true then a else b):=by cases t<;>rfl
theorem Wu (t x:Bool):(bif t then true else x)=(t||x):=by cases t<;>rfl
theorem Wq (t x:Bool):(bif t then x else false)=(t&&x):=by cases t<;>rfl
@[congr] theorem alz {t uW:Bool} {a bt b bV:V} (h:t=uW) (bF:uW=true->a=bt) (aj:uW=false->b=bV):V.bif t a b=V.bif uW bt bV:=by
 subst h;cases t with
 | true=>rw [V.bif,V.bif,bF rfl];rfl
 | false=>rw [V.bif,V.bif,aj rfl];rfl
def fN (c:Bool) (A:Prop):Prop:=c=true->A
@[congr] theorem alw {c hU:Bool} {A kG:Prop} (h:c=hU) (bF:hU=true->A=kG):fN c A=fN hU kG:=by subst h;exact propext ⟨fun q e=>(bF e) ▸ q e,fun q e=>(bF e) ▸ q e⟩
theorem Vd (c:Bool):fN c True=True:=propext ⟨fun _=>trivial,fun _ _=>trivial⟩
theorem Vf (A:Prop):fN true A=A:=propext ⟨fun q=>q rfl,fun q _=>q⟩
theorem Ve (A:Prop):fN false A=True:=propext ⟨fun _=>trivial,fun _ e=>by cases e⟩
def took (v:V) (want:Bool):Bool:=
 match v with
 | .bool b=>b == want
 | _=>false
theorem akC (b w:Bool):took (.bool b) w=(b == w):=(rfl)
theorem akE (ai:List V) (w:Bool):took (.tuple ai) w=false:=(rfl)
theorem akD (c:Bool) (v:V) (w:Bool):took (.opt c v) w=(c&&took v w):=by cases c<;>rfl
def gn (v:V):Prop:=
 match v with
 | .bool _=>True
 | .tuple _=>True
 | _=>False
theorem adA (b:Bool):gn (.bool b)=True:=(rfl)
theorem adC (ai:List V):gn (.tuple ai)=True:=(rfl)
theorem adB (c b:Bool):gn (.opt c (.bool b))=True:=by cases c<;>rfl
def G.py:G->Bool
 | .bg _ | .pick .. | .build .. | .eA _ | .ka .. | .uD _ | .bin .. | .un .. | .fn .. | .uz .. | .Di .. | .sL .. | .qN .. | .ek .. | .hi .. | .vI .. | .vJ .. | .dG .. | .t' .. | .oe .. | .ky .. | .look .. | .ext .. | .y8 _ | .eT _ | .Dt _ | .ET .. | .looks .. | .Ch .. | .gj .. =>true
 | .im (.int _) _=>true
 | .len .map _=>false
 | .len _ _=>true
 | _=>false
def V.sY {α:Type} (v:V) (d:α) (f:List V->α):α:=
 match v with
 | .agg cs=>f cs
 | _=>d
def V.B_ {α:Type} (v:V) (d:α) (f:List V->α):α:=
 match v with
 | .tuple cs=>f cs
 | _=>d
def Cj (c a b:V):Option V:=
 match c with
 | .bool t=>some (V.bif t a b)
 | _=>none
theorem aiy (t:Bool) (a b:V):Cj (.bool t) a b=some (V.bif t a b):=(rfl)
def gJ (n:Nat) (x:V) (bO au m3:Option V):Option V:=
 match x with
 | .cc=>zw bO au m3
 | .slice b off wL cap=>rW n b off wL cap bO au m3
 | .eu b off wL idx=>s9 n b off wL idx bO au m3
 | .gQ b off nD idx=>zx b off nD idx bO au m3
 | _=>none
def AF (f:V) (xs:List V) (s:V):Option V:=
 match f with
 | .func g cs=>bif Nat.beq g dv then none else some (.tuple (.func g (xs++cs)::s.list))
 | _=>none
theorem Zx {g:FuncId} {cs xs:List V} {s:V} (al:Nat.beq g dv=false):AF (.func g cs) xs s=some (.tuple (.func g (xs++cs)::s.list)):=by simp only [AF,al,anf]
def G.mQ (P:Program) (g:G) (r:bz) (h:ah):Option V:=
 match g with
 | .bg x=>some (x.aV r)
 | .pick c a b=>Cj (c.aV r) (a.aV r) (b.aV r)
 | .build z bD=>(match jP z (k_ r bD) with
   | some cs=>some (.agg cs)
   | none=>none)
 | .eA x=>om h (x.aV r)
 | .ka n x=>oj n h (x.aV r)
 | .uD x=>uC (x.aV r)
 | .bin k x y=>k.run P (x.aV r) (y.aV r)
 | .un op x=>r0 op (x.aV r)
 | .im (.int k) x=>(x.aV r).e1 none fun _ n=>some (.int k (k.wrap n))
 | .fn f e'=>some (.func f (aW.fv r e'))
 | .uz f first=>some (.kT f (aW.fv r first))
 | .Di t z ok x=>Am t z ok (x.aV r)
 | .sL t x=>some (.iface t (x.aV r))
 | .qN x bO au m3=>mR (x.aV r) (aW.opt r bO) (aW.opt r au) (aW.opt r m3)
 | .ek n x bO au m3=>gJ n (x.aV r) (aW.opt r bO) (aW.opt r au) (aW.opt r m3)
 | .hi off x=>(x.aV r).ke none fun b o=>some (.ptr b (o+off))
 | .vI off x=>(x.aV r).sY none fun cs=>cs[off]?
 | .vJ off n x=>(x.aV r).sY none fun cs=>some (.agg ((cs.drop off).take n))
 | .dG n x i=>(wE n).run (x.aV r) (i.aV r)
 | .t' n s x i=>(sN n s).run (x.aV r) (i.aV r)
 | .oe x i=>sP.run (x.aV r) (i.aV r)
 | .ky t x i=>(sO P t).run (x.aV r) (i.aV r)
 | .look k z ok x i=>kA k.eq z ok h (x.aV r) (i.aV r)
 | .ext x i=>(x.aV r).B_ none fun ai=>ai[i]?
 | .len (.arr n) _=>some (.int .i64 n)
 | .len .str x=>(pD .string).run (x.aV r)
 | .len .slice x=>(pD (.slice 0)).run (x.aV r)
 | .y8 args=>lG (fun b a=>!Int.leB a b) (aW.fv r args)
 | .eT args=>lG (fun b a=>!Int.leB b a) (aW.fv r args)
 | .Dt x=>Ay (x.aV r)
 | .ET z ok x i=>nC ⟨me h⟩ z ok h (x.aV r) (i.aV r)
 | .looks k z ok x i=>bif rH P k (i.aV r) then nC (structEq P k) z ok h (x.aV r) (i.aV r) else none
 | .Ch neg x y=>Ks neg h (x.aV r) (y.aV r)
 | .gj f args=>AF (f.aV r) (aW.fv r args) (r eh)
 | _=>none
section
variable {P:Program} {r:bz} {h:ah}
theorem pure_run {g:G} (ak:g.py=true) (call:et):g.run P call r h=a7.of h (g.mQ P r h):=by
 cases g<;>simp only [G.py] at ak<;>try (cases ak;done)
 all_goals simp only [G.run,G.mQ]
 case bg x=>rfl
 case pick c a b=>
  generalize c.aV r=q;cases q<;>rfl
 case build z bD=>
  generalize jP z (k_ r bD)=q;cases q<;>rfl
 case im k x=>
  cases k<;>simp only at ak<;>try (cases ak;done)
  simp only [tj.run];generalize x.aV r=q;cases q<;>rfl
 case fn f e'=>rfl
 case uz f first=>rfl
 case sL t x=>rfl
 case ek n x bO au m3=>
  unfold gJ;generalize x.aV r=q;cases q<;>rfl
 case vI off x=>
  generalize x.aV r=q;cases q<;>rfl
 case vJ off n x=>
  generalize x.aV r=q;cases q<;>rfl
 case ext x i=>
  generalize x.aV r=q;cases q<;>rfl
 case len k x=>
  cases k<;>simp only at ak<;>first | rfl | (cases ak;done)
 case gj f args=>
  unfold AF;generalize f.aV r=q;cases q<;>try rfl
  rename_i g cs;simp only;cases Nat.beq g dv<;>rfl
theorem PL {g:G} (ak:g.py=true) {K:V->ah->Prop}:g.wp P r h K=xl (g.mQ P r h) fun v=>K v h:=by
 have e:g.wp P r h K=∃v aa,g.run P mb r h=.val v aa/\K v aa:=by cases g<;>first | rfl | (simp [G.py] at ak;done)
 rw [e,pure_run ak];apply propext;cases bB:g.mQ P r h with
 | none=>exact ⟨fun ⟨v,aa,q,_⟩=>(by cases q),fun q=>q.elim⟩
 | some v=>
   constructor
   . rintro ⟨v1,J,q,k⟩;simp only [a7.of,a7.val.injEq] at q;obtain ⟨rfl,rfl⟩:=q;exact k
   . intro k;exact ⟨v,h,rfl,k⟩
theorem SF {d:Option Nat} {g:G} {rs:List Nat} {K:bz->V->ah->Prop} (ak:g.py=true):bs.wp P ⟨d,g,none,rs⟩ r h K=xl (g.mQ P (r.trim rs) h) fun v=>K (r.set d v) v h:=by rw [SE,PL ak]
theorem SD {d:Option Nat} {g:G} {j:Nat} {want:Bool} {rs:List Nat} {K:bz->V->ah->Prop} (ak:g.py=true):bs.wp P ⟨d,g,some (j,want),rs⟩ r h K=
 (gn (r.trim rs j)/\fN (took (r.trim rs j) want) ((g.mQ P (r.trim rs) h).isSome=true)/\
   K (r.set d (V.opt (took (r.trim rs j) want) ((g.mQ P (r.trim rs) h).getD .bad))) (V.opt (took (r.trim rs j) want) ((g.mQ P (r.trim rs) h).getD .bad)) h):=by
 rw [SC,PL ak];generalize r.trim rs j=q;generalize g.mQ P (r.trim rs) h=o;apply propext;cases q<;>simp only [gate,gn,took,ao6,aoJ]
 case bool b=>
  cases b<;>cases want<;>cases o<;>simp [xl,fN,V.opt]
 case tuple ai=>simp [fN,V.opt]
@[congr] theorem amN {os:List bs} {r bI:bz} {h aa:ah} {K:bz->ah->Prop} (an:r=bI) (aN:h=aa):th P os r h K=th P os bI aa K:=by rw [an,aN]
@[congr] theorem amL {os:List bs} {r bI:bz} {h aa:ah} {K:List gU->bz->ah->Prop} (an:r=bI) (aN:h=aa):mj P os r h K=mj P os bI aa K:=by rw [an,aN]
@[congr] theorem alu {o:bs} {r bI:bz} {h aa:ah} {K:bz->V->ah->Prop} (an:r=bI) (aN:h=aa):o.wp P r h K=o.wp P bI aa K:=by rw [an,aN]
@[congr] theorem alv {g:G} {r bI:bz} {h aa:ah} {K:V->ah->Prop} (an:r=bI) (aN:h=aa):g.wp P r h K=g.wp P bI aa K:=by rw [an,aN]
@[congr] theorem amK {c:bE} {r bI:bz} {h aa:ah} {Q:ei->bz->ah->Prop} (an:r=bI) (aN:h=aa):gK P c r h Q=gK P c bI aa Q:=by rw [an,aN]
@[congr] theorem als {f:FuncId} {a bt:List V} {h aa:ah} {K:V->ah->Prop} (an:a=bt) (aN:h=aa):b' P f a h K=b' P f bt aa K:=by rw [an,aN]
def jC (k:cm) (off:Nat):Option V:=k.pL none fun n cs=>bif Nat.blt off n then some (T.get .bad (aC off) cs) else none
def o2 (n:Nat) (k:cm) (off:Nat):Option V:=k.pL none fun m cs=>bif Nat.ble (off+n) m then some (.agg (h' cs off n)) else none
theorem agP (b:aU) (off:Nat):om h (.ptr b off)=jC (h.get b) off:=(rfl)
theorem agR (n:Nat) (b:aU) (off:Nat):oj n h (.ptr b off)=o2 n (h.get b) off:=(rfl)
theorem RQ {ai:List V} {off:Nat}:(bif Nat.blt off ai.length then some (T.get .bad (aC off) (gr .e 0 ai)) else none)=ai[off]? :=by
 have:=AO ai 0 off .e;rw [anB] at this;rw [this];by_cases a8:off<ai.length
 . rw [show Nat.blt off ai.length=true from by rw [anF];exact a8,anb a8];simp [amY a8]
 . rw [show Nat.blt off ai.length=false from by rw [<-Bool.not_eq_true,anF];exact a8];rw [anv (by omega)];rfl
theorem RO (ai:List V) (cT:Nat) (st:Bool) (off:Nat):jC (.a_ ai cT st) off=ai[off]? :=RQ
theorem RP (ai:List V) (off:Nat):jC (.ro ai) off=ai[off]? :=RQ
theorem RT {ai:List V} {off n:Nat}:(bif Nat.ble (off+n) ai.length then some (V.agg (h' (gr .e 0 ai) off n)) else none)=if off+n<=ai.length then some (.agg ((ai.drop off).take n)) else none:=by
 by_cases a8:off+n<=ai.length
 . rw [show Nat.ble (off+n) ai.length=true from by rw [ann];exact a8,anb a8,DZ ai n off a8];rfl
 . rw [show Nat.ble (off+n) ai.length=false from by rw [<-Bool.not_eq_true,ann];exact a8,am7 a8];rfl
theorem RR (n:Nat) (ai:List V) (cT:Nat) (st:Bool) (off:Nat):o2 n (.a_ ai cT st) off=if off+n<=ai.length then some (.agg ((ai.drop off).take n)) else none:=RT
theorem RS (n:Nat) (ai:List V) (off:Nat):o2 n (.ro ai) off=if off+n<=ai.length then some (.agg ((ai.drop off).take n)) else none:=RT
theorem nN.eA {b:aU} {ai:List V} (H:nN h b ai) (off:Nat):jC (h.get b) off=ai[off]? :=by
 rcases H with H | ⟨_,_,H⟩<;>rw [H]
 . exact RP ai off
 . exact RO ai _ _ off
theorem nN.ka {b:aU} {ai:List V} (H:nN h b ai) (n off:Nat):o2 n (h.get b) off=if off+n<=ai.length then some (.agg ((ai.drop off).take n)) else none:=by
 rcases H with H | ⟨_,_,H⟩<;>rw [H]
 . exact RS n ai off
 . exact RR n ai _ _ off
def over:List V->List V->List V
 | ai,[]=>ai
 | [],_::_=>[]
 | _::ai,w::ws=>w::over ai ws
def pM:List V->Nat->List V->List V
 | ai,0,ws=>over ai ws
 | [],_+1,_=>[]
 | v::ai,n+1,ws=>v::pM ai n ws
theorem S1:∀(ai ws:List V),ws.length<=ai.length->over ai ws=ws++ai.drop ws.length
 | ai,[],_=>by cases ai<;>rfl
 | [],_::_,h=>by simp at h
 | v::ai,w::ws,h=>by simp only [over,ang,am0,aoh];rw [S1 ai ws (by simpa using h)]
theorem F0:∀(ai:List V) (off:Nat) (ws:List V),off+ws.length<=ai.length->pM ai off ws=jF ai off ws
 | ai,0,ws,h=>by cases ai<;>simp only [pM,jF,List.take_zero,anh,anB]<;>exact S1 _ ws (by omega)
 | [],n+1,ws,h=>by simp at h
 | v::ai,n+1,ws,h=>by simp only [am0] at h;simp only [pM,jF];rw [F0 ai n ws (by omega)];simp only [jF,aoe,ang];rw [show n+1+ws.length=n+ws.length+1 from by omega,aoh]
theorem aj3 (ai:List V) (off:Nat) (ws:List V) (h:off+ws.length<=ai.length):(pM ai off ws).length=ai.length:=by rw [F0 ai off ws h,Cw ai off ws h]
def BM (n:Nat) (h:ah) (b:aU) (off:Nat) (y:V) (k:cm):Option ah:=
 bif Nat.beq y.cells.length n then k.on none fun m cs cT st=>
  bif Nat.ble (off+y.cells.length) m&&fq y.cells then some (h.set b (.cells m (gr cs off y.cells) cT st)) else none else none
theorem aka (n:Nat) (b:aU) (off:Nat) (y:V):xd n h (.ptr b off) y=BM n h b off y (h.get b):=(rfl)
theorem agc {n:Nat} {b:aU} {off:Nat} {y:V} {ai:List V} {cT:Nat} {st:Bool} (J:y.cells.length=n) (ad:fq y.cells=true) (aD:off+n<=ai.length):
 BM n h b off y (.a_ ai cT st)=some (h.set b (.a_ (pM ai off y.cells) cT st)):=by
 unfold BM;rw [show Nat.beq y.cells.length n=true from by rw [anA];exact J];simp only [am4,cm.a_,cm.on];rw [show Nat.ble (off+y.cells.length) ai.length=true from by rw [ann,J];exact aD,ad];simp only [anY,am4,amW];rw [aj3 ai off _ (by rw [J];exact aD),F0 ai off _ (by rw [J];exact aD),Fv _ ai off (by rw [J];exact aD)]
theorem ju (k:cm):(h.new k).get (aC h.next)=k:=by rw [ah.jt,anb rfl]
theorem jt (b:aU) (k:cm):(h.new k).get b=if aC h.next=b then k else h.get b:=ah.jt h b k
theorem fm (b bV:aU) (k:cm):(h.set b k).get bV=if b=bV then k else h.get bV:=ah.fm h b bV k
def Old (h:ah) (b:aU):Prop:=cR b<h.next
theorem uH:∀b:aU,aC (cR b)=b:=by
 have key:∀(b:aU) (d:Nat),cR b+1<2 ^ d->uG d (cR b)=b:=by
  intro b
  induction b with
  | z=>intro d aZ;cases d<;>rfl
  | l p bA=>
    intro d aZ;cases d with
    | zero=>simp [cR] at aZ
    | succ d=>
      have ad:2 ^ (d+1)=2 * 2 ^ d:=by rw [Nat.pow_succ];omega
      rw [ad] at aZ;simp only [cR] at aZ ⊢;simp only [uG,h7];rw [am7 (by omega),anb (by omega),show (2 * cR p+1) / 2=cR p from by omega,bA d (by omega)]
  | r p bA=>
    intro d aZ;cases d with
    | zero=>simp [cR] at aZ
    | succ d=>
      have ad:2 ^ (d+1)=2 * 2 ^ d:=by rw [Nat.pow_succ];omega
      rw [ad] at aZ;simp only [cR] at aZ ⊢;simp only [uG,h7];rw [am7 (by omega),am7 (by omega),show (2 * cR p+2) / 2-1=cR p from by omega,bA d (by omega)]
 intro b;exact key b _ Nat.lt_log2_self
theorem Ka {b:aU} {i:Nat} (aj:Old h b) (au:h.next<=i):(aC i=b)=False:=by
 apply propext;constructor
 . intro e;unfold Old at aj;rw [<-e,dX] at aj;omega
 . exact False.elim
theorem SO {k:cm}:Old (h.new k) (aC h.next):=by unfold Old;rw [dX];exact Nat.lt_succ_self _
def DM (off:Nat) (x:V):Option V:=x.ke none fun b o=>some (.ptr b (o+off))
theorem Z8 (off:Nat) (b:aU) (o:Nat):DM off (.ptr b o)=some (.ptr b (o+off)):=(rfl)
theorem ahT {α:Type} (ai:List V) (d:α) (f:List V->α):V.B_ (.tuple ai) d f=f ai:=(rfl)
theorem ahS {α:Type} (ai:List V) (d:α) (f:List V->α):V.sY (.agg ai) d f=f ai:=(rfl)
def mJ (x:V):Option V:=(pD (.slice 0)).run x
theorem agy (b:aU) (off n c:Nat):mJ (.slice b off n c)=some (.int .i64 n):=(rfl)
theorem agw (b:aU) (off n c:Nat):mJ (.eu b off n c)=some (.int .i64 n):=(rfl)
theorem agz (b:aU) (off n c:Nat):mJ (.gQ b off n c)=some (.int .i64 0):=(rfl)
theorem agx:mJ .cc=some (.int .i64 0):=(rfl)
def EL (x:V):Option V:=(pD .string).run x
theorem agA (s:List UInt8):EL (.str s)=some (.int .i64 s.length):=(rfl)
def iL (n:Nat) (x i:V):Option V:=(wE n).run x i
theorem Ra (n:Nat) (b:aU) (off len cap:Nat) (k:IntKind) (i:Int):iL n (.slice b off len cap) (.int k i)=if 0<=i/\i<len then some (.ptr b (off+i.toNat * n)) else none:=by simp only [iL,wE,V.e1,ub,pA];by_cases J:0<=i<;>by_cases ad:(len:Int)<=i<;>simp [J,ad]<;>omega
theorem Q_ (n:Nat) (b:aU) (off len cap:Nat) (k:IntKind) (i:Int):iL n (.eu b off len cap) (.int k i)=if 0<=i/\i<len then some (.ptr b (off+i.toNat * n)) else none:=by simp only [iL,wE,V.e1,ub,pA];by_cases J:0<=i<;>by_cases ad:(len:Int)<=i<;>simp [J,ad]<;>omega
def Dz (k:IntKind) (x:V):Option V:=x.e1 none fun _ n=>some (.int k (k.wrap n))
theorem Zf (k bx:IntKind) (n:Int):Dz k (.int bx n)=some (.int k (k.wrap n)):=(rfl)
end
structure jk where
 all:List bs
 asks:List (Nat × List Nat)
 es:List gU
def jg (D:Option jk) (r:bz) (h:ah) (v:V):Option jk:=
 match D with
 | none=>none
 | some d=>some ⟨d.all,d.asks,d.es++[⟨r,h,v⟩]⟩
inductive iE where
 | os (D:Option jk) (os:List bs)
 | c (b:bE)
 | bj (id:Nat)
section
variable (P:Program)
def vm (D:Option jk) (es:List gU) (aA:ah):Prop:=
 match D with
 | none=>True
 | some d=>p2 P d.all (d.es++es) aA d.asks
def bH:List iE->ei->bz->ah->(ei->bz->ah->Prop)->Prop
 | [],e,r,h,Q=>Q e r h
 | .os D os::aQ,e,r,h,Q=>match e with
   | .normal=>mj P os r h fun es bI aa=>vm P D es aa/\bH aQ .normal bI aa Q
   | e=>bH aQ e r h Q
 | .c b::aQ,e,r,h,Q=>match e with
   | .normal=>gK P b r h fun e bI aa=>bH aQ e bI aa Q
   | e=>bH aQ e r h Q
 | .bj id::aQ,e,r,h,Q=>bH aQ (e.leave id) r h Q
def dW (o:Option V) (d:Option Nat) (D:Option jk) (os:List bs) (aQ:List iE) (r:bz) (h:ah) (Q:ei->bz->ah->Prop):Prop:=
 xl o fun v=>bH P (.os (jg D r h v) os::aQ) .normal (r.set d v) h Q
def kF (o:a7) (d:Option Nat) (D:Option jk) (os:List bs) (aQ:List iE) (r:bz) (a1:ah) (Q:ei->bz->ah->Prop):Prop:=
 match o with
 | .val v h=>bH P (.os (jg D r a1 v) os::aQ) .normal (r.set d v) h Q
 | _=>False
def gX (v:V) (want:Bool) (d:Option Nat) (g:G) (rs:List Nat) (D:Option jk) (os:List bs) (aQ:List iE) (r:bz) (h:ah) (Q:ei->bz->ah->Prop):Prop:=
 gate v want (bH P (.os D (⟨d,g,none,rs⟩::os)::aQ) .normal r h Q) (bH P (.os (jg D r h (.tuple [])) os::aQ) .normal (r.set d (.tuple [])) h Q)
def xT (v:V) (a b:bE) (aQ:List iE) (r:bz) (h:ah) (Q:ei->bz->ah->Prop):Prop:=
 match v with
 | .bool t=>(t=true->bH P (.c a::aQ) .normal r h Q)/\(t=false->bH P (.c b::aQ) .normal r h Q)
 | _=>False
def nS (f:FuncId) (args:List V) (d:Option Nat) (D:Option jk) (os:List bs) (aQ:List iE) (r:bz) (h:ah) (Q:ei->bz->ah->Prop):Prop:=
 b' P f args h fun v aa=>bH P (.os (jg D r h v) os::aQ) .normal (r.set d v) aa Q
def Ge (xs:List V) (d:Option Nat) (D:Option jk) (os:List bs) (aQ:List iE) (r:bz) (h:ah) (Q:ei->bz->ah->Prop):Prop:=
 LH P xs h fun v aa=>bH P (.os (jg D r h v) os::aQ) .normal (r.set d v) aa Q
def Hl (g:FuncId) (xs:List V) (d:Option Nat) (D:Option jk) (os:List bs) (aQ:List iE) (r:bz) (h:ah) (Q:ei->bz->ah->Prop):Prop:=
 if g=4294967296 then Ge P xs d D os aQ r h Q else nS P g xs d D os aQ r h Q
def vt (f:V) (args:List V) (d:Option Nat) (D:Option jk) (os:List bs) (aQ:List iE) (r:bz) (h:ah) (Q:ei->bz->ah->Prop):Prop:=
 ∃g xs,f.target args=some (g,xs)/\Hl P g xs d D os aQ r h Q
def EV (b:bE) (aQ:List iE) (r:bz) (h:ah) (Q:ei->bz->ah->Prop):Prop:=gK P (.loop b) r h fun e bI aa=>bH P aQ e bI aa Q
end
section
variable {P:Program} {r:bz} {h:ah} {Q:ei->bz->ah->Prop} {aQ:List iE} {os:List bs} {D:Option jk}
theorem aiG (r:bz) (h:ah) (v:V):jg none r h v=none:=(rfl)
theorem aiH (all:List bs) (asks:List (Nat × List Nat)) (es:List gU) (r:bz) (h:ah) (v:V):jg (some ⟨all,asks,es⟩) r h v=some ⟨all,asks,es++[⟨r,h,v⟩]⟩:=(rfl)
theorem cp {c:bE} (H:bH P [.c c] .normal r h Q):gK P c r h Q:=H
theorem aeK {e:ei}:bH P [] e r h Q=Q e r h:=(rfl)
theorem adY {e:ei} {id:Nat}:bH P (.bj id::aQ) e r h Q=bH P aQ (e.leave id) r h Q:=(rfl)
theorem aeS {a b:bE}:bH P (.c (.seq a b)::aQ) .normal r h Q=bH P (.c a::.c b::aQ) .normal r h Q:=by simp only [bH];rw [Ym];congr 1;funext e bI aa;cases e<;>rfl
theorem adZ {id:Nat} {b:bE}:bH P (.c (.block id b)::aQ) .normal r h Q=bH P (.c b::.bj id::aQ) .normal r h Q:=(rfl)
theorem UU:∀(os:List bs) (r:bz) (h:ah) (K:bz->ah->Prop),mj P os r h (fun _ r h=>K r h)=th P os r h K
 | [],_,_,_=>rfl
 | o::os,r,h,K=>by simp only [mj,th];congr 1;funext bI v aa;exact UU os bI aa K
theorem aeP {ops:List bs}:bH P (.c (.af ops)::aQ) .normal r h Q=bH P (.os none ops::aQ) .normal r h Q:=by simp only [bH,vm,aoJ];rw [UU,Yl]
theorem aeT:bH P (.c .skip::aQ) .normal r h Q=bH P aQ .normal r h Q:=(rfl)
theorem aeQ:bH P (.c .ret::aQ) .normal r h Q=bH P aQ .ret r h Q:=(rfl)
theorem aef {i:Nat}:bH P (.c (.exit i)::aQ) .normal r h Q=bH P aQ (.exit i) r h Q:=(rfl)
theorem ad8 {b:bE}:bH P (.c b::aQ) .ret r h Q=bH P aQ .ret r h Q:=(rfl)
theorem ad5 {b:bE} {i:Nat}:bH P (.c b::aQ) (.exit i) r h Q=bH P aQ (.exit i) r h Q:=(rfl)
theorem ad6 {c:aW} {a b:bE}:bH P (.c (.cond c a b)::aQ) .normal r h Q=xT P (c.aV r) a b aQ r h Q:=by simp only [bH,gK];cases c.aV r<;>rfl
theorem aeA {b:bE}:bH P (.c (.loop b)::aQ) .normal r h Q=EV P b aQ r h Q:=(rfl)
theorem aed {ops:List bs} {asks:List (Nat × List Nat)}:bH P (.c (.draw ops asks)::aQ) .normal r h Q=bH P (.os (some ⟨ops,asks,[]⟩) ops::aQ) .normal r h Q:=(rfl)
theorem aeN:bH P (.os none []::aQ) .normal r h Q=bH P aQ .normal r h Q:=by simp only [bH,mj,vm,aoJ]
theorem aec {all:List bs} {asks:List (Nat × List Nat)} {es:List gU}:bH P (.os (some ⟨all,asks,es⟩) []::aQ) .normal r h Q=(p2 P all es h asks/\bH P aQ .normal r h Q):=by simp only [bH,mj,vm,anC]
theorem xO (D:Option jk) (r:bz) (h:ah) (v:V) (es:List gU) (aA:ah):vm P (jg D r h v) es aA=vm P D (⟨r,h,v⟩::es) aA:=by
 cases D with
 | none=>rfl
 | some d=>simp only [jg,vm,ana,ang,anh]
theorem hR {d:Option Nat} {g:G} {rs:List Nat} (ak:g.py=true):bH P (.os D (⟨d,g,none,rs⟩::os)::aQ) .normal r h Q=dW P (g.mQ P (r.trim rs) h) d D os aQ r h Q:=by simp only [bH,mj,dW];rw [SF ak];simp only [xO]
theorem ie {d:Option Nat} {g:G} {j:Nat} {want:Bool} {rs:List Nat} (ak:g.py=true):bH P (.os D (⟨d,g,some (j,want),rs⟩::os)::aQ) .normal r h Q=
 (gn (r.trim rs j)/\fN (took (r.trim rs j) want) ((g.mQ P (r.trim rs) h).isSome=true)/\
   dW P (some (V.opt (took (r.trim rs j) want) ((g.mQ P (r.trim rs) h).getD .bad))) d D os aQ r h Q):=by
 simp only [bH,mj,dW,xl];rw [SD ak];simp only [xO]
def G.Rm:G->Bool
 | .call .. | .p5 .. =>true
 | _=>false
theorem nA {d:Option Nat} {g:G} {rs:List Nat} (ak:g.py=false) (ao:g.Rm=false):bH P (.os D (⟨d,g,none,rs⟩::os)::aQ) .normal r h Q=kF P (g.run P mb (r.trim rs) h) d D os aQ r h Q:=by
 simp only [bH,mj];rw [SE];have e:∀K:V->ah->Prop,g.wp P (r.trim rs) h K=∃v aa,g.run P mb (r.trim rs) h=.val v aa/\K v aa:=by intro K;cases g<;>first | rfl | (simp [G.Rm] at ao;done)
 rw [e];unfold kF;simp only [bH,xO];cases g.run P mb (r.trim rs) h with
 | fail=>exact propext ⟨fun ⟨v,aa,q,_⟩=>(by cases q),fun q=>q.elim⟩
 | cY v1 J=>exact propext ⟨fun ⟨v,aa,q,_⟩=>(by cases q),fun q=>q.elim⟩
 | val v1 J=>
   apply propext;constructor
   . rintro ⟨v,aa,q,k⟩;simp only [a7.val.injEq] at q;obtain ⟨rfl,rfl⟩:=q;exact k
   . intro k;exact ⟨_,_,rfl,k⟩
theorem l7 {d:Option Nat} {g:G} {j:Nat} {want:Bool} {rs:List Nat} (ak:g.py=false):bH P (.os D (⟨d,g,some (j,want),rs⟩::os)::aQ) .normal r h Q=gX P (r.trim rs j) want d g rs D os aQ r h Q:=by simp only [gX,bH,mj,xO];rw [SC];rfl
theorem Ru {d:Option Nat} {f:FuncId} {args:List aW} {rs:List Nat}:bH P (.os D (⟨d,.call f args,none,rs⟩::os)::aQ) .normal r h Q=nS P f (aW.fv (r.trim rs) args) d D os aQ r h Q:=by simp only [nS,bH,mj,xO];rfl
theorem ad4 {d:Option Nat} {f:aW} {args:List aW} {rs:List Nat}:bH P (.os D (⟨d,.p5 f args,none,rs⟩::os)::aQ) .normal r h Q=vt P (f.aV (r.trim rs)) (aW.fv (r.trim rs) args) d D os aQ r h Q:=by simp only [vt,Hl,Ge,nS,bH,mj,xO];rfl
theorem Om {f:V} {g:FuncId} {xs args:List V} {d:Option Nat} (aA:f.target args=some (g,xs)):vt P f args d D os aQ r h Q=Hl P g xs d D os aQ r h Q:=by
 apply propext;constructor
 . rintro ⟨tH,amQ,q,k⟩;rw [aA] at q;simp only [amW,aoi] at q;obtain ⟨rfl,rfl⟩:=q;exact k
 . intro k;exact ⟨_,_,aA,k⟩
theorem Yt {g:FuncId} {cs args:List V} {d:Option Nat}:vt P (.func g cs) args d D os aQ r h Q=if g=4294967296 then Ge P (args++cs) d D os aQ r h Q else nS P g (args++cs) d D os aQ r h Q:=Om rfl
theorem Hm {g:FuncId} {cs args:List V} {d:Option Nat}:vt P (.kT g cs) args d D os aQ r h Q=if g=4294967296 then Ge P (cs++args) d D os aQ r h Q else nS P g (cs++args) d D os aQ r h Q:=Om rfl
@[congr] theorem amE {o cn:Option V} {d:Option Nat} (e:o=cn):dW P o d D os aQ r h Q=dW P cn d D os aQ r h Q:=by rw [e]
@[congr] theorem amD {o cn:a7} {d:Option Nat} (e:o=cn):kF P o d D os aQ r h Q=kF P cn d D os aQ r h Q:=by rw [e]
@[congr] theorem alF {v cI:V} {a b:bE} (e:v=cI):xT P v a b aQ r h Q=xT P cI a b aQ r h Q:=by rw [e]
@[congr] theorem alQ {v cI:V} {want:Bool} {d:Option Nat} {g:G} {rs:List Nat} (e:v=cI):gX P v want d g rs D os aQ r h Q=gX P cI want d g rs D os aQ r h Q:=by rw [e]
@[congr] theorem alD {f HJ:V} {args Aj:List V} {d:Option Nat} (an:f=HJ) (aN:args=Aj):vt P f args d D os aQ r h Q=vt P HJ Aj d D os aQ r h Q:=by rw [an,aN]
@[congr] theorem alC {f:FuncId} {args Aj:List V} {d:Option Nat} (aN:args=Aj):nS P f args d D os aQ r h Q=nS P f Aj d D os aQ r h Q:=by rw [aN]
@[congr] theorem amM {e dI:ei} {bI:bz} {aa:ah} (dJ:e=dI) (an:r=bI) (aN:h=aa):bH P aQ e r h Q=bH P aQ dI bI aa Q:=by rw [dJ,an,aN]
@[congr] theorem amf {b:bE} {bI:bz} {aa:ah} (an:r=bI) (aN:h=aa):EV P b aQ r h Q=EV P b aQ bI aa Q:=by rw [an,aN]
theorem akf {v:V} {d:Option Nat}:dW P (some v) d D os aQ r h Q=bH P (.os (jg D r h v) os::aQ) .normal (r.set d v) h Q:=(rfl)
theorem aj2 {v:V} {aa:ah} {d:Option Nat}:kF P (.val v aa) d D os aQ r h Q=bH P (.os (jg D r h v) os::aQ) .normal (r.set d v) aa Q:=(rfl)
theorem Ox {t:Bool} {a b:bE}:xT P (.bool t) a b aQ r h Q=((t=true->bH P (.c a::aQ) .normal r h Q)/\(t=false->bH P (.c b::aQ) .normal r h Q)):=(rfl)
theorem PN {b:Bool} {d:Option Nat} {g:G} {rs:List Nat}:gX P (.bool b) true d g rs D os aQ r h Q=((b=true->bH P (.os D (⟨d,g,none,rs⟩::os)::aQ) .normal r h Q)/\(b=false->bH P (.os (jg D r h (.tuple [])) os::aQ) .normal (r.set d (.tuple [])) h Q)):=(rfl)
theorem PM {b:Bool} {d:Option Nat} {g:G} {rs:List Nat}:gX P (.bool b) false d g rs D os aQ r h Q=((b=false->bH P (.os D (⟨d,g,none,rs⟩::os)::aQ) .normal r h Q)/\(b=true->bH P (.os (jg D r h (.tuple [])) os::aQ) .normal (r.set d (.tuple [])) h Q)):=(rfl)
theorem aaF {ai:List V} {want:Bool} {d:Option Nat} {g:G} {rs:List Nat}:gX P (.tuple ai) want d g rs D os aQ r h Q=bH P (.os (jg D r h (.tuple [])) os::aQ) .normal (r.set d (.tuple [])) h Q:=(rfl)
theorem aaz {c b:Bool} {want:Bool} {d:Option Nat} {f:FuncId} {args:List aW} {rs:List Nat} (v:V)
 (bB:(c&&(b == want))=true->ff P f (aW.fv (r.trim rs) args) h v h)
 (H:bH P (.os (jg D r h (V.opt (c&&(b == want)) v)) os::aQ) .normal (r.set d (V.opt (c&&(b == want)) v)) h Q):gX P (V.opt c (.bool b)) want d (.call f args) rs D os aQ r h Q:=by
 unfold gX;rw [Ru];cases c with
 | false=>exact H
 | true=>
   simp only [V.opt,am4,an2] at bB H ⊢;cases b<;>cases want<;>simp only [gate]
   . exact ⟨fun _=>⟨v,h,bB rfl,H⟩,fun e=>by cases e⟩
   . exact ⟨fun e=>(by cases e),fun _=>H⟩
   . exact ⟨fun e=>(by cases e),fun _=>H⟩
   . exact ⟨fun _=>⟨v,h,bB rfl,H⟩,fun e=>by cases e⟩
def uF (v:V) (o:Option ah):a7:=hC v o
theorem aij (v:V) (aa:ah):uF v (some aa)=.val v aa:=(rfl)
def Ma (b:Bool) (o:a7):a7:=bif b then o else .fail
theorem WC (o:a7):Ma true o=o:=(rfl)
def Dn (n:Nat) (h:ah) (o:Option (List V)):a7:=
 match o with
 | some cs=>uF (.slice (aC h.next) 0 n n) (gP h cs)
 | none=>.fail
theorem WD (n:Nat) (cs:List V):Dn n h (some cs)=uF (.slice (aC h.next) 0 n n) (gP h cs):=(rfl)
theorem ajB {n size:Nat} {z:List V} {bD:List (Nat × Nat × aW)}:(G.eP n size z bD).run P mb r h=Dn n h (jP (jh z n) (k_ r bD)):=by
 simp only [G.run];cases jP (jh z n) (k_ r bD) with
 | none=>rfl
 | some cs=>
   simp only [Dn,uF,hC];cases gP h cs<;>rfl
theorem aab (cells:List V):jP cells []=some cells:=(rfl)
theorem Z_ {cells:List V} {off size:Nat} {v:V} {rest:List (Nat × Nat × V)} (J:v.fK=true) (ad:v.cells.length=size) (aD:off+size<=cells.length):
 jP cells ((off,size,v)::rest)=jP (pM cells off v.cells) rest:=by
 simp only [jP];rw [J,show Nat.beq v.cells.length size=true from by rw [anA];exact ad,show Nat.ble (off+v.cells.length) cells.length=true from by rw [ann,ad];exact aD];simp only [anY,am4];congr 1;have hi:∀(ws cs:List V) (o:Nat),o+ws.length<=cs.length->sk cs o ws=jF cs o ws:=by
  intro ws
  induction ws with
  | nil=>intro cs o _;simp [sk,jF]
  | cons w ws bA=>
    intro cs o a8;simp only [am0] at a8;simp only [sk];rw [bA (cs.set o w) (o+1) (by simp;omega),T9 cs o w ws (by omega)]
 rw [hi _ _ _ (by rw [ad];exact aD),F0 _ _ _ (by rw [ad];exact aD)]
def Dq (o:Option (List V)):Option V:=
 match o with
 | some cs=>some (.agg cs)
 | none=>none
theorem WG (cs:List V):Dq (some cs)=some (.agg cs):=(rfl)
theorem ZZ:k_ r []=[]:=(rfl)
theorem ZY {o s:Nat} {x:aW} {bD:List (Nat × Nat × aW)}:k_ r ((o,s,x)::bD)=(o,s,x.aV r)::k_ r bD:=(rfl)
def sa (P:Program) (o:bs) (e:gU) (H:ah):Prop:=o.wp P e.r H fun _ cI _=>cI=e.v
theorem Wd {ops:List bs} {es:List gU} {aA:ah}:p2 P ops es aA []=True:=(rfl)
theorem Wc {ops:List bs} {es:List gU} {aA:ah} {p:Nat} {kh:List Nat} {rest:List (Nat × List Nat)}:p2 P ops es aA ((p,kh)::rest)=(sb P ops[p]? es[p]? es aA kh/\p2 P ops es aA rest):=(rfl)
theorem V_ {o:Option bs} {e:Option gU} {es:List gU} {aA:ah}:sb P o e es aA []=True:=(rfl)
theorem V8 {o:bs} {e:gU} {es:List gU} {aA:ah} {s:Nat} {kh:List Nat}:sb P (some o) (some e) es aA (s::kh)=(sa P o e (yn es aA s)/\sb P (some o) (some e) es aA kh):=(rfl)
def Is (o:Option gU) (aA:ah):ah:=
 match o with
 | some e=>e.h
 | none=>aA
theorem abJ (es:List gU) (aA:ah) (s:Nat):yn es aA s=Is es[s]? aA:=(rfl)
theorem abL (e:gU) (aA:ah):Is (some e) aA=e.h:=(rfl)
theorem abK (aA:ah):Is none aA=aA:=(rfl)
theorem LY {d:Option Nat} {g:G} {rs:List Nat} {e:gU} {H:ah} (ak:g.py=true):sa P ⟨d,g,none,rs⟩ e H=(g.mQ P (e.r.trim rs) H=some e.v):=by
 unfold sa;rw [SF ak];apply propext;cases g.mQ P (e.r.trim rs) H with
 | none=>exact ⟨fun q=>q.elim,fun q=>(by cases q)⟩
 | some v=>exact ⟨fun q=>by rw [show v=e.v from q],fun q=>by cases q;rfl⟩
theorem LX {d:Option Nat} {g:G} {j:Nat} {want:Bool} {rs:List Nat} {e:gU} {H:ah} (ak:g.py=true):sa P ⟨d,g,some (j,want),rs⟩ e H=
 (gn (e.r.trim rs j)/\fN (took (e.r.trim rs j) want) ((g.mQ P (e.r.trim rs) H).isSome=true)/\V.opt (took (e.r.trim rs j) want) ((g.mQ P (e.r.trim rs) H).getD .bad)=e.v):=by
 unfold sa;rw [SD ak]
theorem V9 {d:Option Nat} {x:aW} {rs:List Nat} {e:gU} {H:ah}:sa P ⟨d,.eA x,none,rs⟩ e H=(om H (x.aV (e.r.trim rs))=some e.v):=LY rfl
theorem V' {d:Option Nat} {n:Nat} {x:aW} {rs:List Nat} {e:gU} {H:ah}:sa P ⟨d,.ka n x,none,rs⟩ e H=(oj n H (x.aV (e.r.trim rs))=some e.v):=LY rfl
theorem Wa {d:Option Nat} {x:aW} {j:Nat} {want:Bool} {rs:List Nat} {e:gU} {H:ah}:sa P ⟨d,.eA x,some (j,want),rs⟩ e H=
 (gn (e.r.trim rs j)/\fN (took (e.r.trim rs j) want) ((om H (x.aV (e.r.trim rs))).isSome=true)/\V.opt (took (e.r.trim rs j) want) ((om H (x.aV (e.r.trim rs))).getD .bad)=e.v):=LX rfl
theorem Wb {d:Option Nat} {n:Nat} {x:aW} {j:Nat} {want:Bool} {rs:List Nat} {e:gU} {H:ah}:sa P ⟨d,.ka n x,some (j,want),rs⟩ e H=
 (gn (e.r.trim rs j)/\fN (took (e.r.trim rs j) want) ((oj n H (x.aV (e.r.trim rs))).isSome=true)/\V.opt (took (e.r.trim rs j) want) ((oj n H (x.aV (e.r.trim rs))).getD .bad)=e.v):=LX rfl
end
def FN (x:V) (h:ah):a7:=
 match x with
 | .str s=>.val (.ptr (aC h.next) 0) (h.new (.iter s 0))
 | _=>.fail
theorem ajm (s:List UInt8) (h:ah):FN (.str s) h=.val (.ptr (aC h.next) 0) (h.new (.iter s 0)):=(rfl)
section
variable {P:Program} {r:bz} {h:ah} {Q:ei->bz->ah->Prop} {aQ:List iE} {os:List bs} {D:Option jk} {d:Option Nat} {rs:List Nat}
theorem aeG {x:aW}:bH P (.os D (⟨d,(.bg x),none,rs⟩::os)::aQ) .normal r h Q=dW P (some (x.aV (r.trim rs))) d D os aQ r h Q:=hR rfl
theorem afw {x:aW} {j:Nat} {want:Bool}:bH P (.os D (⟨d,(.bg x),some (j,want),rs⟩::os)::aQ) .normal r h Q=(gn (r.trim rs j)/\fN (took (r.trim rs j) want) ((some (x.aV (r.trim rs))).isSome=true)/\dW P (some (V.opt (took (r.trim rs j) want) ((some (x.aV (r.trim rs))).getD .bad))) d D os aQ r h Q):=ie rfl
theorem aeO {c a b:aW}:bH P (.os D (⟨d,(.pick c a b),none,rs⟩::os)::aQ) .normal r h Q=dW P (Cj (c.aV (r.trim rs)) (a.aV (r.trim rs)) (b.aV (r.trim rs))) d D os aQ r h Q:=hR rfl
theorem afB {c a b:aW} {j:Nat} {want:Bool}:bH P (.os D (⟨d,(.pick c a b),some (j,want),rs⟩::os)::aQ) .normal r h Q=(gn (r.trim rs j)/\fN (took (r.trim rs j) want) ((Cj (c.aV (r.trim rs)) (a.aV (r.trim rs)) (b.aV (r.trim rs))).isSome=true)/\dW P (some (V.opt (took (r.trim rs j) want) ((Cj (c.aV (r.trim rs)) (a.aV (r.trim rs)) (b.aV (r.trim rs))).getD .bad))) d D os aQ r h Q):=ie rfl
theorem ad3 {z:List V} {bD:List (Nat × Nat × aW)}:bH P (.os D (⟨d,(.build z bD),none,rs⟩::os)::aQ) .normal r h Q=dW P (Dq (jP z (k_ (r.trim rs) bD))) d D os aQ r h Q:=hR rfl
theorem ae6 {z:List V} {bD:List (Nat × Nat × aW)} {j:Nat} {want:Bool}:bH P (.os D (⟨d,(.build z bD),some (j,want),rs⟩::os)::aQ) .normal r h Q=(gn (r.trim rs j)/\fN (took (r.trim rs j) want) ((Dq (jP z (k_ (r.trim rs) bD))).isSome=true)/\dW P (some (V.opt (took (r.trim rs j) want) ((Dq (jP z (k_ (r.trim rs) bD))).getD .bad))) d D os aQ r h Q):=ie rfl
theorem aes {x:aW}:bH P (.os D (⟨d,(.eA x),none,rs⟩::os)::aQ) .normal r h Q=dW P (om h (x.aV (r.trim rs))) d D os aQ r h Q:=hR rfl
theorem afm {x:aW} {j:Nat} {want:Bool}:bH P (.os D (⟨d,(.eA x),some (j,want),rs⟩::os)::aQ) .normal r h Q=(gn (r.trim rs j)/\fN (took (r.trim rs j) want) ((om h (x.aV (r.trim rs))).isSome=true)/\dW P (some (V.opt (took (r.trim rs j) want) ((om h (x.aV (r.trim rs))).getD .bad))) d D os aQ r h Q):=ie rfl
theorem aet {n:Nat} {x:aW}:bH P (.os D (⟨d,(.ka n x),none,rs⟩::os)::aQ) .normal r h Q=dW P (oj n h (x.aV (r.trim rs))) d D os aQ r h Q:=hR rfl
theorem afn {n:Nat} {x:aW} {j:Nat} {want:Bool}:bH P (.os D (⟨d,(.ka n x),some (j,want),rs⟩::os)::aQ) .normal r h Q=(gn (r.trim rs j)/\fN (took (r.trim rs j) want) ((oj n h (x.aV (r.trim rs))).isSome=true)/\dW P (some (V.opt (took (r.trim rs j) want) ((oj n h (x.aV (r.trim rs))).getD .bad))) d D os aQ r h Q):=ie rfl
theorem aeL {x:aW}:bH P (.os D (⟨d,(.uD x),none,rs⟩::os)::aQ) .normal r h Q=dW P (uC (x.aV (r.trim rs))) d D os aQ r h Q:=hR rfl
theorem afz {x:aW} {j:Nat} {want:Bool}:bH P (.os D (⟨d,(.uD x),some (j,want),rs⟩::os)::aQ) .normal r h Q=(gn (r.trim rs j)/\fN (took (r.trim rs j) want) ((uC (x.aV (r.trim rs))).isSome=true)/\dW P (some (V.opt (took (r.trim rs j) want) ((uC (x.aV (r.trim rs))).getD .bad))) d D os aQ r h Q):=ie rfl
theorem adX {k:en} {x y:aW}:bH P (.os D (⟨d,(.bin k x y),none,rs⟩::os)::aQ) .normal r h Q=dW P (k.run P (x.aV (r.trim rs)) (y.aV (r.trim rs))) d D os aQ r h Q:=hR rfl
theorem ae3 {k:en} {x y:aW} {j:Nat} {want:Bool}:bH P (.os D (⟨d,(.bin k x y),some (j,want),rs⟩::os)::aQ) .normal r h Q=(gn (r.trim rs j)/\fN (took (r.trim rs j) want) ((k.run P (x.aV (r.trim rs)) (y.aV (r.trim rs))).isSome=true)/\dW P (some (V.opt (took (r.trim rs j) want) ((k.run P (x.aV (r.trim rs)) (y.aV (r.trim rs))).getD .bad))) d D os aQ r h Q):=ie rfl
theorem aeY {o:UnOp} {x:aW}:bH P (.os D (⟨d,(.un o x),none,rs⟩::os)::aQ) .normal r h Q=dW P (r0 o (x.aV (r.trim rs))) d D os aQ r h Q:=hR rfl
theorem afG {o:UnOp} {x:aW} {j:Nat} {want:Bool}:bH P (.os D (⟨d,(.un o x),some (j,want),rs⟩::os)::aQ) .normal r h Q=(gn (r.trim rs j)/\fN (took (r.trim rs j) want) ((r0 o (x.aV (r.trim rs))).isSome=true)/\dW P (some (V.opt (took (r.trim rs j) want) ((r0 o (x.aV (r.trim rs))).getD .bad))) d D os aQ r h Q):=ie rfl
theorem aeb {f:aW} {args:List aW}:bH P (.os D (⟨d,(.gj f args),none,rs⟩::os)::aQ) .normal r h Q=dW P (AF (f.aV (r.trim rs)) (aW.fv (r.trim rs) args) (r.trim rs eh)) d D os aQ r h Q:=hR rfl
theorem aek {f:FuncId} {cs:List aW}:bH P (.os D (⟨d,(.fn f cs),none,rs⟩::os)::aQ) .normal r h Q=dW P (some (V.func f (aW.fv (r.trim rs) cs))) d D os aQ r h Q:=hR rfl
theorem afg {f:FuncId} {cs:List aW} {j:Nat} {want:Bool}:bH P (.os D (⟨d,(.fn f cs),some (j,want),rs⟩::os)::aQ) .normal r h Q=(gn (r.trim rs j)/\fN (took (r.trim rs j) want) ((some (V.func f (aW.fv (r.trim rs) cs))).isSome=true)/\dW P (some (V.opt (took (r.trim rs j) want) ((some (V.func f (aW.fv (r.trim rs) cs))).getD .bad))) d D os aQ r h Q):=ie rfl
theorem sQ {f:FuncId} {cs:List aW}:bH P (.os D (⟨d,(.uz f cs),none,rs⟩::os)::aQ) .normal r h Q=dW P (some (V.kT f (aW.fv (r.trim rs) cs))) d D os aQ r h Q:=hR rfl
theorem aep {t:TypeId} {x:aW}:bH P (.os D (⟨d,(.sL t x),none,rs⟩::os)::aQ) .normal r h Q=dW P (some (V.iface t (x.aV (r.trim rs)))) d D os aQ r h Q:=hR rfl
theorem afj {t:TypeId} {x:aW} {j:Nat} {want:Bool}:bH P (.os D (⟨d,(.sL t x),some (j,want),rs⟩::os)::aQ) .normal r h Q=(gn (r.trim rs j)/\fN (took (r.trim rs j) want) ((some (V.iface t (x.aV (r.trim rs)))).isSome=true)/\dW P (some (V.opt (took (r.trim rs j) want) ((some (V.iface t (x.aV (r.trim rs)))).getD .bad))) d D os aQ r h Q):=ie rfl
theorem aeV {x:aW} {bO au m3:Option aW}:bH P (.os D (⟨d,(.qN x bO au m3),none,rs⟩::os)::aQ) .normal r h Q=dW P (mR (x.aV (r.trim rs)) (aW.opt (r.trim rs) bO) (aW.opt (r.trim rs) au) (aW.opt (r.trim rs) m3)) d D os aQ r h Q:=hR rfl
theorem afE {x:aW} {bO au m3:Option aW} {j:Nat} {want:Bool}:bH P (.os D (⟨d,(.qN x bO au m3),some (j,want),rs⟩::os)::aQ) .normal r h Q=(gn (r.trim rs j)/\fN (took (r.trim rs j) want) ((mR (x.aV (r.trim rs)) (aW.opt (r.trim rs) bO) (aW.opt (r.trim rs) au) (aW.opt (r.trim rs) m3)).isSome=true)/\dW P (some (V.opt (took (r.trim rs j) want) ((mR (x.aV (r.trim rs)) (aW.opt (r.trim rs) bO) (aW.opt (r.trim rs) au) (aW.opt (r.trim rs) m3)).getD .bad))) d D os aQ r h Q):=ie rfl
theorem aeU {n:Nat} {x:aW} {bO au m3:Option aW}:bH P (.os D (⟨d,(.ek n x bO au m3),none,rs⟩::os)::aQ) .normal r h Q=dW P (gJ n (x.aV (r.trim rs)) (aW.opt (r.trim rs) bO) (aW.opt (r.trim rs) au) (aW.opt (r.trim rs) m3)) d D os aQ r h Q:=hR rfl
theorem afD {n:Nat} {x:aW} {bO au m3:Option aW} {j:Nat} {want:Bool}:bH P (.os D (⟨d,(.ek n x bO au m3),some (j,want),rs⟩::os)::aQ) .normal r h Q=(gn (r.trim rs j)/\fN (took (r.trim rs j) want) ((gJ n (x.aV (r.trim rs)) (aW.opt (r.trim rs) bO) (aW.opt (r.trim rs) au) (aW.opt (r.trim rs) m3)).isSome=true)/\dW P (some (V.opt (took (r.trim rs j) want) ((gJ n (x.aV (r.trim rs)) (aW.opt (r.trim rs) bO) (aW.opt (r.trim rs) au) (aW.opt (r.trim rs) m3)).getD .bad))) d D os aQ r h Q):=ie rfl
theorem aeh {o:Nat} {x:aW}:bH P (.os D (⟨d,(.hi o x),none,rs⟩::os)::aQ) .normal r h Q=dW P (DM o (x.aV (r.trim rs))) d D os aQ r h Q:=hR rfl
theorem afd {o:Nat} {x:aW} {j:Nat} {want:Bool}:bH P (.os D (⟨d,(.hi o x),some (j,want),rs⟩::os)::aQ) .normal r h Q=(gn (r.trim rs j)/\fN (took (r.trim rs j) want) ((DM o (x.aV (r.trim rs))).isSome=true)/\dW P (some (V.opt (took (r.trim rs j) want) ((DM o (x.aV (r.trim rs))).getD .bad))) d D os aQ r h Q):=ie rfl
theorem aei {o:Nat} {x:aW}:bH P (.os D (⟨d,(.vI o x),none,rs⟩::os)::aQ) .normal r h Q=dW P ((x.aV (r.trim rs)).sY none fun cs=>cs[o]?) d D os aQ r h Q:=hR rfl
theorem afe {o:Nat} {x:aW} {j:Nat} {want:Bool}:bH P (.os D (⟨d,(.vI o x),some (j,want),rs⟩::os)::aQ) .normal r h Q=(gn (r.trim rs j)/\fN (took (r.trim rs j) want) (((x.aV (r.trim rs)).sY none fun cs=>cs[o]?).isSome=true)/\dW P (some (V.opt (took (r.trim rs j) want) (((x.aV (r.trim rs)).sY none fun cs=>cs[o]?).getD .bad))) d D os aQ r h Q):=ie rfl
theorem aej {o n:Nat} {x:aW}:bH P (.os D (⟨d,(.vJ o n x),none,rs⟩::os)::aQ) .normal r h Q=dW P ((x.aV (r.trim rs)).sY none fun cs=>some (V.agg ((cs.drop o).take n))) d D os aQ r h Q:=hR rfl
theorem aff {o n:Nat} {x:aW} {j:Nat} {want:Bool}:bH P (.os D (⟨d,(.vJ o n x),some (j,want),rs⟩::os)::aQ) .normal r h Q=(gn (r.trim rs j)/\fN (took (r.trim rs j) want) (((x.aV (r.trim rs)).sY none fun cs=>some (V.agg ((cs.drop o).take n))).isSome=true)/\dW P (some (V.opt (took (r.trim rs j) want) (((x.aV (r.trim rs)).sY none fun cs=>some (V.agg ((cs.drop o).take n))).getD .bad))) d D os aQ r h Q):=ie rfl
theorem aen {n:Nat} {x i:aW}:bH P (.os D (⟨d,(.dG n x i),none,rs⟩::os)::aQ) .normal r h Q=dW P (iL n (x.aV (r.trim rs)) (i.aV (r.trim rs))) d D os aQ r h Q:=hR rfl
theorem afh {n:Nat} {x i:aW} {j:Nat} {want:Bool}:bH P (.os D (⟨d,(.dG n x i),some (j,want),rs⟩::os)::aQ) .normal r h Q=(gn (r.trim rs j)/\fN (took (r.trim rs j) want) ((iL n (x.aV (r.trim rs)) (i.aV (r.trim rs))).isSome=true)/\dW P (some (V.opt (took (r.trim rs j) want) ((iL n (x.aV (r.trim rs)) (i.aV (r.trim rs))).getD .bad))) d D os aQ r h Q):=ie rfl
theorem aeo {m n:Nat} {x i:aW}:bH P (.os D (⟨d,(.t' m n x i),none,rs⟩::os)::aQ) .normal r h Q=dW P ((sN m n).run (x.aV (r.trim rs)) (i.aV (r.trim rs))) d D os aQ r h Q:=hR rfl
theorem afi {m n:Nat} {x i:aW} {j:Nat} {want:Bool}:bH P (.os D (⟨d,(.t' m n x i),some (j,want),rs⟩::os)::aQ) .normal r h Q=(gn (r.trim rs j)/\fN (took (r.trim rs j) want) (((sN m n).run (x.aV (r.trim rs)) (i.aV (r.trim rs))).isSome=true)/\dW P (some (V.opt (took (r.trim rs j) want) (((sN m n).run (x.aV (r.trim rs)) (i.aV (r.trim rs))).getD .bad))) d D os aQ r h Q):=ie rfl
theorem aer {x i:aW}:bH P (.os D (⟨d,(.oe x i),none,rs⟩::os)::aQ) .normal r h Q=dW P (sP.run (x.aV (r.trim rs)) (i.aV (r.trim rs))) d D os aQ r h Q:=hR rfl
theorem afl {x i:aW} {j:Nat} {want:Bool}:bH P (.os D (⟨d,(.oe x i),some (j,want),rs⟩::os)::aQ) .normal r h Q=(gn (r.trim rs j)/\fN (took (r.trim rs j) want) ((sP.run (x.aV (r.trim rs)) (i.aV (r.trim rs))).isSome=true)/\dW P (some (V.opt (took (r.trim rs j) want) ((sP.run (x.aV (r.trim rs)) (i.aV (r.trim rs))).getD .bad))) d D os aQ r h Q):=ie rfl
theorem aeq {t:TypeId} {x i:aW}:bH P (.os D (⟨d,(.ky t x i),none,rs⟩::os)::aQ) .normal r h Q=dW P ((sO P t).run (x.aV (r.trim rs)) (i.aV (r.trim rs))) d D os aQ r h Q:=hR rfl
theorem afk {t:TypeId} {x i:aW} {j:Nat} {want:Bool}:bH P (.os D (⟨d,(.ky t x i),some (j,want),rs⟩::os)::aQ) .normal r h Q=(gn (r.trim rs j)/\fN (took (r.trim rs j) want) (((sO P t).run (x.aV (r.trim rs)) (i.aV (r.trim rs))).isSome=true)/\dW P (some (V.opt (took (r.trim rs j) want) (((sO P t).run (x.aV (r.trim rs)) (i.aV (r.trim rs))).getD .bad))) d D os aQ r h Q):=ie rfl
theorem aez {k:nL} {z:V} {ok:Bool} {x i:aW}:bH P (.os D (⟨d,(.look k z ok x i),none,rs⟩::os)::aQ) .normal r h Q=dW P (kA k.eq z ok h (x.aV (r.trim rs)) (i.aV (r.trim rs))) d D os aQ r h Q:=hR rfl
theorem afs {k:nL} {z:V} {ok:Bool} {x i:aW} {j:Nat} {want:Bool}:bH P (.os D (⟨d,(.look k z ok x i),some (j,want),rs⟩::os)::aQ) .normal r h Q=(gn (r.trim rs j)/\fN (took (r.trim rs j) want) ((kA k.eq z ok h (x.aV (r.trim rs)) (i.aV (r.trim rs))).isSome=true)/\dW P (some (V.opt (took (r.trim rs j) want) ((kA k.eq z ok h (x.aV (r.trim rs)) (i.aV (r.trim rs))).getD .bad))) d D os aQ r h Q):=ie rfl
theorem aeg {x:aW} {i:Nat}:bH P (.os D (⟨d,(.ext x i),none,rs⟩::os)::aQ) .normal r h Q=dW P ((x.aV (r.trim rs)).B_ none fun ai=>ai[i]?) d D os aQ r h Q:=hR rfl
theorem afc {x:aW} {i:Nat} {j:Nat} {want:Bool}:bH P (.os D (⟨d,(.ext x i),some (j,want),rs⟩::os)::aQ) .normal r h Q=(gn (r.trim rs j)/\fN (took (r.trim rs j) want) (((x.aV (r.trim rs)).B_ none fun ai=>ai[i]?).isSome=true)/\dW P (some (V.opt (took (r.trim rs j) want) (((x.aV (r.trim rs)).B_ none fun ai=>ai[i]?).getD .bad))) d D os aQ r h Q):=ie rfl
theorem aeE {args:List aW}:bH P (.os D (⟨d,(.y8 args),none,rs⟩::os)::aQ) .normal r h Q=dW P (lG (fun b a=>!Int.leB a b) (aW.fv (r.trim rs) args)) d D os aQ r h Q:=hR rfl
theorem afv {args:List aW} {j:Nat} {want:Bool}:bH P (.os D (⟨d,(.y8 args),some (j,want),rs⟩::os)::aQ) .normal r h Q=(gn (r.trim rs j)/\fN (took (r.trim rs j) want) ((lG (fun b a=>!Int.leB a b) (aW.fv (r.trim rs) args)).isSome=true)/\dW P (some (V.opt (took (r.trim rs j) want) ((lG (fun b a=>!Int.leB a b) (aW.fv (r.trim rs) args)).getD .bad))) d D os aQ r h Q):=ie rfl
theorem aeH {args:List aW}:bH P (.os D (⟨d,(.eT args),none,rs⟩::os)::aQ) .normal r h Q=dW P (lG (fun b a=>!Int.leB b a) (aW.fv (r.trim rs) args)) d D os aQ r h Q:=hR rfl
theorem afx {args:List aW} {j:Nat} {want:Bool}:bH P (.os D (⟨d,(.eT args),some (j,want),rs⟩::os)::aQ) .normal r h Q=(gn (r.trim rs j)/\fN (took (r.trim rs j) want) ((lG (fun b a=>!Int.leB b a) (aW.fv (r.trim rs) args)).isSome=true)/\dW P (some (V.opt (took (r.trim rs j) want) ((lG (fun b a=>!Int.leB b a) (aW.fv (r.trim rs) args)).getD .bad))) d D os aQ r h Q):=ie rfl
theorem ad' {k:IntKind} {x:aW}:bH P (.os D (⟨d,(.im (.int k) x),none,rs⟩::os)::aQ) .normal r h Q=dW P (Dz k (x.aV (r.trim rs))) d D os aQ r h Q:=hR rfl
theorem ae_ {k:IntKind} {x:aW} {j:Nat} {want:Bool}:bH P (.os D (⟨d,(.im (.int k) x),some (j,want),rs⟩::os)::aQ) .normal r h Q=(gn (r.trim rs j)/\fN (took (r.trim rs j) want) ((Dz k (x.aV (r.trim rs))).isSome=true)/\dW P (some (V.opt (took (r.trim rs j) want) ((Dz k (x.aV (r.trim rs))).getD .bad))) d D os aQ r h Q):=ie rfl
theorem aew {x:aW}:bH P (.os D (⟨d,(.len .slice x),none,rs⟩::os)::aQ) .normal r h Q=dW P (mJ (x.aV (r.trim rs))) d D os aQ r h Q:=hR rfl
theorem afq {x:aW} {j:Nat} {want:Bool}:bH P (.os D (⟨d,(.len .slice x),some (j,want),rs⟩::os)::aQ) .normal r h Q=(gn (r.trim rs j)/\fN (took (r.trim rs j) want) ((mJ (x.aV (r.trim rs))).isSome=true)/\dW P (some (V.opt (took (r.trim rs j) want) ((mJ (x.aV (r.trim rs))).getD .bad))) d D os aQ r h Q):=ie rfl
theorem aex {x:aW}:bH P (.os D (⟨d,(.len .str x),none,rs⟩::os)::aQ) .normal r h Q=dW P (EL (x.aV (r.trim rs))) d D os aQ r h Q:=hR rfl
theorem afr {x:aW} {j:Nat} {want:Bool}:bH P (.os D (⟨d,(.len .str x),some (j,want),rs⟩::os)::aQ) .normal r h Q=(gn (r.trim rs j)/\fN (took (r.trim rs j) want) ((EL (x.aV (r.trim rs))).isSome=true)/\dW P (some (V.opt (took (r.trim rs j) want) ((EL (x.aV (r.trim rs))).getD .bad))) d D os aQ r h Q):=ie rfl
theorem aeu {n:Nat} {x:aW}:bH P (.os D (⟨d,(.len (.arr n) x),none,rs⟩::os)::aQ) .normal r h Q=dW P (some (V.int .i64 n)) d D os aQ r h Q:=hR rfl
theorem afo {n:Nat} {x:aW} {j:Nat} {want:Bool}:bH P (.os D (⟨d,(.len (.arr n) x),some (j,want),rs⟩::os)::aQ) .normal r h Q=(gn (r.trim rs j)/\fN (took (r.trim rs j) want) ((some (V.int .i64 n)).isSome=true)/\dW P (some (V.opt (took (r.trim rs j) want) ((some (V.int .i64 n)).getD .bad))) d D os aQ r h Q):=ie rfl
theorem aeJ {z:List V}:bH P (.os D (⟨d,(.new z),none,rs⟩::os)::aQ) .normal r h Q=kF P (uF (.ptr (aC h.next) 0) (gP h z)) d D os aQ r h Q:=nA rfl rfl
theorem afy {z:List V} {j:Nat} {want:Bool}:bH P (.os D (⟨d,(.new z),some (j,want),rs⟩::os)::aQ) .normal r h Q=gX P (r.trim rs j) want d (.new z) rs D os aQ r h Q:=l7 rfl
theorem ad1 {x:aW}:bH P (.os D (⟨d,(.box x),none,rs⟩::os)::aQ) .normal r h Q=kF P (Ma (x.aV (r.trim rs)).fK (uF (.ptr (aC h.next) 0) (gP h (x.aV (r.trim rs)).cells))) d D os aQ r h Q:=nA rfl rfl
theorem ae4 {x:aW} {j:Nat} {want:Bool}:bH P (.os D (⟨d,(.box x),some (j,want),rs⟩::os)::aQ) .normal r h Q=gX P (r.trim rs j) want d (.box x) rs D os aQ r h Q:=l7 rfl
theorem ad2 {n m:Nat} {z:List V} {bD:List (Nat × Nat × aW)}:bH P (.os D (⟨d,(.eP n m z bD),none,rs⟩::os)::aQ) .normal r h Q=kF P (Dn n h (jP (jh z n) (k_ (r.trim rs) bD))) d D os aQ r h Q:=by rw [nA rfl rfl,ajB]
theorem ae5 {n m:Nat} {z:List V} {bD:List (Nat × Nat × aW)} {j:Nat} {want:Bool}:bH P (.os D (⟨d,(.eP n m z bD),some (j,want),rs⟩::os)::aQ) .normal r h Q=gX P (r.trim rs j) want d (.eP n m z bD) rs D os aQ r h Q:=l7 rfl
theorem aeW {n:Nat} {x y:aW}:bH P (.os D (⟨d,(.st n x y),none,rs⟩::os)::aQ) .normal r h Q=kF P (uF .bad (xd n h (x.aV (r.trim rs)) (y.aV (r.trim rs)))) d D os aQ r h Q:=nA rfl rfl
theorem afF {n:Nat} {x y:aW} {j:Nat} {want:Bool}:bH P (.os D (⟨d,(.st n x y),some (j,want),rs⟩::os)::aQ) .normal r h Q=gX P (r.trim rs j) want d (.st n x y) rs D os aQ r h Q:=l7 rfl
theorem aeD {n:Nat} {z:List V} {l c:aW}:bH P (.os D (⟨d,(.y7 n z l c),none,rs⟩::os)::aQ) .normal r h Q=kF P (ux n z (l.aV (r.trim rs)) (c.aV (r.trim rs)) h) d D os aQ r h Q:=nA rfl rfl
theorem afu {n:Nat} {z:List V} {l c:aW} {j:Nat} {want:Bool}:bH P (.os D (⟨d,(.y7 n z l c),some (j,want),rs⟩::os)::aQ) .normal r h Q=gX P (r.trim rs j) want d (.y7 n z l c) rs D os aQ r h Q:=l7 rfl
theorem aeZ {k:nL} {m i x:aW}:bH P (.os D (⟨d,(.CB k m i x),none,rs⟩::os)::aQ) .normal r h Q=kF P (uF .bad (pS k.eq h (m.aV (r.trim rs)) (i.aV (r.trim rs)) (x.aV (r.trim rs)))) d D os aQ r h Q:=nA rfl rfl
theorem afH {k:nL} {m i x:aW} {j:Nat} {want:Bool}:bH P (.os D (⟨d,(.CB k m i x),some (j,want),rs⟩::os)::aQ) .normal r h Q=gX P (r.trim rs j) want d (.CB k m i x) rs D os aQ r h Q:=l7 rfl
theorem aeC {x:Option aW}:bH P (.os D (⟨d,(.B0 x),none,rs⟩::os)::aQ) .normal r h Q=kF P (wS (aW.opt (r.trim rs) x) h) d D os aQ r h Q:=nA rfl rfl
theorem aft {x:Option aW} {j:Nat} {want:Bool}:bH P (.os D (⟨d,(.B0 x),some (j,want),rs⟩::os)::aQ) .normal r h Q=gX P (r.trim rs j) want d (.B0 x) rs D os aQ r h Q:=l7 rfl
theorem aeR {x:aW}:bH P (.os D (⟨d,(.zp x),none,rs⟩::os)::aQ) .normal r h Q=kF P (FN (x.aV (r.trim rs)) h) d D os aQ r h Q:=(nA rfl rfl).trans (by first | rfl | (unfold FN;simp only [G.run];cases x.aV (r.trim rs)<;>rfl) | (unfold FN;cases x.aV (r.trim rs)<;>rfl))
theorem afC {x:aW} {j:Nat} {want:Bool}:bH P (.os D (⟨d,(.zp x),some (j,want),rs⟩::os)::aQ) .normal r h Q=gX P (r.trim rs j) want d (.zp x) rs D os aQ r h Q:=l7 rfl
theorem aeM {x:aW}:bH P (.os D (⟨d,(.zb x),none,rs⟩::os)::aQ) .normal r h Q=kF P (wX (x.aV (r.trim rs)) h) d D os aQ r h Q:=nA rfl rfl
theorem afA {x:aW} {j:Nat} {want:Bool}:bH P (.os D (⟨d,(.zb x),some (j,want),rs⟩::os)::aQ) .normal r h Q=gX P (r.trim rs j) want d (.zb x) rs D os aQ r h Q:=l7 rfl
theorem adV {n:Nat} {s x:aW}:bH P (.os D (⟨d,(.app n s x),none,rs⟩::os)::aQ) .normal r h Q=kF P (iY n (s.aV (r.trim rs)) (x.aV (r.trim rs)) h) d D os aQ r h Q:=nA rfl rfl
theorem ae2 {n:Nat} {s x:aW} {j:Nat} {want:Bool}:bH P (.os D (⟨d,(.app n s x),some (j,want),rs⟩::os)::aQ) .normal r h Q=gX P (r.trim rs j) want d (.app n s x) rs D os aQ r h Q:=l7 rfl
theorem ad7 {n:Nat} {ng s:aW}:bH P (.os D (⟨d,(.copy n ng s),none,rs⟩::os)::aQ) .normal r h Q=kF P (copyV n (ng.aV (r.trim rs)) (s.aV (r.trim rs)) h) d D os aQ r h Q:=nA rfl rfl
theorem ae9 {n:Nat} {ng s:aW} {j:Nat} {want:Bool}:bH P (.os D (⟨d,(.copy n ng s),some (j,want),rs⟩::os)::aQ) .normal r h Q=gX P (r.trim rs j) want d (.copy n ng s) rs D os aQ r h Q:=l7 rfl
theorem aev {x:aW}:bH P (.os D (⟨d,(.len .map x),none,rs⟩::os)::aQ) .normal r h Q=kF P (BQ [x.aV (r.trim rs)] h) d D os aQ r h Q:=nA rfl rfl
theorem afp {x:aW} {j:Nat} {want:Bool}:bH P (.os D (⟨d,(.len .map x),some (j,want),rs⟩::os)::aQ) .normal r h Q=gX P (r.trim rs j) want d (.len .map x) rs D os aQ r h Q:=l7 rfl
theorem ad9 {x:aW}:bH P (.os D (⟨d,(.im .bytes x),none,rs⟩::os)::aQ) .normal r h Q=kF P (vu.run (x.aV (r.trim rs)) h) d D os aQ r h Q:=nA rfl rfl
theorem ae' {x:aW} {j:Nat} {want:Bool}:bH P (.os D (⟨d,(.im .bytes x),some (j,want),rs⟩::os)::aQ) .normal r h Q=gX P (r.trim rs j) want d (.im .bytes x) rs D os aQ r h Q:=l7 rfl
theorem aea {x:aW}:bH P (.os D (⟨d,(.im .str x),none,rs⟩::os)::aQ) .normal r h Q=kF P (tE.run (x.aV (r.trim rs)) h) d D os aQ r h Q:=nA rfl rfl
theorem afb {x:aW} {j:Nat} {want:Bool}:bH P (.os D (⟨d,(.im .str x),some (j,want),rs⟩::os)::aQ) .normal r h Q=gX P (r.trim rs j) want d (.im .str x) rs D os aQ r h Q:=l7 rfl
theorem ad_ {s ng:TypeId} {x:aW}:bH P (.os D (⟨d,(.im (.other s ng) x),none,rs⟩::os)::aQ) .normal r h Q=kF P ((q6 P s ng).run (x.aV (r.trim rs)) h) d D os aQ r h Q:=nA rfl rfl
theorem afa {s ng:TypeId} {x:aW} {j:Nat} {want:Bool}:bH P (.os D (⟨d,(.im (.other s ng) x),some (j,want),rs⟩::os)::aQ) .normal r h Q=gX P (r.trim rs j) want d (.im (.other s ng) x) rs D os aQ r h Q:=l7 rfl
theorem ae7 {f:FuncId} {args:List aW} {j:Nat} {want:Bool}:bH P (.os D (⟨d,(.call f args),some (j,want),rs⟩::os)::aQ) .normal r h Q=gX P (r.trim rs j) want d (.call f args) rs D os aQ r h Q:=l7 rfl
theorem ae8 {f:aW} {args:List aW} {j:Nat} {want:Bool}:bH P (.os D (⟨d,(.p5 f args),some (j,want),rs⟩::os)::aQ) .normal r h Q=gX P (r.trim rs j) want d (.p5 f args) rs D os aQ r h Q:=l7 rfl
end
theorem ahl (h:ah) (ai:List V):gP h ai=if ai.length<=top then some (h.new (.a_ ai 0 false)) else none:=by
 by_cases ax:ai.length<=top
 . rw [anb ax,Su ax]
 . rw [am7 ax];unfold gP;rw [show Nat.ble ai.length top=false from by rw [<-Bool.not_eq_true,ann];exact ax];rfl
theorem aga (h:ah) (n:Nat) (b:aU) (off:Nat) (y:V) (ai:List V) (cT:Nat) (st:Bool):
 BM n h b off y (.a_ ai cT st)=if y.cells.length=n/\fq y.cells=true/\off+n<=ai.length then some (h.set b (.a_ (pM ai off y.cells) cT st)) else none:=by
 by_cases ao:y.cells.length=n/\fq y.cells=true/\off+n<=ai.length
 . rw [anb ao,agc ao.1 ao.2.1 ao.2.2]
 . rw [am7 ao];unfold BM;by_cases J:y.cells.length=n
   . rw [show Nat.beq y.cells.length n=true from by rw [anA];exact J];simp only [am4,cm.a_,cm.on];by_cases ad:fq y.cells=true
     . have aD:¬off+y.cells.length<=ai.length:=fun q=>ao ⟨J,ad,by omega⟩;rw [show Nat.ble (off+y.cells.length) ai.length=false from by rw [<-Bool.not_eq_true,ann];exact aD];rfl
     . rw [show fq y.cells=false from by simpa using ad,aob];rfl
   . rw [show Nat.beq y.cells.length n=false from by rw [<-Bool.not_eq_true,anA];exact J];rfl
theorem aaa (cells:List V) (off size:Nat) (v:V) (rest:List (Nat × Nat × V)):
 jP cells ((off,size,v)::rest)=if v.fK=true/\v.cells.length=size/\off+size<=cells.length then jP (pM cells off v.cells) rest else none:=by
 by_cases ao:v.fK=true/\v.cells.length=size/\off+size<=cells.length
 . rw [anb ao,Z_ ao.1 ao.2.1 ao.2.2]
 . rw [am7 ao];simp only [jP];cases aj:(v.fK&&(Nat.beq v.cells.length size&&Nat.ble (off+v.cells.length) cells.length)) with
   | false=>rfl
   | true=>
     simp only [amX,anA,ann] at aj;exact absurd ⟨aj.1,aj.2.1,by omega⟩ ao
theorem Yx (b:Bool):V.cells (.bool b:V)=[.bool b]:=rfl
theorem ahV (b:Bool):V.one (.bool b:V)=true:=rfl
theorem aaJ (b:Bool):V.fK (.bool b:V)=true:=rfl
theorem YB (k:IntKind) (n:Int):V.cells (.int k n:V)=[.int k n]:=rfl
theorem SS (k:IntKind) (n:Int):V.one (.int k n:V)=true:=rfl
theorem aaN (k:IntKind) (n:Int):V.fK (.int k n:V)=true:=rfl
theorem YL (s:List UInt8):V.cells (.str s:V)=[.str s]:=rfl
theorem ah7 (s:List UInt8):V.one (.str s:V)=true:=rfl
theorem aaW (s:List UInt8):V.fK (.str s:V)=true:=rfl
theorem YG:V.cells (.ma:V)=[.ma]:=rfl
theorem ah3:V.one (.ma:V)=true:=rfl
theorem aaS:V.fK (.ma:V)=true:=rfl
theorem YI (b:aU) (o:Nat):V.cells (.ptr b o:V)=[.ptr b o]:=rfl
theorem ah5 (b:aU) (o:Nat):V.one (.ptr b o:V)=true:=rfl
theorem aaU (b:aU) (o:Nat):V.fK (.ptr b o:V)=true:=rfl
theorem YK (b:aU) (o l c:Nat):V.cells (.slice b o l c:V)=[.slice b o l c]:=rfl
theorem ah6 (b:aU) (o l c:Nat):V.one (.slice b o l c:V)=true:=rfl
theorem aaV (b:aU) (o l c:Nat):V.fK (.slice b o l c:V)=true:=rfl
theorem Yz (b:aU) (o l c:Nat):V.cells (.eu b o l c:V)=[.eu b o l c]:=rfl
theorem ahX (b:aU) (o l c:Nat):V.one (.eu b o l c:V)=true:=rfl
theorem aaL (b:aU) (o l c:Nat):V.fK (.eu b o l c:V)=true:=rfl
theorem YM (b:aU) (o l c:Nat):V.cells (.gQ b o l c:V)=[.gQ b o l c]:=rfl
theorem ah8 (b:aU) (o l c:Nat):V.one (.gQ b o l c:V)=true:=rfl
theorem aaX (b:aU) (o l c:Nat):V.fK (.gQ b o l c:V)=true:=rfl
theorem YH:V.cells (.cc:V)=[.cc]:=rfl
theorem ah4:V.one (.cc:V)=true:=rfl
theorem aaT:V.fK (.cc:V)=true:=rfl
theorem YF:V.cells (.lB:V)=[.lB]:=rfl
theorem ah2:V.one (.lB:V)=true:=rfl
theorem aaR:V.fK (.lB:V)=true:=rfl
theorem YC (b:aU):V.cells (.map b:V)=[.map b]:=rfl
theorem ahZ (b:aU):V.one (.map b:V)=true:=rfl
theorem aaO (b:aU):V.fK (.map b:V)=true:=rfl
theorem Yy (f:FuncId) (cs:List V):V.cells (.func f cs:V)=[.func f cs]:=rfl
theorem ahW (f:FuncId) (cs:List V):V.one (.func f cs:V)=true:=rfl
theorem aaK (f:FuncId) (cs:List V):V.fK (.func f cs:V)=true:=rfl
theorem YE:V.cells (.oq:V)=[.oq]:=rfl
theorem ah1:V.one (.oq:V)=true:=rfl
theorem aaQ:V.fK (.oq:V)=true:=rfl
theorem YA (t:TypeId) (v:V):V.cells (.iface t v:V)=[.iface t v]:=rfl
theorem ahY (t:TypeId) (v:V):V.one (.iface t v:V)=true:=rfl
theorem aaM (t:TypeId) (v:V):V.fK (.iface t v:V)=true:=rfl
theorem YD:V.cells (.nilIface:V)=[.nilIface]:=rfl
theorem ah0:V.one (.nilIface:V)=true:=rfl
theorem aaP:V.fK (.nilIface:V)=true:=rfl
theorem Yw (cs:List V):V.cells (.agg cs)=cs:=rfl
theorem aaI (cs:List V):V.fK (.agg cs)=true:=rfl
theorem aaY (cs:List V):V.fK (.tuple cs)=true:=rfl
theorem VF (n:Nat):n+1+1=n+2:=rfl
theorem VL (n:Nat):n+2+1=n+3:=rfl
theorem VM (n:Nat):n+3+1=n+4:=rfl
theorem VN (n:Nat):n+4+1=n+5:=rfl
theorem VO (n:Nat):n+5+1=n+6:=rfl
theorem VP (n:Nat):n+6+1=n+7:=rfl
theorem VQ (n:Nat):n+7+1=n+8:=rfl
theorem VR (n:Nat):n+8+1=n+9:=rfl
theorem VS (n:Nat):n+9+1=n+10:=rfl
theorem VE (n:Nat):n+10+1=n+11:=rfl
theorem VG (n:Nat):n+11+1=n+12:=rfl
theorem VH (n:Nat):n+12+1=n+13:=rfl
theorem VI (n:Nat):n+13+1=n+14:=rfl
theorem VJ (n:Nat):n+14+1=n+15:=rfl
theorem VK (n:Nat):n+15+1=n+16:=rfl
theorem SA (n:Nat):(n+1=n)=False:=am2 (by omega)
theorem alh (n:Nat):(n=n+1)=False:=am2 (by omega)
theorem B5 (n:Nat):(n+2=n)=False:=am2 (by omega)
theorem ali (n:Nat):(n=n+2)=False:=am2 (by omega)
theorem ahC (n:Nat):(n+3=n)=False:=am2 (by omega)
theorem alj (n:Nat):(n=n+3)=False:=am2 (by omega)
theorem ahD (n:Nat):(n+4=n)=False:=am2 (by omega)
theorem alk (n:Nat):(n=n+4)=False:=am2 (by omega)
theorem ahE (n:Nat):(n+5=n)=False:=am2 (by omega)
theorem alm (n:Nat):(n=n+5)=False:=am2 (by omega)
theorem ahF (n:Nat):(n+6=n)=False:=am2 (by omega)
theorem aln (n:Nat):(n=n+6)=False:=am2 (by omega)
theorem ahG (n:Nat):(n+7=n)=False:=am2 (by omega)
theorem alo (n:Nat):(n=n+7)=False:=am2 (by omega)
theorem ahH (n:Nat):(n+8=n)=False:=am2 (by omega)
theorem alp (n:Nat):(n=n+8)=False:=am2 (by omega)
theorem aaE {P:Program} {r:bz} {h:ah} {Q:ei->bz->ah->Prop} {aQ:List iE} {os:List bs} {D:Option jk} {d:Option Nat} {g:G} {rs:List Nat}:gX P (.bool true) true d g rs D os aQ r h Q=bH P (.os D (⟨d,g,none,rs⟩::os)::aQ) .normal r h Q:=by rw [PN];simp
theorem aaB {P:Program} {r:bz} {h:ah} {Q:ei->bz->ah->Prop} {aQ:List iE} {os:List bs} {D:Option jk} {d:Option Nat} {g:G} {rs:List Nat}:gX P (.bool false) false d g rs D os aQ r h Q=bH P (.os D (⟨d,g,none,rs⟩::os)::aQ) .normal r h Q:=by rw [PM];simp
theorem aaD {P:Program} {r:bz} {h:ah} {Q:ei->bz->ah->Prop} {aQ:List iE} {os:List bs} {D:Option jk} {d:Option Nat} {g:G} {rs:List Nat}:gX P (.bool true) false d g rs D os aQ r h Q=bH P (.os (jg D r h (.tuple [])) os::aQ) .normal (r.set d (.tuple [])) h Q:=by rw [PM];simp
theorem aaC {P:Program} {r:bz} {h:ah} {Q:ei->bz->ah->Prop} {aQ:List iE} {os:List bs} {D:Option jk} {d:Option Nat} {g:G} {rs:List Nat}:gX P (.bool false) true d g rs D os aQ r h Q=bH P (.os (jg D r h (.tuple [])) os::aQ) .normal (r.set d (.tuple [])) h Q:=by rw [PN];simp
theorem Wt (c:Bool) (a b:V):V.bif (!c) a (V.opt c b)=V.bif (!c) a b:=by cases c<;>rfl
theorem adn (A:Prop):(True->A)=A:=propext ⟨fun q=>q trivial,fun q _=>q⟩
theorem adm (A:Prop):(False->A)=True:=propext ⟨fun _=>trivial,fun _ q=>q.elim⟩
section
variable {P:Program}
theorem fS {b:bE} {aQ:List iE} {r:bz} {h:ah} {Q:ei->bz->ah->Prop} (I:bz->ah->Prop) (μ:bz->ah->Nat) (a1:I r h)
 (step:∀r h,I r h->bH P [.c b] .normal r h fun e bI aa=>e.andThen (I bI aa/\μ bI aa<μ r h) (bH P aQ e bI aa Q)):EV P b aQ r h Q:=
 ⟨I,μ,a1,step⟩
theorem aaA {b want:Bool} {d:Option Nat} {f:FuncId} {args:List aW} {rs:List Nat} {os:List bs} {D:Option jk} {aQ:List iE} {r:bz} {h:ah} {Q:ei->bz->ah->Prop} (v:V)
 (bB:(b == want)=true->ff P f (aW.fv (r.trim rs) args) h v h)
 (H:bH P (.os (jg D r h (V.opt (b == want) v)) os::aQ) .normal (r.set d (V.opt (b == want) v)) h Q):gX P (.bool b) want d (.call f args) rs D os aQ r h Q:=by
 have:=aaz (P:=P) (c:=true) (b:=b) (want:=want) (d:=d) (f:=f) (args:=args) (rs:=rs) (D:=D) (os:=os) (aQ:=aQ) (r:=r) (h:=h) (Q:=Q) v;simp only [V.opt,am4,an2] at this;exact this bB H
theorem DX {b:Bool} {d:Option Nat} {f:FuncId} {args:List aW} {rs:List Nat} {os:List bs} {D:Option jk} {aQ:List iE} {r:bz} {h:ah} {Q:ei->bz->ah->Prop} (v:V)
 (bB:(!b)=true->ff P f (aW.fv (r.trim rs) args) h v h)
 (H:bH P (.os (jg D r h (V.opt (!b) v)) os::aQ) .normal (r.set d (V.opt (!b) v)) h Q):gX P (.bool b) false d (.call f args) rs D os aQ r h Q:=by
 refine aaA v ?_ ?_<;>rw [beq_false]<;>assumption
def V.toN:V->Nat
 | .int _ n=>n.toNat
 | _=>0
theorem akB (k:IntKind) (n:Int):V.toN (.int k n)=n.toNat:=rfl
theorem ey {f:FuncId} {args:List V} {d:Option Nat} {os:List bs} {D:Option jk} {aQ:List iE} {r:bz} {h:ah} {Q:ei->bz->ah->Prop} {v:V}
 (c:ff P f args h v h) (H:bH P (.os (jg D r h v) os::aQ) .normal (r.set d v) h Q):nS P f args d D os aQ r h Q:=⟨v,h,c,H⟩
theorem bw {f:FuncId} {args:List V} {d:Option Nat} {os:List bs} {D:Option jk} {aQ:List iE} {r:bz} {h:ah} {Q:ei->bz->ah->Prop} {K:V->ah->Prop}
 (c:b' P f args h K) (H:∀v aa,K v aa->bH P (.os (jg D r h v) os::aQ) .normal (r.set d v) aa Q):nS P f args d D os aQ r h Q:=c.mono H
structure Ext (h aa:ah):Prop where
 next:h.next<=aa.next
 get:∀b,Old h b->aa.get b=h.get b
theorem Ext.refl (h:ah):Ext h h:=⟨am6 _,fun _ _=>rfl⟩
theorem Ext.cH {h aa:ah} (e:Ext h aa) {b:aU} (aj:Old h b):Old aa b:=aou aj e.next
theorem Ext.trans {h aa lX:ah} (e:Ext h aa) (dI:Ext aa lX):Ext h lX:=
 ⟨anM e.next dI.next,fun b aj=>(dI.get b (e.cH aj)).trans (e.get b aj)⟩
theorem Ext.new {h aa:ah} (e:Ext h aa) (k:cm):Ext h (aa.new k):=
 ⟨Nat.le_succ_of_le e.next,fun b aj=>by rw [jt,am7 (fun q=>(Ka (h:=h) aj e.next) ▸ q)];exact e.get b aj⟩
theorem Ext.set {h aa:ah} (e:Ext h aa) {i:Nat} (au:h.next<=i) (k:cm):Ext h (aa.set (aC i) k):=
 ⟨e.next,fun b aj=>by rw [fm,am7 (fun q=>(Ka (h:=h) aj au) ▸ q)];exact e.get b aj⟩
theorem Ext.rd {h aa:ah} (e:Ext h aa) {b:aU} (aj:Old h b) {ai:List V} (H:nN h b ai):nN aa b ai:=by unfold nN at H ⊢;rw [e.get b aj];exact H
def iU (h:ah) (b:aU) (off:Nat) (ai:List V):Prop:=Old h b/\∃us,nN h b us/\off+ai.length<=us.length/\(us.drop off).take ai.length=ai
theorem iU.ext {h aa:ah} (e:Ext h aa) {b:aU} {off:Nat} {ai:List V} (H:iU h b off ai):iU aa b off ai:=by obtain ⟨a1,us,J,ad,aD⟩:=H;exact ⟨e.cH a1,us,e.rd a1 J,ad,aD⟩
theorem iU.eA {h:ah} {b:aU} {off:Nat} {ai:List V} (H:iU h b off ai) {i:Nat} (au:i<ai.length):jC (h.get b) (off+i)=some ai[i]:=by
 obtain ⟨_,us,J,ad,aD⟩:=H;rw [J.eA,amY (by omega)];congr 1;have:((us.drop off).take ai.length)[i]? =ai[i]? :=by rw [aD]
 rw [an8 au,aom,amY (by omega),amY au] at this;simpa using this
theorem iU.ka {h:ah} {b:aU} {off:Nat} {ai:List V} (H:iU h b off ai) {i n:Nat} (au:i+n<=ai.length):o2 n (h.get b) (off+i)=some (.agg ((ai.drop i).take n)):=by
 obtain ⟨_,us,J,ad,aD⟩:=H;rw [J.ka,anb (by omega)];congr 2;have:(((us.drop off).take ai.length).drop i).take n=(ai.drop i).take n:=by rw [aD]
 rw [<-this,List.drop_take,aoS,List.take_take];congr 1;omega
def e9 (h:ah) (size:Nat) (v:V) (n:Nat) (ai:List V):Prop:=
 ai.length=n * size/\match v with
  | .cc=>n=0
  | .slice b off len _=>len=n/\iU h b off ai
  | .eu b off len _=>len=n/\iU h b off ai
  | .gQ _ _ _ _=>n=0
  | _=>False
theorem e9.ext {h aa:ah} (e:Ext h aa) {size:Nat} {v:V} {n:Nat} {ai:List V} (H:e9 h size v n ai):e9 aa size v n ai:=by refine ⟨H.1,?_⟩;have c6:=H.2;cases v<;>simp only at c6 ⊢<;>first | exact c6 | exact ⟨c6.1,c6.2.ext e⟩
theorem e9.len {h:ah} {size:Nat} {v:V} {n:Nat} {ai:List V} (H:e9 h size v n ai):mJ v=some (.int .i64 n):=by
 have c6:=H.2;cases v<;>simp only at c6<;>first
  | (rw [<-c6.1];rfl)
  | (subst c6;rfl)
  | (exact c6.elim)
theorem e9.dG {h:ah} {size:Nat} {v:V} {n:Nat} {ai:List V} (H:e9 h size v n ai) {k:IntKind} {i:Nat} (au:i<n):
 ∃b off,iL size v (.int k i)=some (.ptr b (off+i * size))/\iU h b off ai:=by
 have c6:=H.2;cases v<;>simp only at c6<;>first
  | omega
  | (exact c6.elim)
  | skip
 . rename_i b off len cap;obtain ⟨rfl,J⟩:=c6;refine ⟨b,off,?_,J⟩;rw [Ra,anb (by omega)];simp
 . rename_i b off len cap;obtain ⟨rfl,J⟩:=c6;refine ⟨b,off,?_,J⟩;rw [Q_,anb (by omega)];simp
end
structure Mod (M:aU->Prop) (h aa:ah):Prop where
 next:h.next<=aa.next
 get:∀b,Old h b->¬M b->aa.get b=h.get b
theorem Mod.refl (M:aU->Prop) (h:ah):Mod M h h:=⟨am6 _,fun _ _ _=>rfl⟩
theorem Mod.cH {M:aU->Prop} {h aa:ah} (e:Mod M h aa) {b:aU} (aj:Old h b):Old aa b:=aou aj e.next
theorem Mod.trans {M:aU->Prop} {h aa lX:ah} (e:Mod M h aa) (dI:Mod M aa lX):Mod M h lX:=
 ⟨anM e.next dI.next,fun b aj hm=>(dI.get b (e.cH aj) hm).trans (e.get b aj hm)⟩
theorem Mod.mono {M xD:aU->Prop} {h aa:ah} (e:Mod M h aa) (hm:∀b,Old h b->M b->xD b):Mod xD h aa:=
 ⟨e.next,fun b aj aX=>e.get b aj fun q=>aX (hm b aj q)⟩
theorem Mod.new {M:aU->Prop} {h aa:ah} (e:Mod M h aa) (k:cm):Mod M h (aa.new k):=
 ⟨Nat.le_succ_of_le e.next,fun b aj hm=>by rw [jt,am7 (fun q=>(Ka (h:=h) aj e.next) ▸ q)];exact e.get b aj hm⟩
theorem Mod.set {M:aU->Prop} {h aa:ah} (e:Mod M h aa) {b:aU} (aj:Old h b->M b) (k:cm):Mod M h (aa.set b k):=
 ⟨e.next,fun bV gl hm=>by
   rw [fm];by_cases q:b=bV
   . subst q;exact absurd (aj gl) hm
   . rw [am7 q];exact e.get bV gl hm⟩
theorem Ext.mod {h aa:ah} (e:Ext h aa) (M:aU->Prop):Mod M h aa:=⟨e.next,fun b aj _=>e.get b aj⟩
theorem Ext.lz {h aa lX:ah} (e:Ext h aa) {M:aU->Prop} (m:Mod M aa lX) (hm:∀b,M b->h.next<=cR b):Ext h lX:=
 ⟨anM e.next m.next,fun b aj=>by
   have l2:¬M b:=fun q=>by have:=hm b q;unfold Old at aj;omega
   exact (m.get b (e.cH aj) l2).trans (e.get b aj)⟩
theorem Mod.at {M:aU->Prop} {h aa:ah} (e:Mod M h aa) {b:aU} {off:Nat} {ai:List V} (H:iU h b off ai) (hm:¬M b):iU aa b off ai:=by obtain ⟨a1,us,J,ad,aD⟩:=H;refine ⟨e.cH a1,us,?_,ad,aD⟩;unfold nN at J ⊢;rw [e.get b a1 hm];exact J
theorem hB {h:ah} {i:Nat} (au:i<h.next):Old h (aC i):=by unfold Old;rw [dX];exact au
theorem B2 {h:ah} {b:aU} {i:Nat} (aj:Old h b) (au:h.next<=i):(b=aC i)=False:=by apply am2;intro e;unfold Old at aj;rw [e,dX] at aj;omega
def V.bj:V->aU->Prop
 | .slice b _ _ _,bV=>bV=b
 | .eu b _ _ _,bV=>bV=b
 | _,_=>False
theorem e9.one {h:ah} {size:Nat} {v:V} {n:Nat} {ai:List V} (H:e9 h size v n ai):v.one=true/\v.cells=[v]/\v.fK=true:=by have q:=H.2;cases v<;>simp only at q<;>first | exact ⟨rfl,rfl,rfl⟩ | exact q.elim
theorem e9.mod {M:aU->Prop} {h aa:ah} (e:Mod M h aa) {size:Nat} {v:V} {n:Nat} {ai:List V} (H:e9 h size v n ai) (hm:∀b,v.bj b->¬M b):e9 aa size v n ai:=by refine ⟨H.1,?_⟩;have c6:=H.2;cases v<;>simp only at c6 ⊢<;>first | exact c6 | exact ⟨c6.1,e.at c6.2 (hm _ rfl)⟩
theorem e9.cH {h:ah} {size:Nat} {v:V} {n:Nat} {ai:List V} (H:e9 h size v n ai) {b:aU} (aj:v.bj b):Old h b:=by have c6:=H.2;cases v<;>simp only [V.bj] at c6 aj<;>first | (exact aj.elim) | (subst aj;exact c6.2.1)
def c_ (B:Nat) (h:ah) (size:Nat) (v:V) (n:Nat) (ai:List V):Prop:=
 ai.length=n * size/\match v with
  | .cc=>n=0
  | .slice b off len cap=>len=n/\B<=cR b/\Old h b/\n<=cap/\cap<=top/\∃us cT st,h.get b=.a_ us cT st/\off+cap * size<=us.length/\(us.drop off).take ai.length=ai
  | .eu b off len idx=>len=n/\B<=cR b/\Old h b/\off=0/\idx=0/\∃us st,h.get b=.a_ us size st/\ai.length<=us.length/\us.take ai.length=ai
  | _=>False
theorem c_.v {B:Nat} {h:ah} {size:Nat} {v:V} {n:Nat} {ai:List V} (H:c_ B h size v n ai):e9 h size v n ai:=by
 obtain ⟨J,ad⟩:=H;refine ⟨J,?_⟩;cases v<;>simp only at ad ⊢<;>first | exact ad | skip
 . obtain ⟨ag,_,av,aI,_,us,cT,st,bU,c8,eH⟩:=ad;refine ⟨ag,av,us,.inr ⟨cT,st,bU⟩,?_,eH⟩;rw [J];have:=anO size aI;omega
 . obtain ⟨ag,_,av,aI,_,us,st,bU,c8,eH⟩:=ad;subst aI;exact ⟨ag,av,us,.inr ⟨size,st,bU⟩,by omega,by simpa using eH⟩
theorem c_.base {B:Nat} {h:ah} {size:Nat} {v:V} {n:Nat} {ai:List V} (H:c_ B h size v n ai) {b:aU} (aj:v.bj b):B<=cR b:=by have c6:=H.2;cases v<;>simp only [V.bj] at c6 aj<;>first | (exact aj.elim) | (subst aj;exact c6.2.1)
theorem c_.mono {B Lf:Nat} {h:ah} {size:Nat} {v:V} {n:Nat} {ai:List V} (H:c_ B h size v n ai) (dr:Lf<=B):c_ Lf h size v n ai:=by refine ⟨H.1,?_⟩;have c6:=H.2;cases v<;>simp only at c6 ⊢<;>first | exact c6 | exact ⟨c6.1,anM dr c6.2.1,c6.2.2⟩
theorem c_.mod {M:aU->Prop} {h aa:ah} (e:Mod M h aa) {B size:Nat} {v:V} {n:Nat} {ai:List V} (H:c_ B h size v n ai) (hm:∀b,v.bj b->¬M b):c_ B aa size v n ai:=by
 refine ⟨H.1,?_⟩;have c6:=H.2;cases v<;>simp only at c6 ⊢<;>first | exact c6 | skip
 . obtain ⟨ag,av,aI,bU,c8,us,cT,st,eH,iR⟩:=c6;exact ⟨ag,av,e.cH aI,bU,c8,us,cT,st,by rw [e.get _ aI (hm _ rfl)];exact eH,iR⟩
 . obtain ⟨ag,av,aI,bU,c8,us,st,eH,iR⟩:=c6;exact ⟨ag,av,e.cH aI,bU,c8,us,st,by rw [e.get _ aI (hm _ rfl)];exact eH,iR⟩
theorem c_.ext {h aa:ah} (e:Ext h aa) {B size:Nat} {v:V} {n:Nat} {ai:List V} (H:c_ B h size v n ai):c_ B aa size v n ai:=
 H.mod (e.mod fun _=>False) fun _ _ q=>q
theorem RZ {h:ah} {size:Nat} {v:V} {n:Nat} {ai:List V} (H:e9 h size v n ai):oh v=some n:=by
 have c6:=H.2;cases v<;>simp only at c6<;>first
  | (rw [<-c6.1];rfl)
  | (subst c6;rfl)
  | (exact c6.elim)
theorem xc {h:ah} {b:aU} {off size n:Nat} {ai:List V} (H:iU h b off ai) (ax:ai.length=n * size):pN h size b off n=some ai:=by obtain ⟨_,us,J,ad,aD⟩:=H;unfold pN;rw [J.pL,show Nat.ble (off+n * size) us.length=true from by rw [ann];omega,DZ us _ off (by omega),<-ax,aD];rfl
theorem aj6 {h:ah} {size:Nat} {v:V} {n:Nat} {ai:List V} (H:e9 h size v n ai):rX h size v n=some ai:=by
 obtain ⟨J,ad⟩:=H;cases v<;>simp only at ad<;>first
  | (exact ad.elim)
  | (obtain ⟨_,aD⟩:=ad;exact xc aD J)
  | (subst ad
     have:ai=[]:=anI (by omega);subst this;rfl)
theorem c_.grown {B:Nat} {h:ah} {size:Nat} {ai:List V} {n:Nat} {st:Bool} (ax:ai.length=n * size) (dr:B<=h.next):c_ B (h.new (.a_ ai size st)) size (.eu (aC h.next) 0 n 0) n ai:=
 ⟨ax,rfl,by rw [dX];exact dr,SO,rfl,rfl,ai,st,ju _,am6 _,aox⟩
theorem V0 {h:ah} {size:Nat} {s x:V} {m:Nat} {ai:List V} (c6:e9 h size x m ai) (hm:m<=top):iY size s x h=(match s with
 | .cc=>tx size m ai h
 | .slice b off len cap=>tw size b off len cap m ai h
 | .eu b off len idx=>tv size b off len idx m ai h
 | _=>.fail):=by
 unfold iY;rw [RZ c6];simp only;rw [aj6 c6];simp only;rw [show Nat.ble m top=true from by rw [ann];exact hm];rfl
theorem aj4 (A:List V) (o:Nat) (W:List V) (h:o+W.length<=A.length) (q:Nat):(jF A o W)[q]? =if q<o then A[q]? else if q<o+W.length then W[q-o]? else A[q]? :=by
 have ax:(A.take o).length=o:=by rw [anH];omega
 unfold jF;rw [ana];by_cases bW:q<o
 . rw [anb bW,anp (by omega),an8 bW]
 . rw [am7 bW,ano (by omega),ax];by_cases cw:q<o+W.length
   . rw [anb cw,anp (by omega)]
   . rw [am7 cw,ano (by omega),aom];congr 1;omega
theorem Ai {B:Nat} {h:ah} {size:Nat} {s x:V} {n m:Nat} {us ai:List V} (cy:1<=size) (H1:c_ B h size s n us) (c6:e9 h size x m ai) (dr:B<=h.next) (hlen:(n+m) * size<=top) (a8:fq ai=true):
 ∃v aa,iY size s x h=.val v aa/\c_ B aa size v (n+m) (us++ai)/\Mod s.bj h aa/\∀b,v.bj b->s.bj b\/h.next<=cR b:=by
 have l2:n+m<=top:=anM (Nat.le_mul_of_pos_right _ cy) hlen;have iI:=H1.1;have my:=c6.1;have bK:(us++ai).length=(n+m) * size:=by rw [amZ,iI,my,an0]
 rw [V0 c6 (by omega)];have ad:=H1.2;cases s<;>simp only at ad ⊢<;>try (exact ad.elim)
 case cc=>
  subst ad;have:us=[]:=anI (by omega);subst this;unfold tx;by_cases hm:m=0
  . subst hm;have:ai=[]:=anI (by omega);subst this;exact ⟨.cc,h,rfl,⟨by simp,rfl⟩,Mod.refl _ _,fun b aj=>.inl aj⟩
  . rw [show Nat.beq m 0=false from by rw [<-Bool.not_eq_true,anA];exact hm];simp only [anf];rw [wV (by rw [my];simpa using hlen) cy];refine ⟨_,_,rfl,?_,(Mod.refl _ _).new _,fun b aj=>.inr (by rw [show b=aC h.next from aj,dX];exact am6 _)⟩;have:=c_.grown (B:=B) (h:=h) (size:=size) (ai:=ai) (n:=m) (st:=false) my dr;simpa using this
 case slice b off len cap=>
  obtain ⟨rfl,av,aI,bU,c8,kj,cT,st,eH,iR,kg⟩:=ad;unfold tw;by_cases ao:len+m<=cap
  . rw [show Nat.ble (len+m) cap=true from by rw [ann];exact ao];simp only [am4];have gA:off+len * size+ai.length<=kj.length:=by
     have:=anO size ao;rw [an0] at this;rw [my];omega
    rw [Own.lay (ai:=kj) (cT:=cT) (st:=st) eH gA a8];refine ⟨_,_,rfl,⟨bK,rfl,av,aI,ao,c8,_,cT,st,fm _ _ _ |>.trans (anb rfl),?_,?_⟩,(Mod.refl (V.bj (.slice b off len cap)) h).set (fun _=>rfl) _,fun bV aj=>.inl aj⟩
    . rw [Cw _ _ _ gA];exact iR
    . rw [amZ];unfold jF;have eE:off+us.length<=kj.length:=by rw [iI];omega
      have an:kj.take (off+len * size)=kj.take off++us:=by rw [<-iI,List.take_add,kg]
      rw [an,ana,ana,List.drop_append,anD (by rw [anH];omega),anh];rw [show off - (kj.take off).length=0 from by rw [anH];omega,anN];rw [<-List.append_assoc,aoW (by rw [amZ])]
  . rw [show Nat.ble (len+m) cap=false from by rw [<-Bool.not_eq_true,ann];exact ao];simp only [anf];rw [show (Nat.ble (len+m) top&&Nat.ble cap top)=true from by simp only [amX,ann];exact ⟨l2,c8⟩];simp only [am4];have vP:iU h b off us:=⟨aI,kj,.inr ⟨cT,st,eH⟩,by rw [iI];have:=anO size bU;omega,kg⟩;rw [xc vP iI];simp only;rw [wV (by rw [bK];exact hlen) cy];exact ⟨_,_,rfl,c_.grown bK dr,(Mod.refl _ _).new _,fun b aj=>.inr (by rw [show b=aC h.next from aj,dX];exact am6 _)⟩
 case eu b off len idx=>
  obtain ⟨rfl,av,aI,rfl,rfl,kj,st,eH,iR,kg⟩:=ad;unfold tv;by_cases hm:m=0
  . subst hm;have:ai=[]:=anI (by omega);subst this;exact ⟨_,h,rfl,⟨bK,rfl,av,aI,rfl,rfl,kj,st,eH,by simpa using iR,by simpa using kg⟩,Mod.refl _ _,fun b aj=>.inl aj⟩
  . rw [show Nat.beq m 0=false from by rw [<-Bool.not_eq_true,anA];exact hm];simp only [anf];rw [eH];simp only [cm.a_,cm.on];rw [show (Nat.beq size size&&(Nat.ble (len+m) top&&fq ai)&&Nat.beq 0 (0 * size))=true from by
     simp only [amX,anA,ann]
     exact ⟨⟨trivial,l2,a8⟩,by omega⟩]
    simp only [am4];have vP:iU h b 0 us:=⟨aI,kj,.inr ⟨size,st,eH⟩,by omega,by simpa using kg⟩;rw [xc vP iI];simp only;rw [wV (by rw [bK];exact hlen) cy];exact ⟨_,_,rfl,c_.grown (h:=h.set b .dead) bK dr,((Mod.refl (V.bj (.eu b 0 len 0)) h).set (fun _=>rfl) _).new _,fun bV aj=>.inr (by rw [show bV=aC h.next from aj,dX];exact am6 _)⟩
theorem aif (r:bz):aW.opt r none=none:=(rfl)
theorem aih (r:bz) (x:aW):aW.opt r (some x)=some (x.aV r):=(rfl)
theorem xR {k:IntKind} {m d y:Nat} (h:m<=y):bound (some (.int k (m:Int))) d y=some m:=by simp only [bound,V.e1,pA];rw [show (decide ((0:Int)<=(m:Int))&&decide ((m:Int)<=(y:Int)))=true from by simp;omega];simp
theorem vr (d y:Nat):bound none d y=some d:=rfl
theorem e9.cut {h:ah} {size:Nat} {v:V} {n:Nat} {ai:List V} (H:e9 h size v n ai) {k bx:IntKind} {bO au:Nat} (J:bO<=au) (ad:au<=n) (ly lk:Option V)
 (eE:ly=some (.int k bO)\/ly=none/\bO=0) (h_:lk=some (.int bx au)\/lk=none/\au=n) (lf:∀b off l c,v=.slice b off l c->l<=c):
 ∃cI,gJ size v ly lk none=some cI/\e9 h size cI (au-bO) ((ai.drop (bO * size)).take ((au-bO) * size))/\∀b,cI.bj b->v.bj b:=by
 obtain ⟨ag,av⟩:=H;have bK:((ai.drop (bO * size)).take ((au-bO) * size)).length=(au-bO) * size:=by rw [anH,anu,ag];have an:=anO size J;have aN:=anO size ad;rw [Nat.sub_mul];omega
 have pd:∀y,bO<=y->bound ly 0 y=some bO:=by
  intro y bc;rcases eE with rfl | ⟨rfl,rfl⟩
  . exact xR bc
  . rfl
 have q4:∀d y,n=d->n<=y->bound lk d y=some au:=by
  intro d y aZ bc;rcases h_ with rfl | ⟨rfl,rfl⟩
  . exact xR (by omega)
  . rw [vr,aZ]
 have piece:∀(b:aU) (off:Nat),iU h b off ai->iU h b (off+bO * size) ((ai.drop (bO * size)).take ((au-bO) * size)):=by
  rintro b off ⟨bR,us,a2,a3,a4⟩;have an:=anO size J;have aN:=anO size ad;refine ⟨bR,us,a2,?_,?_⟩
  . rw [bK,Nat.sub_mul];omega
  . rw [bK,<-List.drop_drop];have:(us.drop off).drop (bO * size)=(((us.drop off).take ai.length).drop (bO * size))++(us.drop off).drop ai.length:=by
     rw [<-List.drop_append_of_le_length (by rw [anH,anu];omega),aoB]
    rw [this,a4,List.take_append_of_le_length (by rw [anu,ag,Nat.sub_mul];omega)]
 cases v<;>simp only at av<;>try (exact av.elim)
 case cc=>
  subst av;obtain rfl:au=0:=by omega
  obtain rfl:bO=0:=by omega
  refine ⟨.cc,?_,⟨bK,rfl⟩,fun b aj=>aj⟩;simp only [gJ,zw,q4 0 0 rfl (am6 _),pd 0 (am6 _)]
 case slice b off len cap=>
  obtain ⟨rfl,aI⟩:=av;have ao:=lf b off len cap rfl;have e:gJ size (.slice b off len cap) ly lk none=some (.slice b (bif Nat.beq cap bO then off else off+bO * size) (au-bO) (cap-bO)):=by simp only [gJ,rW,q4 len cap rfl ao,pd au J]
  rw [e];refine ⟨_,rfl,⟨bK,rfl,?_⟩,fun bV aj=>aj⟩;cases aj:Nat.beq cap bO with
  | false=>exact piece b off aI
  | true=>
    rw [anA] at aj;obtain rfl:au=bO:=by omega
    obtain ⟨bR,us,a2,a3,a4⟩:=aI;refine ⟨bR,us,a2,?_,?_⟩<;>simp;omega
 case eu b off len idx=>
  obtain ⟨rfl,aI⟩:=av;by_cases aL:bO<len
  . have e:gJ size (.eu b off len idx) ly lk none=some (.eu b (off+bO * size) (au-bO) (idx+bO)):=by
     simp only [gJ,s9,q4 len len rfl (am6 _),pd au J];rw [show Nat.blt bO len=true from by rw [anF];exact aL];rfl
    rw [e];exact ⟨_,rfl,⟨bK,rfl,piece b off aI⟩,fun bV aj=>aj⟩
  . have e:gJ size (.eu b off len idx) ly lk none=some (.gQ b off (off+bO * size) (idx+bO)):=by
     simp only [gJ,s9,q4 len len rfl (am6 _),pd au J];rw [show Nat.blt bO len=false from by rw [<-Bool.not_eq_true,anF];exact aL];rfl
    rw [e];exact ⟨_,rfl,⟨bK,by omega⟩,fun bV aj=>aj.elim⟩
 case gQ b off nD idx=>
  subst av;obtain rfl:au=0:=by omega
  obtain rfl:bO=0:=by omega
  refine ⟨.gQ b off nD idx,?_,⟨bK,rfl⟩,fun b aj=>aj⟩;simp only [gJ,zx,q4 0 0 rfl (am6 _),pd 0 (am6 _)]
theorem ahs (b:aU) (o:Nat):uC (.ptr b o)=some (.ptr b o):=rfl
theorem ahc (k bx:IntKind) (a b:Int):lG (fun b a=>!Int.leB a b) [.int k a,.int bx b]=some (.int k (if b<a then b else a)):=by
 simp only [lG,w1,V.e1,pA];by_cases h:b<a
 . rw [anb h];have:¬a<=b:=by omega
   simp [this]
 . rw [am7 h];have:a<=b:=by omega
   simp [this]
theorem JY (k bx:IntKind) (a b:Int):lG (fun b a=>!Int.leB b a) [.int k a,.int bx b]=some (.int k (if a<b then b else a)):=by
 simp only [lG,w1,V.e1,pA];by_cases h:a<b
 . rw [anb h];have:¬b<=a:=by omega
   simp [this]
 . rw [am7 h];have:b<=a:=by omega
   simp [this]
end
section
open Go Go.RowKit
set_option linter.defProp false
variable [Lay]
end
section
open Go Go.RowKit
variable [Lay]
theorem YY {P:Program} {aQ:List iE} {r:bz} {h:ah} {Q:ei->bz->ah->Prop} {a b:bE}:xT P (.bool true) a b aQ r h Q=bH P (.c a::aQ) .normal r h Q:=by rw [Ox];simp
theorem YX {P:Program} {aQ:List iE} {r:bz} {h:ah} {Q:ei->bz->ah->Prop} {a b:bE}:xT P (.bool false) a b aQ r h Q=bH P (.c b::aQ) .normal r h Q:=by rw [Ox];simp
theorem L8 (a b:List UInt8):p3 a b=decide (a=b):=by rw [vp,anT];simp
theorem G_ (k:IntKind) (b:Int) (d y:Nat):bound (some (.int k b)) d y=if 0<=b/\b<=(y:Int) then some b.toNat else none:=by simp only [bound,V.e1,pA];by_cases J:0<=b<;>by_cases ad:b<=(y:Int)<;>simp [J,ad]
theorem ajY (s:List UInt8) (k:IntKind) (b:Int):mR (.str s) none (some (.int k b)) none=if 0<=b/\b<=(s.length:Int) then some (.str (s.take b.toNat)) else none:=by
 simp only [mR,G_];by_cases h:0<=b/\b<=(s.length:Int)
 . simp only [h,aoM,anz,bound,anN,ao2]
 . simp only [h,anw]
theorem ajZ (s:List UInt8) (k:IntKind) (a:Int):mR (.str s) (some (.int k a)) none none=if 0<=a/\a<=(s.length:Int) then some (.str (s.drop a.toNat)) else none:=by
 simp only [mR,vr,G_];by_cases h:0<=a/\a<=(s.length:Int)
 . simp only [h,aoM,anz];rw [an3 (by rw [anu];omega)]
 . simp only [h,anw]
theorem Ub (s:List UInt8) (k bx:IntKind) (a b:Int):mR (.str s) (some (.int k a)) (some (.int bx b)) none=if 0<=a/\a<=b/\b<=(s.length:Int) then some (.str ((s.drop a.toNat).take (b.toNat-a.toNat))) else none:=by
 simp only [mR,G_];by_cases h:0<=b/\b<=(s.length:Int)
 . simp only [h,aoM,anz];by_cases ad:0<=a/\a<=b
   . have:0<=a/\a<=((b.toNat:Nat):Int):=by omega
     simp only [this,aoM,anz,ad,h]
   . have aD:¬(0<=a/\a<=((b.toNat:Nat):Int)):=by omega
     have bn:¬(0<=a/\a<=b/\b<=(s.length:Int)):=by omega
     have b0:¬(0<=a/\a<=b/\True):=fun q=>ad ⟨q.1,q.2.1⟩;rw [am7 b0,am7 aD]
 . have bn:¬(0<=a/\a<=b/\b<=(s.length:Int)):=by omega
   simp only [h,bn,anw]
theorem ajX (s:List UInt8):mR (.str s) none none none=some (.str s):=by simp only [mR,vr,anN,ao2,aox]
section
variable {P:Program}
theorem ajK (a b:List UInt8):(en.str .eql).run P (.str a) (.str b)=some (.bool (decide (a=b))):=by simp only [en.run,ta,rY,L8]
theorem ajJ (a b:List UInt8):(en.str .add).run P (.str a) (.str b)=if a.length+b.length<=top then some (.str (a++b)) else none:=by
 simp only [en.run,ta,F4];by_cases h:a.length+b.length<=top
 . rw [anb h,show Nat.ble (a.length+b.length) top=true from by rw [ann];exact h];rfl
 . rw [am7 h,show Nat.ble (a.length+b.length) top=false from by rw [<-Bool.not_eq_true,ann];exact h];rfl
theorem ajL (s:List UInt8) (k:IntKind) (i:Int):sP.run (.str s) (.int k i)=if 0<=i/\i < (s.length:Int) then some (.int .u8 (((s[i.toNat]?).getD 0).toNat:Int)) else none:=by
 simp only [sP,V.e1,pA];by_cases J:0<=i
 . simp only [J,aoQ,am4,aoJ];by_cases ad:i < (s.length:Int)
   . rw [anb ad,amY (by omega)];rfl
   . rw [am7 ad,anv (by omega)]
 . simp only [J,aoK,anf,ao6,anw]
theorem ajM (a b:List UInt8):(en.str .neq).run P (.str a) (.str b)=some (.bool (!decide (a=b))):=by simp only [en.run,ta,rY,L8]
end
end
section
open Go Go.RowKit
set_option linter.defProp false
def ak8:=
 And.intro @aeK<|And.intro @adY<|And.intro @aeS<|And.intro @adZ<|And.intro @aeP<|And.intro @aeT<|And.intro @aeQ<|And.intro @aef<|And.intro @ad8<|And.intro @ad5<|And.intro @ad6<|And.intro @aeA<|And.intro @aed<|And.intro @aeN<|And.intro @aeG<|And.intro @afw<|And.intro @aeO<|And.intro @afB<|And.intro @ad3<|And.intro @ae6<|And.intro @aes<|And.intro @afm<|And.intro @aet<|And.intro @afn<|And.intro @aeL<|And.intro @afz<|And.intro @adX<|And.intro @ae3<|And.intro @aeY<|And.intro @afG<|And.intro @aek<|And.intro @afg<|And.intro @aep<|And.intro @afj<|And.intro @aeV<|And.intro @afE<|And.intro @aeU<|And.intro @afD<|And.intro @aeh<|@afd
def ak9:=
 And.intro @aei<|And.intro @afe<|And.intro @aej<|And.intro @aff<|And.intro @aen<|And.intro @afh<|And.intro @aeo<|And.intro @afi<|And.intro @aer<|And.intro @afl<|And.intro @aeq<|And.intro @afk<|And.intro @aez<|And.intro @afs<|And.intro @aeg<|And.intro @afc<|And.intro @aeE<|And.intro @afv<|And.intro @aeH<|And.intro @afx<|And.intro @ad'<|And.intro @ae_<|And.intro @aew<|And.intro @afq<|And.intro @aex<|And.intro @afr<|And.intro @aeu<|And.intro @afo<|And.intro @aeJ<|And.intro @afy<|And.intro @ad1<|And.intro @ae4<|And.intro @ad2<|And.intro @ae5<|And.intro @aeW<|And.intro @afF<|And.intro @aeD<|And.intro @afu<|And.intro @aeZ<|@afH
def ak':=
 And.intro @aeC<|And.intro @aft<|And.intro @aeR<|And.intro @afC<|And.intro @aeM<|And.intro @afA<|And.intro @adV<|And.intro @ae2<|And.intro @ad7<|And.intro @ae9<|And.intro @aev<|And.intro @afp<|And.intro @ad9<|And.intro @ae'<|And.intro @aea<|And.intro @afb<|And.intro @ad_<|And.intro @afa<|And.intro @ae7<|And.intro @ae8<|And.intro @Ru<|And.intro @ad4<|@aec
def ak_:=
 And.intro @akf<|And.intro @aj2<|And.intro @YY<|And.intro @YX<|And.intro @Yt<|And.intro @ajm<|And.intro @WD<|And.intro @WC<|And.intro @aij<|And.intro @aab<|And.intro @aaa<|And.intro @WG<|And.intro @ZZ<|And.intro @ZY<|And.intro @aiy<|And.intro @Z8<|And.intro @ahT<|And.intro @ahS<|And.intro @agy<|And.intro @agw<|And.intro @agz<|And.intro @agx<|And.intro @agA<|And.intro @Ra<|And.intro @Q_<|And.intro @Zf<|And.intro @Z1<|And.intro @Z0<|And.intro @akF<|And.intro @ajN<|And.intro @ajO<|And.intro @ahK<|And.intro @ahL<|And.intro @aii<|And.intro @aie<|And.intro @akW<|And.intro @akV<|And.intro @Wr<|And.intro @Ws<|@Wt
def ala:=
 And.intro @Wu<|And.intro @Wq<|And.intro @Vd<|And.intro @Vf<|And.intro @Ve<|And.intro @akC<|And.intro @akE<|And.intro @akD<|And.intro @adA<|And.intro @adC<|And.intro @adB<|And.intro @adU<|And.intro @aeX<|And.intro @aeF<|And.intro @aee<|And.intro @aeI<|And.intro @aeB<|And.intro @aey<|And.intro @aem<|And.intro @ael<|And.intro @adW<|And.intro @ad0<|And.intro @akS<|And.intro @akR<|And.intro @agP<|And.intro @agR<|And.intro @RO<|And.intro @RP<|And.intro @RR<|And.intro @RS<|And.intro @aka<|And.intro @aga<|And.intro @ju<|And.intro @jt<|And.intro @fm<|And.intro @s0<|And.intro @gD<|And.intro @pG<|And.intro @ahl<|@Yx
def alb:=
 And.intro @ahV<|And.intro @aaJ<|And.intro @YB<|And.intro @SS<|And.intro @aaN<|And.intro @YL<|And.intro @ah7<|And.intro @aaW<|And.intro @YG<|And.intro @ah3<|And.intro @aaS<|And.intro @YI<|And.intro @ah5<|And.intro @aaU<|And.intro @YK<|And.intro @ah6<|And.intro @aaV<|And.intro @Yz<|And.intro @ahX<|And.intro @aaL<|And.intro @YM<|And.intro @ah8<|And.intro @aaX<|And.intro @YH<|And.intro @ah4<|And.intro @aaT<|And.intro @YF<|And.intro @ah2<|And.intro @aaR<|And.intro @YC<|And.intro @ahZ<|And.intro @aaO<|And.intro @Yy<|And.intro @ahW<|And.intro @aaK<|And.intro @YE<|And.intro @ah1<|And.intro @aaQ<|And.intro @YA<|@ahY
def alc:=
 And.intro @aaM<|And.intro @YD<|And.intro @ah0<|And.intro @aaP<|And.intro @Yw<|And.intro @aaI<|And.intro @aaY<|And.intro @ags<|And.intro @agt<|And.intro @agr<|And.intro @beq_true<|And.intro @beq_false<|And.intro @Bool.not_true<|And.intro @Bool.not_false<|And.intro @an2<|And.intro @anY<|And.intro @anR<|And.intro @aob<|And.intro @Bool.not_not<|And.intro @V.bool.injEq<|And.intro @anB<|And.intro @aoA<|And.intro @akw<|And.intro @akx<|And.intro @aku<|And.intro @Bool.true_eq_false<|And.intro @anm<|And.intro @akB<|And.intro @aiG<|And.intro @aiH<|And.intro @Wd<|And.intro @Wc<|And.intro @V_<|And.intro @V8<|And.intro @abJ<|And.intro @abL<|And.intro @abK<|And.intro @V9<|And.intro @V'<|@Wa
def ald:=
 And.intro @Wb<|And.intro @SA<|And.intro @alh<|And.intro @B5<|And.intro @ali<|And.intro @ahC<|And.intro @alj<|And.intro @ahD<|And.intro @alk<|And.intro @ahE<|And.intro @alm<|And.intro @ahF<|And.intro @aln<|And.intro @ahG<|And.intro @alo<|And.intro @ahH<|And.intro @alp<|And.intro @aaE<|And.intro @aaB<|And.intro @aaD<|And.intro @aaC<|And.intro @aaF<|And.intro @Bool.or_false<|And.intro @aoE<|And.intro @Bool.or_true<|And.intro @Bool.true_or<|And.intro @ahs<|And.intro @ahc<|And.intro @JY<|And.intro @aif<|And.intro @aih<|And.intro @VF<|And.intro @VL<|And.intro @VM<|And.intro @VN<|And.intro @VO<|And.intro @VP<|And.intro @VQ<|And.intro @VR<|@VS
def ale:=
 And.intro @VE<|And.intro @VG<|And.intro @VH<|And.intro @VI<|And.intro @VJ<|And.intro @VK<|And.intro @ajY<|And.intro @ajZ<|And.intro @Ub<|And.intro @ajX<|And.intro @ajK<|And.intro @ajM<|And.intro @ajJ<|@ajL
end
section
open Go Go.RowKit
variable [Lay]
theorem xN {B:Nat} {h:ah} {size:Nat} {s:V} {n:Nat} {us cs:List V} (cy:1<=size) (H1:c_ B h size s n us) (dr:B<=h.next) (hlen:(n+1) * size<=top) (gZ:cs.length=size) (a8:fq cs=true):
 ∃v aa,iY size s (.slice (aC h.next) 0 1 1) (h.new (.a_ cs 0 false))=.val v aa/\c_ B aa size v (n+1) (us++cs)/\Mod s.bj h aa/\h.next+1<=aa.next/\∀b,v.bj b->s.bj b\/h.next<cR b:=by
 have ar:Ext h (h.new (.a_ cs 0 false)):=(Ext.refl h).new _;have bB:e9 (h.new (.a_ cs 0 false)) size (.slice (aC h.next) 0 1 1) 1 cs:=by refine ⟨by rw [gZ];omega,rfl,hB (by rw [gD];omega),cs,.inr ⟨0,false,by rw [ju]⟩,by omega,by simp⟩
 obtain ⟨v,aa,ag,av,aI,bU⟩:=Ai cy (H1.ext ar) bB (by rw [gD];omega) hlen a8;refine ⟨v,aa,ag,av,(ar.mod _).trans aI,by have:=aI.next;rw [gD] at this;exact this,fun b aj=>?_⟩;rcases bU b aj with q | q
 . exact .inl q
 . exact .inr (by rw [gD] at q;omega)
theorem UC:∀l:List UInt8,o8 (dQ l)=some l
 | []=>rfl
 | c::l=>by have bA:=UC l;simp only [dQ,o8,bA];simp
theorem oQ:∀l:List UInt8,(dQ l).length=l.length
 | []=>rfl
 | c::l=>by simp only [dQ,am0,oQ l]
theorem tA:∀l m:List UInt8,dQ (l++m)=dQ l++dQ m
 | [],m=>rfl
 | c::l,m=>by simp only [dQ,ang,tA l m]
theorem Ds:∀l:List UInt8,fq (dQ l)=true
 | []=>rfl
 | c::l=>by have bA:=Ds l;simp only [dQ,fq,bA,SS,anY]
theorem Uj {h:ah} {b:aU} {us:List V} {cT:Nat} {st:Bool} {off:Nat} {l:List UInt8} (al:h.get b=.a_ us cT st) (ax:off+l.length<=us.length) (hu:(us.drop off).take l.length=dQ l):uU b off l.length h=.val (.str l) h:=by unfold uU;rw [al];simp only [cm.pL,cm.a_];rw [show Nat.ble (off+l.length) us.length=true from by rw [ann];exact ax];simp only [am4];rw [DZ us l.length off ax,hu,UC]
theorem xU {B:Nat} {h:ah} {v:V} {n:Nat} {l:List UInt8} (H:c_ B h 1 v n (dQ l)):tE.run v h=.val (.str l) h:=by
 have J:=H.1;rw [oQ,aov] at J;have ad:=H.2;cases v<;>simp only at ad<;>try (exact ad.elim)
 case cc=>
  subst ad;rw [aoF] at J;subst J;rfl
 case slice=>
  obtain ⟨ag,av,aI,bU,c8,us,cT,st,eH,iR,kg⟩:=ad;rw [oQ] at kg;simp only [tE];rw [ag,<-J];exact Uj eH (by omega) kg
 case eu=>
  obtain ⟨ag,av,aI,bU,c8,us,st,eH,iR,kg⟩:=ad;rw [oQ] at kg iR;simp only [tE];rw [ag,bU,<-J];exact Uj eH (by omega) (by simpa using kg)
def GW (size:Nat) (s:V) (m:Nat) (ai:List V) (h:ah):a7:=match s with
 | .cc=>tx size m ai h
 | .slice b off len cap=>tw size b off len cap m ai h
 | .eu b off len idx=>tv size b off len idx m ai h
 | _=>.fail
theorem V3 {B:Nat} {h:ah} {size:Nat} {s x:V} {n m:Nat} {us ai:List V} (cy:1<=size) (H1:c_ B h size s n us) (my:ai.length=m * size) (abb:iY size s x h=GW size s m ai h) (dr:B<=h.next) (hlen:(n+m) * size<=top) (a8:fq ai=true):
 ∃v aa,iY size s x h=.val v aa/\c_ B aa size v (n+m) (us++ai)/\Mod s.bj h aa/\∀b,v.bj b->s.bj b\/h.next<=cR b:=by
 have l2:n+m<=top:=anM (Nat.le_mul_of_pos_right _ cy) hlen;have iI:=H1.1;have bK:(us++ai).length=(n+m) * size:=by rw [amZ,iI,my,an0]
 rw [abb];unfold GW;have ad:=H1.2;cases s<;>simp only at ad ⊢<;>try (exact ad.elim)
 case cc=>
  subst ad;have:us=[]:=anI (by omega);subst this;unfold tx;by_cases hm:m=0
  . subst hm;have:ai=[]:=anI (by omega);subst this;exact ⟨.cc,h,rfl,⟨by simp,rfl⟩,Mod.refl _ _,fun b aj=>.inl aj⟩
  . rw [show Nat.beq m 0=false from by rw [<-Bool.not_eq_true,anA];exact hm];simp only [anf];rw [wV (by rw [my];simpa using hlen) cy];refine ⟨_,_,rfl,?_,(Mod.refl _ _).new _,fun b aj=>.inr (by rw [show b=aC h.next from aj,dX];exact am6 _)⟩;have:=c_.grown (B:=B) (h:=h) (size:=size) (ai:=ai) (n:=m) (st:=false) my dr;simpa using this
 case slice b off len cap=>
  obtain ⟨rfl,av,aI,bU,c8,kj,cT,st,eH,iR,kg⟩:=ad;unfold tw;by_cases ao:len+m<=cap
  . rw [show Nat.ble (len+m) cap=true from by rw [ann];exact ao];simp only [am4];have gA:off+len * size+ai.length<=kj.length:=by
     have:=anO size ao;rw [an0] at this;rw [my];omega
    rw [Own.lay (ai:=kj) (cT:=cT) (st:=st) eH gA a8];refine ⟨_,_,rfl,⟨bK,rfl,av,aI,ao,c8,_,cT,st,fm _ _ _ |>.trans (anb rfl),?_,?_⟩,(Mod.refl (V.bj (.slice b off len cap)) h).set (fun _=>rfl) _,fun bV aj=>.inl aj⟩
    . rw [Cw _ _ _ gA];exact iR
    . rw [amZ];unfold jF;have eE:off+us.length<=kj.length:=by rw [iI];omega
      have an:kj.take (off+len * size)=kj.take off++us:=by rw [<-iI,List.take_add,kg]
      rw [an,ana,ana,List.drop_append,anD (by rw [anH];omega),anh];rw [show off - (kj.take off).length=0 from by rw [anH];omega,anN];rw [<-List.append_assoc,aoW (by rw [amZ])]
  . rw [show Nat.ble (len+m) cap=false from by rw [<-Bool.not_eq_true,ann];exact ao];simp only [anf];rw [show (Nat.ble (len+m) top&&Nat.ble cap top)=true from by simp only [amX,ann];exact ⟨l2,c8⟩];simp only [am4];have vP:iU h b off us:=⟨aI,kj,.inr ⟨cT,st,eH⟩,by rw [iI];have:=anO size bU;omega,kg⟩;rw [xc vP iI];simp only;rw [wV (by rw [bK];exact hlen) cy];exact ⟨_,_,rfl,c_.grown bK dr,(Mod.refl _ _).new _,fun b aj=>.inr (by rw [show b=aC h.next from aj,dX];exact am6 _)⟩
 case eu b off len idx=>
  obtain ⟨rfl,av,aI,rfl,rfl,kj,st,eH,iR,kg⟩:=ad;unfold tv;by_cases hm:m=0
  . subst hm;have:ai=[]:=anI (by omega);subst this;exact ⟨_,h,rfl,⟨bK,rfl,av,aI,rfl,rfl,kj,st,eH,by simpa using iR,by simpa using kg⟩,Mod.refl _ _,fun b aj=>.inl aj⟩
  . rw [show Nat.beq m 0=false from by rw [<-Bool.not_eq_true,anA];exact hm];simp only [anf];rw [eH];simp only [cm.a_,cm.on];rw [show (Nat.beq size size&&(Nat.ble (len+m) top&&fq ai)&&Nat.beq 0 (0 * size))=true from by
     simp only [amX,anA,ann]
     exact ⟨⟨trivial,l2,a8⟩,by omega⟩]
    simp only [am4];have vP:iU h b 0 us:=⟨aI,kj,.inr ⟨size,st,eH⟩,by omega,by simpa using kg⟩;rw [xc vP iI];simp only;rw [wV (by rw [bK];exact hlen) cy];exact ⟨_,_,rfl,c_.grown (h:=h.set b .dead) bK dr,((Mod.refl (V.bj (.eu b 0 len 0)) h).set (fun _=>rfl) _).new _,fun bV aj=>.inr (by rw [show bV=aC h.next from aj,dX];exact am6 _)⟩
theorem V4 {B:Nat} {h:ah} {s:V} {n:Nat} {us:List V} (t:List UInt8) (H1:c_ B h 1 s n us) (dr:B<=h.next) (hlen:n+t.length<=top):
 ∃v aa,iY 1 s (.str t) h=.val v aa/\c_ B aa 1 v (n+t.length) (us++dQ t)/\Mod s.bj h aa/\∀b,v.bj b->s.bj b\/h.next<=cR b:=by
 refine V3 (by omega) H1 (by rw [oQ,aov]) ?_ dr (by omega) (Ds t);have aX:Nat.ble t.length top=true:=by rw [ann];omega
 have jR:rX h 1 (.str t) t.length=some (dQ t):=by simp only [rX];rw [show Nat.ble t.length t.length=true from by rw [ann];exact am6 _,aox];rfl
 unfold iY GW;simp only [oh];rw [jR];simp only [aX];rfl
theorem Mod.self {b:aU} {h aa:ah} (e:Mod (fun q=>q=b) h aa) (k:cm):Mod (fun q=>q=b) h (aa.set b k):=e.set (fun _=>rfl) k
theorem Mod.fresh {M:aU->Prop} {h aa:ah} (e:Mod M h aa) {i:Nat} (au:h.next<=i) (k:cm):Mod M h (aa.set (aC i) k):=
 e.set (fun q=>absurd (show cR (aC i)<h.next from q) (by rw [dX];omega)) k
theorem Mod.akv {M N:aU->Prop} {h ad aD:ah} (e:Mod M h ad) (q:Mod N ad aD) (aX:∀b,N b->h.next<=cR b):Mod M h aD:=
 ⟨anM e.next q.next,fun b a8 aj=>by rw [q.get b (e.cH a8) (fun k=>absurd (show cR b<h.next from a8) (by have:=aX b k;omega)),e.get b a8 aj]⟩
end
section
open Go Go.RowKit
set_option linter.defProp false
variable [Lay]
def ab:=And.intro @ak8<|And.intro @ak9 @ak'
def akX:=And.intro @ak_<|And.intro @ala<|And.intro @alb<|And.intro @alc<|And.intro @ald @ale
def akY:=And.intro @Option.isSome_some.{0}<|And.intro @aop.{0}<|And.intro @anz.{1}<|And.intro @anw.{1}<|And.intro @aoJ<|And.intro @ao7<|And.intro @anj.{0}<|And.intro @anS.{0}<|And.intro @am0.{0}<|And.intro @am8.{0}<|
 And.intro @anN.{0}<|And.intro @aoh.{0}<|And.intro @aoe.{0}<|And.intro @List.take_zero.{0}<|And.intro @ang.{0}<|And.intro @anh.{0}<|And.intro @amW.{0}<|And.intro @exists_eq_left'.{1}<|And.intro @aoC.{0}<|
 And.intro @Nat.succ_ne_zero<|And.intro @adn<|And.intro @adm<|And.intro @List.getElem?_nil.{0}<|And.intro @aoQ<|And.intro @aoK<|And.intro @eq_self.{1}<|And.intro @not_true_eq_false<|And.intro @not_false_eq_true<|And.intro @ite_true.{1} @ite_false.{1}
def cx:=And.intro akX (And.intro akY (And.intro @jh.eq_1 (And.intro @jh.eq_2 (And.intro @aW.fv.eq_1 (And.intro @aW.fv.eq_2 (And.intro @pM.eq_1 (And.intro @pM.eq_2 (And.intro @pM.eq_3 (And.intro @over.eq_1 (And.intro @over.eq_2 (And.intro @over.eq_3 (And.intro @fq.eq_1 (@fq.eq_2)))))))))))))
def ae:=And.intro cx (And.intro @ei.ends.eq_1 (And.intro @ei.ends.eq_2 (And.intro @kp.eq_1 (And.intro @kp.eq_2 (And.intro @kp.eq_3 (And.intro @kp.eq_4 (And.intro @oneOf.eq_1 (And.intro @oneOf.eq_2 top.eq_1))))))))
end
section
open Go Go.RowKit
variable [Lay]
theorem YQ {P:Program} {f:FuncId} (bc:Nat.beq f dv=false) {v:V} (bB:∀E x,x=.bool true->Rel E v x) (hM:∃fn,P.funcs[f]? =some fn/\fn.body.isSome=true) (H:∀w,Lay.ok w->Calls P f #[] w fun e w'=>e=.returned (.bool true)/\Below w.heap.size w w') (h:ah):
 ff P f [] h v h:=by
 refine ⟨fun e=>by subst e;simp at bc,.inl ⟨hM,fun aB E w xs ar s=>?_⟩⟩;simp only [bm] at ar;subst ar;refine (H w (Lay.gp s.laid s.frame)).mono fun e w' q=>?_;obtain ⟨rfl,aj⟩:=q;exact ⟨E,_,rfl,fun _ _ q=>q,bB E _ rfl,s.below aj⟩
def r1 (E:Env) (h:ah) (p:iW):Env:=fun b=>if b=aC h.next then some p else E b
theorem UM (E:Env) (h:ah) (p:iW):r1 E h p (aC h.next)=some p:=anb rfl
theorem K3 {aB:Fr} {E:Env} {h:ah} {w:World} (s:ba aB E h w) (p:iW):E.le (r1 E h p):=fun b q aq=>by unfold r1;rw [am7 (fun e=>by rw [e,s.fresh _ (am6 _)] at aq;cases aq)];exact aq
theorem ajV {W:World} {E:Env} {h:ah} (s:ba ⟨W,fun _=>none⟩ E h W) (p:iW) (k:cm) (a8:k.own=false) (ay:hf W.heap.size (r1 E h p) W (aC h.next) k):
 ba ⟨W,fun _=>none⟩ (r1 E h p) (h.new k) W:=by
 refine ⟨fun b _=>?_,fun _ _ h=>(by cases h),fun b bV q fy J ad an aN aq=>?_,fun i au=>?_,s.frame,s.laid,fun b q n cs st J an=>by
  rw [jt] at J;by_cases bW:aC h.next=b
  . rw [anb bW] at J;rw [J] at a8;cases a8
  . rw [am7 bW] at J;unfold r1 at an;rw [am7 (fun e=>bW e.symm)] at an;exact s.base _ _ _ _ _ J an⟩
 . rw [jt];by_cases e:aC h.next=b
   . subst e;rw [anb rfl];exact ay
   . rw [am7 e];exact (s.bj b rfl).mono (K3 s p)
 . rw [jt] at J ad;by_cases bW:aC h.next=b
   . rw [anb bW,a8] at J;cases J
   . by_cases cw:aC h.next=bV
     . rw [anb cw,a8] at ad;cases ad
     . rw [am7 bW] at J;rw [am7 cw] at ad;unfold r1 at an aN;rw [am7 (fun e=>bW e.symm)] at an;rw [am7 (fun e=>cw e.symm)] at aN;exact s.inj b bV q fy J ad an aN aq
 . rw [gD] at au;unfold r1;rw [am7 (fun e=>by have:=lF e;omega)];exact s.fresh i (by omega)
theorem ajW {W:World} {E:Env} {h:ah} (s:ba ⟨W,fun _=>none⟩ E h W) {k base cap:Nat} {c:Array Value} {el:TypeId} {b5:Nat × Nat} (ay:W.heap[k]? =some (.cells c el b5)) {ai:List V}
 (ao:base+ai.length<=c.size) (aJ:∀i v y,ai[i]? =some v->c[base+i]? =some y->Rel E v y):
 ba ⟨W,fun _=>none⟩ (r1 E h ⟨k,base,cap⟩) (h.new (.ro ai)) W:=by
 refine ajV s _ _ rfl ?_;have aL:k<W.heap.size:=by
  by_cases aL:k<W.heap.size
  . exact aL
  . rw [aoo (by omega)] at ay;cases ay
 refine ⟨trivial,⟨k,base,cap⟩,c,el,b5,UM _ _ _,aL,ay,ao,fun i y au bc=>?_⟩;have:T.get .bad (aC i) (gr .e 0 ai)=ai[i]:=by have:=AO ai 0 i .e;rw [anB] at this;rw [this,anb au,amY au];rfl
 rw [this];exact Rel.mono (K3 s _) _ _ (aJ i _ y (amY au) bc)
end
end Go.Proofs.YtefceblncmdkhaaGreatDoor.bd
