/- The abstract machine and its walks (a verified interpreter of the model's code: plain definitions and lemmas, no condition). Printed by a program from longer texts: names made short. -/
import Derived.Test.YtefceblncmdkhaaGreatDoorM3
import Derived.IntWalk
import Derived.ChangeArms
import Derived.DataReads
set_option linter.unusedSectionVars false
set_option linter.unusedSimpArgs false
set_option linter.unusedVariables false
set_option maxHeartbeats 64000000
noncomputable section
namespace Go.Proofs.YtefceblncmdkhaaGreatDoor.bb
section
open Go Go.RowKit
variable [Lay]
inductive aW where
 | t (n:Nat)
 | c (v:V)
abbrev bA:=Nat->V
def aW.aV (r:bA):aW->V
 | .t n=>r n
 | .c v=>v
def aW.fC (r:bA):List aW->List V
 | []=>[]
 | x::xs=>x.aV r::aW.fC r xs
def rx:Operand->aW
 | .tmp t=>bif Nat.ble t top then .t t else .c .bad
 | .const v=>.c (h1 v)
 | .func f=>bif Nat.beq f dy then .c .bad else .c (.func f [])
 | .global _=>.c .bad
def lK:List Operand->List aW
 | []=>[]
 | x::xs=>rx x::lK xs
def aW.opt (r:bA):Option aW->Option V
 | none=>none
 | some x=>some (x.aV r)
def s':Option Operand->Option aW
 | none=>none
 | some x=>some (rx x)
inductive dV where
 | int (op:BinOp)
 | str (op:BinOp)
 | shl
 | shr
 | A0 (neg:Bool)
 | lX (neg:Bool) (k:Nat)
 | other (op:BinOp) (t:TypeId)
def dV.run (P:Program):dV->V->V->Option V
 | .int op=>(lr op).run
 | .str op=>(tc op).run
 | .shl=>(xf true).run
 | .shr=>(xf false).run
 | .A0 neg=>(j_ neg ra).run
 | .lX neg k=>(j_ neg (hP k)).run
 | .other op t=>(sg P op t).run
inductive tk where
 | int (k:IntKind)
 | bytes
 | str
 | other (s d:TypeId)
def tk.run (P:Program):tk->V->ah->a8
 | .int k=>fun x h=>x.e0 .fail fun _ n=>.val (.int k (k.wrap n)) h
 | .bytes=>vz.run
 | .str=>tD.run
 | .other s d=>(q' P s d).run
inductive nO where
 | int | str | bool
def nO.eq:nO->ef
 | .int=>nm
 | .str=>vH
 | .bool=>ra
inductive Dp where
 | arr (n:Nat)
 | str
 | slice
 | map
inductive G where
 | bad
 | bk (x:aW)
 | pick (c a b:aW)
 | new (z:List V)
 | box (x:aW)
 | build (z:List V) (bE:List (Nat × Nat × aW))
 | e4 (len size:Nat) (z:List V) (bE:List (Nat × Nat × aW))
 | ep (x:aW)
 | jM (size:Nat) (x:aW)
 | st (size:Nat) (x y:aW)
 | uE (x:aW)
 | bin (k:dV) (x y:aW)
 | un (op:UnOp) (x:aW)
 | ia (k:tk) (x:aW)
 | fn (f:FuncId) (fe:List aW)
 | uA (f:FuncId) (first:List aW)
 | Dx (t:TypeId) (z:Option V) (ok:Bool) (x:aW)
 | sN (t:TypeId) (x:aW)
 | ze (size:Nat) (z:List V) (l c:aW)
 | qS (x:aW) (bQ au eZ:Option aW)
 | dZ (size:Nat) (x:aW) (bQ au eZ:Option aW)
 | gP (off:Nat) (x:aW)
 | vL (off:Nat) (x:aW)
 | vM (off size:Nat) (x:aW)
 | dj (size:Nat) (x i:aW)
 | t_ (n size:Nat) (x i:aW)
 | oj (x i:aW)
 | kB (t:TypeId) (x i:aW)
 | look (k:nO) (z:V) (ok:Bool) (x i:aW)
 | CQ (k:nO) (m i x:aW)
 | Cc (x:Option aW)
 | zx (x:aW)
 | zk (x:aW)
 | ext (x:aW) (i:Nat)
 | call (f:FuncId) (args:List aW)
 | qc (f:aW) (args:List aW)
 | len (k:Dp) (x:aW)
 | app (size:Nat) (s x:aW)
 | copy (size:Nat) (d s:aW)
 | zf (args:List aW)
 | eZ (args:List aW)
 | OV (z:List V) (x:aW)
 | DJ (x:aW)
 | Mc (size:Nat) (z:List V) (s x:aW)
 | E5 (z:V) (ok:Bool) (x i:aW)
 | looks (k:TypeId) (z:V) (ok:Bool) (x i:aW)
 | Va (m i x:aW)
 | Vb (k:TypeId) (m i x:aW)
 | SN (z:V) (m i:aW)
 | SO (k:TypeId) (z:V) (m i:aW)
 | PK (m s x:aW)
 | Ui (x:aW)
 | SZ (x:aW)
 | PA (x:aW)
 | Cx (neg:Bool) (x y:aW)
 | gp (f:aW) (args:List aW)
abbrev ej:Nat:=17179869185
def k_ (r:bA):List (Nat × Nat × aW)->List (Nat × Nat × V)
 | []=>[]
 | (o,s,x)::bE=>(o,s,x.aV r)::k_ r bE
def jX:List V->List (Nat × Nat × V)->Option (List V)
 | cells,[]=>some cells
 | cells,(off,size,v)::rest=>bif v.fR&&(Nat.beq v.cells.length size&&Nat.ble (off+v.cells.length) cells.length) then jX (so cells off v.cells) rest else none
def Dp.run:Dp->V->ah->a8
 | .arr n=>fun _ h=>.val (.int .i64 n) h
 | .str=>fun x h=>a8.of h ((pH .string).run x)
 | .slice=>fun x h=>a8.of h ((pH (.slice 0)).run x)
 | .map=>fun x h=>B4 [x] h
def KL (neg:Bool) (h:ah) (x y:V):Option V:=
 match ml h x y with
 | some b=>some (.bool (bif neg then !b else b))
 | none=>none
def G.run (P:Program) (g:G) (call:eA) (r:bA) (h:ah):a8:=
 match g with
 | .bad=>.fail
 | .bk x=>.val (x.aV r) h
 | .pick c a b=>match c.aV r with
   | .bool t=>.val (bif t then a.aV r else b.aV r) h
   | _=>.fail
 | .new z=>hF (.ptr (aD h.next) 0) (gU h z)
 | .box x=>bif (x.aV r).fR then hF (.ptr (aD h.next) 0) (gU h (x.aV r).cells) else .fail
 | .build z bE=>(match jX z (k_ r bE) with
   | some cs=>.val (.agg cs) h
   | none=>.fail)
 | .e4 n _ z bE=>match jX (jr z n) (k_ r bE) with
   | some cs=>(match gU h cs with
     | some ab=>.val (.slice (aD h.next) 0 n n) ab
     | none=>.fail)
   | none=>.fail
 | .ep x=>a8.of h (ou h (x.aV r))
 | .jM n x=>a8.of h (ot n h (x.aV r))
 | .st n x y=>hF .bad (r0 n h (x.aV r) (y.aV r))
 | .uE x=>a8.of h (uD (x.aV r))
 | .bin k x y=>a8.of h (k.run P (x.aV r) (y.aV r))
 | .un op x=>a8.of h (r2 op (x.aV r))
 | .ia k x=>k.run P (x.aV r) h
 | .fn f fe=>.val (.func f (aW.fC r fe)) h
 | .uA f first=>.val (.kW f (aW.fC r first)) h
 | .Dx t z ok x=>a8.of h (Ay t z ok (x.aV r))
 | .sN t x=>.val (.iface t (x.aV r)) h
 | .ze n z l c=>uy n z (l.aV r) (c.aV r) h
 | .qS x bQ au m3=>a8.of h (mV (x.aV r) (aW.opt r bQ) (aW.opt r au) (aW.opt r m3))
 | .dZ n x bQ au m3=>a8.of h (match x.aV r with
   | .cr=>zD (aW.opt r bQ) (aW.opt r au) (aW.opt r m3)
   | .slice b off wQ cap=>rY n b off wQ cap (aW.opt r bQ) (aW.opt r au) (aW.opt r m3)
   | .et b off wQ idx=>s_ n b off wQ idx (aW.opt r bQ) (aW.opt r au) (aW.opt r m3)
   | .gV b off mi idx=>zE b off mi idx (aW.opt r bQ) (aW.opt r au) (aW.opt r m3)
   | _=>none)
 | .gP off x=>a8.of h ((x.aV r).j0 none fun b o=>some (.ptr b (o+off)))
 | .vL off x=>a8.of h (match x.aV r with
   | .agg cs=>cs[off]?
   | _=>none)
 | .vM off n x=>a8.of h (match x.aV r with
   | .agg cs=>some (.agg ((cs.drop off).take n))
   | _=>none)
 | .dj n x i=>a8.of h ((wI n).run (x.aV r) (i.aV r))
 | .t_ n s x i=>a8.of h ((sP n s).run (x.aV r) (i.aV r))
 | .oj x i=>a8.of h (sR.run (x.aV r) (i.aV r))
 | .kB t x i=>a8.of h ((sQ P t).run (x.aV r) (i.aV r))
 | .look k z ok x i=>a8.of h (kD k.eq z ok h (x.aV r) (i.aV r))
 | .CQ k m i x=>hF .bad (pY k.eq h (m.aV r) (i.aV r) (x.aV r))
 | .Cc x=>wV (aW.opt r x) h
 | .zx x=>(match x.aV r with
   | .str s=>.val (.ptr (aD h.next) 0) (h.new (.iter s 0))
   | _=>.fail)
 | .zk x=>w0 (x.aV r) h
 | .ext x i=>(match x.aV r with
   | .tuple ai=>a8.of h ai[i]?
   | _=>.fail)
 | .call f args=>call f (aW.fC r args) h
 | .qc f args=>(f.aV r).zn (aW.fC r args) fun g xs=>call g xs h
 | .len k x=>k.run (x.aV r) h
 | .app n s x=>jz n (s.aV r) (x.aV r) h
 | .copy n d s=>copyV n (d.aV r) (s.aV r) h
 | .zf args=>a8.of h (lF (fun b a=>!Int.leB a b) (aW.fC r args))
 | .eZ args=>a8.of h (lF (fun b a=>!Int.leB b a) (aW.fC r args))
 | .OV z x=>DM z (x.aV r) h
 | .DJ x=>a8.of h (AN (x.aV r))
 | .Mc n z s x=>G8 n z (s.aV r) (x.aV r) h
 | .E5 z ok x i=>a8.of h (nF ⟨ml h⟩ z ok h (x.aV r) (i.aV r))
 | .looks k z ok x i=>a8.of h (bif rK P k (i.aV r) then nF (structEq P k) z ok h (x.aV r) (i.aV r) else none)
 | .Va m i x=>hF .bad (pY ⟨ml h⟩ h (m.aV r) (i.aV r) (x.aV r))
 | .Vb k m i x=>hF .bad (bif rK P k (i.aV r) then pY (structEq P k) h (m.aV r) (i.aV r) (x.aV r) else none)
 | .SN z m i=>HN z (m.aV r) (i.aV r) h
 | .SO k z m i=>HO P k z (m.aV r) (i.aV r) h
 | .PK m s x=>hF .bad (AW h (m.aV r) (s.aV r) (x.aV r))
 | .Ui x=>rangeMap (x.aV r) h
 | .SZ x=>hD (x.aV r) h
 | .PA x=>DW (x.aV r) h
 | .Cx neg x y=>a8.of h (KL neg h (x.aV r) (y.aV r))
 | .gp f args=>(match f.aV r with
   | .func g cs=>bif Nat.beq g dy then .fail else .val (.tuple (.func g (aW.fC r args++cs)::(r ej).list)) h
   | _=>.fail)
def KT (P:Program) (op:BinOp) (t:TypeId):dV:=
 match op with
 | .shl=>.shl
 | .shr=>.shr
 | op=>match bg P t with
   | none=>.other op t
   | some aO=>match aO.bl with
     | .int _=>.int op
     | .string=>.str op
     | .bool=>(match op with
       | .eql=>.A0 false
       | .neq=>.A0 true
       | _=>.other op t)
     | .pointer _=>(match op with
       | .eql=>.lX false 1
       | .neq=>.lX true 1
       | _=>.other op t)
     | .slice _=>(match op with
       | .eql=>.lX false 2
       | .neq=>.lX true 2
       | _=>.other op t)
     | .map _ _=>(match op with
       | .eql=>.lX false 3
       | .neq=>.lX true 3
       | _=>.other op t)
     | .func _ _ _=>(match op with
       | .eql=>.lX false 4
       | .neq=>.lX true 4
       | _=>.other op t)
     | _=>.other op t
def KY (P:Program) (op:BinOp) (t:TypeId) (lit:Bool):dV:=
 bif lit then (match bg P t with
  | some aO=>match aO.bl with
    | .interface _=>match op with
      | .eql=>.lX false 5
      | .neq=>.lX true 5
      | _=>.lX false 99
    | _=>.lX false 99
  | none=>.lX false 99) else KT P op t
def KW (P:Program) (s d:TypeId):tk:=
 match bg P s,bg P d with
 | some uU,some pf=>match pf.bl with
   | .int k=>.int k
   | .string=>match uU.bl with
     | .slice e=>match bg P e with
       | some bj=>match bj.bl with
         | .int .u8=>.str
         | _=>.other s d
       | none=>.other s d
     | _=>.other s d
   | .slice e=>match bg P e with
     | some bj=>match bj.bl with
       | .int .u8=>.bytes
       | _=>.other s d
     | none=>.other s d
   | _=>.other s d
 | _,_=>.other s d
def qM (place:Nat->Option (Nat × Nat)):List (Nat × Operand)->Option (List (Nat × Nat × aW))
 | []=>some []
 | (i,x)::bE=>match place i with
   | none=>none
   | some (off,size)=>match qM place bE with
     | none=>none
     | some l=>some ((off,size,rx x)::l)
def T' (P:Program) (t:TypeId) (bE:List (Nat × Operand)):G:=
 match bg P t with
 | some aO=>match aO.zero with
   | some z=>match aO.bl with
     | .struct cf=>bif D6 P cf.toList then (match qM (x_ P cf) bE with
       | some l=>.build z.cells l
       | none=>.bad) else .bad
     | .array _ e=>match bg P e with
       | some bj=>(match qM (fun i=>some (i * bj.size,bj.size)) bE with
         | some l=>.build z.cells l
         | none=>.bad)
       | none=>.bad
     | _=>.bad
   | none=>.bad
 | none=>.bad
def Ub (P:Program) (t:TypeId) (len:Nat) (bE:List (Nat × Operand)):G:=
 match bg P t with
 | some aO=>match aO.bl with
   | .slice e=>match bg P e with
     | some bj=>match bj.zero with
       | some z=>bif Nat.ble (len * bj.size) 1000000&&Nat.beq z.cells.length bj.size then
          (match qM (fun i=>some (i * bj.size,bj.size)) bE with
          | some l=>.e4 len bj.size z.cells l
          | none=>.bad) else .bad
       | none=>.bad
     | none=>.bad
   | _=>.bad
 | none=>.bad
def wP:TypeDesc->Option nO
 | .int _=>some .int
 | .string=>some .str
 | .bool=>some .bool
 | _=>none
def HB (P:Program) (t:TypeId):Option (List V):=
 match bg P t with
 | some aO=>match aO.bl with
   | .slice e=>match bg P e with
     | some bj=>match bj.zero with
       | some z=>some z.cells
       | none=>none
     | none=>none
   | _=>none
 | none=>none
theorem Zv (P:Program) (t:TypeId):AO P t=HB P t:=rfl
def KV (P:Program) (c:Call):G:=
 match c.callee with
 | .value (.func f)=>bif Nat.beq f dy then .bad else .call f (lK c.args.toList)
 | .value x=>.qc (rx x) (lK c.args.toList)
 | .invoke _ _=>.bad
 | .builtin b=>match b with
   | .len=>match c.argTypes.toList,c.args.toList with
     | [t],[x]=>(match bg P t with
       | some aO=>(match aO.bl with
         | .map _ _=>.len .map (rx x)
         | .array n _=>.len (.arr n) (rx x)
         | .string=>.len .str (rx x)
         | .slice _=>.len .slice (rx x)
         | _=>.bad)
       | none=>.bad)
     | _,_=>.bad
   | .append=>match c.argTypes.toList,c.args.toList with
     | [t,u],[s,x]=>(match bg P t,bg P u with
       | some aO,some mq=>(match mq.bl with
         | .int _=>(match aO.bl with
           | .slice e=>(match bg P e with
             | none=>.bad
             | some bj=>match bj.zero with
               | none=>.bad
               | some z=>bif Nat.ble 1 bj.size&&Nat.ble bj.bytes 4096&&Nat.beq z.cells.length bj.size then .Mc bj.size z.cells (rx s) (rx x) else .bad)
           | _=>.bad)
         | _=>match aO.bl with
           | .slice e=>(match bg P e with
             | none=>.bad
             | some bj=>match bj.zero with
               | none=>.bad
               | some z=>bif Nat.ble 1 bj.size&&Nat.ble bj.bytes 4096&&Nat.beq z.cells.length bj.size then .app bj.size (rx s) (rx x) else .bad)
           | _=>.bad)
       | _,_=>.bad)
     | _,_=>.bad
   | .copy=>match c.argTypes.toList,c.args.toList with
     | t::_,[d,s]=>(match bg P t with
       | some aO=>(match aO.bl with
         | .slice e=>(match bg P e with
           | some bj=>.copy bj.size (rx d) (rx s)
           | none=>.bad)
         | _=>.bad)
       | none=>.bad)
     | _,_=>.bad
   | .min=>.zf (lK c.args.toList)
   | .max=>.eZ (lK c.args.toList)
   | .clear=>match c.argTypes.toList,c.args.toList with
     | [t],[x]=>(match HB P t with
       | some z=>.OV z (rx x)
       | none=>.bad)
     | _,_=>.bad
   | .cap=>match c.argTypes.toList,c.args.toList with
     | [t],[x]=>(match bg P t with
       | some aO=>bif BN aO.bl then .DJ (rx x) else .bad
       | none=>.bad)
     | _,_=>.bad
   | _=>.bad
def FV (P:Program) (op:Op):G:=
 match op with
 | .move x=>.bk (rx x)
 | .assign x=>.bk (rx x)
 | .pick c a b=>.pick (rx c) (rx a) (rx b)
 | .alloc t=>(match bg P t with
   | some aO=>(match aO.zero with
     | some z=>.new z.cells
     | none=>.bad)
   | none=>.bad)
 | .box _ x=>.box (rx x)
 | .build t bE=>T' P t bE.toList
 | .buildSlice t n bE=>Ub P t n bE.toList
 | .load t x=>(match bg P t with
   | none=>.bad
   | some aO=>bif aO.agg then .jM aO.size (rx x) else bif Nat.beq aO.size 1 then .ep (rx x) else .bad)
 | .store t x y=>(match bg P t with
   | none=>.bad
   | some aO=>.st aO.size (rx x) (rx y))
 | .nilCheck x=>.uE (rx x)
 | .binOp op t x y _=>.bin (KY P op t (rQ x||rQ y)) (rx x) (rx y)
 | .unOp op _ x=>.un op (rx x)
 | .convert s d x=>.ia (KW P s d) (rx x)
 | .makeFunc (.func f) first fe=>bif first.isEmpty&&!Nat.beq f dy then .fn f (lK fe.toList) else bif fe.isEmpty&&!Nat.beq f dy then .uA f (lK first.toList) else .bad
 | .makeInterface t x=>(match bg P t with
   | some aO=>bif Nat.beq (fG aO.bl) 5 then .bad else .sN t (rx x)
   | none=>.bad)
 | .makeSlice t l c=>(match bg P t with
   | some aO=>(match aO.bl with
     | .slice e=>(match bg P e with
       | some bj=>(match bj.zero with
         | some z=>bif Nat.ble bj.bytes 4096 then .ze bj.size z.cells (rx l) (rx c) else .bad
         | none=>.bad)
       | none=>.bad)
     | _=>.bad)
   | none=>.bad)
 | .slice t x bQ au eZ=>(match bg P t with
   | none=>.bad
   | some aO=>match aO.bl with
     | .string=>.qS (rx x) (s' bQ) (s' au) (s' eZ)
     | .slice e=>(match bg P e with
       | none=>.bad
       | some bj=>.dZ bj.size (rx x) (s' bQ) (s' au) (s' eZ))
     | _=>.bad)
 | .fieldAddr t x i=>(match ri P t i with
   | none=>.bad
   | some f=>match bg P f.type with
     | none=>.bad
     | some la=>bif Nat.beq la.size 0 then .bad else .gP f.offset (rx x))
 | .field t x i=>(match ri P t i with
   | none=>.bad
   | some f=>match bg P f.type with
     | none=>.bad
     | some aO=>bif aO.agg then .vM f.offset aO.size (rx x) else .vL f.offset (rx x))
 | .indexAddr t x i=>(match bg P t with
   | none=>.bad
   | some aO=>match aO.bl with
     | .slice e=>(match bg P e with
       | none=>.bad
       | some bj=>.dj bj.size (rx x) (rx i))
     | .array n e=>(match bg P e with
       | none=>.bad
       | some bj=>.t_ n bj.size (rx x) (rx i))
     | _=>.bad)
 | .index t x i=>(match bg P t with
   | none=>.bad
   | some aO=>match aO.bl with
     | .string=>.oj (rx x) (rx i)
     | _=>.kB t (rx x) (rx i))
 | .range t x=>(match bg P t with
   | some aO=>(match aO.bl with
     | .string=>.zx (rx x)
     | .map _ _=>.Ui (rx x)
     | _=>.bad)
   | none=>.bad)
 | .next it s=>bif s then .zk (rx it) else .SZ (rx it)
 | .entry it=>.PA (rx it)
 | .lookup t x k ok=>(match bg P t with
   | some aO=>(match aO.bl with
     | .map bu e=>(match bg P bu with
       | some hf=>(match bg P e with
         | some bj=>(match bj.zero with
           | some z=>(match wP hf.bl with
             | some dB=>.look dB z ok (rx x) (rx k)
             | none=>bif lu hf.bl then .bad else bif j2 P bu then .E5 z ok (rx x) (rx k) else bif mW P bu then .looks bu z ok (rx x) (rx k) else .bad)
           | none=>.bad)
         | none=>.bad)
       | none=>.bad)
     | _=>.bad)
   | none=>.bad)
 | .mapUpdate t m k x | .insert t m k x=>(match bg P t with
   | some aO=>(match aO.bl with
     | .map bu _=>(match bg P bu with
       | some hf=>(match wP hf.bl with
         | some dB=>.CQ dB (rx m) (rx k) (rx x)
         | none=>bif lu hf.bl then .bad else bif j2 P bu then .Va (rx m) (rx k) (rx x) else bif mW P bu then .Vb bu (rx m) (rx k) (rx x) else .bad)
       | none=>.bad)
     | _=>.bad)
   | none=>.bad)
 | .mapEntry t m k=>(match bg P t with
   | some aO=>(match aO.bl with
     | .map bu e=>(match bg P e with
       | some bj=>(match bj.zero with
         | some z=>bif j2 P bu then .SN z (rx m) (rx k) else bif mW P bu then .SO bu z (rx m) (rx k) else .bad
         | none=>.bad)
       | none=>.bad)
     | _=>.bad)
   | none=>.bad)
 | .entryStore _ m st x=>.PK (rx m) (rx st) (rx x)
 | .makeMap t x=>(match bg P t with
   | some aO=>bif Nat.beq (fG aO.bl) 3 then .Cc (s' x) else .bad
   | none=>.bad)
 | .extract x i=>.ext (rx x) i
 | .typeAssert x _ t ok=>(match bg P t with
   | some aO=>bif Nat.beq (fG aO.bl) 5 then .bad else .Dx t aO.zero ok (rx x)
   | none=>.bad)
 | .call c=>KV P c
 | _=>.bad
def eR (c7:bO):bA:=fun t=>T.get .bad (aD t) c7
theorem fq (c7:bO) (x:Operand):(bZ x).run c7=(rx x).aV (eR c7):=by
 cases x with
 | tmp t=>
   simp only [bZ,rx];cases Nat.ble t top<;>rfl
 | const v=>rfl
 | func f=>
   simp only [bZ,rx];cases Nat.beq f dy<;>rfl
 | global g=>rfl
theorem x9 (c7:bO):∀xs:List Operand,(qg xs).run c7=aW.fC (eR c7) (lK xs)
 | []=>rfl
 | x::xs=>by simp only [qg,lK,aW.fC,fq,x9 c7 xs]
theorem Ku (c7:bO) (x:Option Operand):(rT x).run c7=aW.opt (eR c7) (s' x):=by
 cases x with
 | none=>rfl
 | some x=>simp only [rT,s',aW.opt,fq]
theorem D7 (c7:bO) {place:Nat->Option (Nat × Nat)}:∀{bE:List (Nat × Operand)} {l:List (Nat × Nat × aW)},qM place bE=some l->∀cells,n0 place cells ((uJ bE).run c7)=jX cells (k_ (eR c7) l)
 | [],l,h,cells=>by simp only [qM,ant] at h;subst h;rfl
 | (i,x)::bE,l,h,cells=>by
   simp only [qM] at h;cases ak:place i with
   | none=>rw [ak] at h;cases h
   | some os=>
     obtain ⟨off,size⟩:=os;rw [ak] at h;simp only at h;cases aw:qM place bE with
     | none=>rw [aw] at h;cases h
     | some gm=>
       rw [aw] at h;simp only [ant] at h;subst h;simp only [uJ,n0,ak,k_,jX,fq];cases ((rx x).aV (eR c7)).fR&&(Nat.beq ((rx x).aV (eR c7)).cells.length size&&Nat.ble (off + ((rx x).aV (eR c7)).cells.length) cells.length) with
       | false=>rfl
       | true=>exact D7 c7 aw _
section
variable {P:Program}
theorem ajC (op:BinOp) (t:TypeId):(KT P op t).run P=(sg P op t).run:=by
 unfold KT sg;cases op<;>first | rfl | skip
 all_goals
  cases aE:bg P t with
  | none=>simp only [dV.run];unfold sg;rw [aE]
  | some aO=>
    simp only;cases hu:aO.bl<;>first | rfl | (simp only [dV.run];unfold sg;rw [aE];simp only [hu];done) | (simp only [dV.run];unfold qe ib;simp only [aE,hu];first | done | rfl)
theorem ajF (op:BinOp) (t:TypeId) (lit:Bool):(KY P op t lit).run P=(AA P op t lit).run:=by
 unfold KY AA;cases lit with
 | false=>simp only [anN];exact ajC op t
 | true=>
   simp only [anC];cases bg P t with
   | none=>rfl
   | some aO=>
     simp only;cases aO.bl<;>first | rfl | (cases op<;>rfl)
theorem ajE (s d:TypeId):(KW P s d).run P=(q' P s d).run:=by
 unfold KW
 split
 . rename_i uU pf aL aZ
   split
   . rename_i k hu;simp only [tk.run];unfold q';rw [aL,aZ];simp only [hu]
   . rename_i hu
     split
     . rename_i e bB
       split
       . rename_i bj he
         split
         . rename_i hw;simp only [tk.run];unfold q';rw [aL,aZ];simp only [hu,bB,he,hw]
         . rfl
       . rfl
     . rfl
   . rename_i e hu
     split
     . rename_i bj he
       split
       . rename_i hw;simp only [tk.run];unfold q';rw [aL,aZ];simp only [hu,he,hw]
       . rfl
     . rfl
   . rfl
 . rfl
theorem JQ {d:TypeDesc} {dB:nO} (h:wP d=some dB):lu d=true/\l_ d=dB.eq:=by cases d<;>simp only [wP] at h<;>first | (cases h;done) | (cases h;exact ⟨rfl,rfl⟩)
theorem ajD {c:Call} {call:eA} {c7:bO} {h ab:ah} {v:V} (he:(KV P c).run P call (eR c7) h=.val v ab):(si P c).run call c7 h=.val v ab:=by
 unfold KV at he;unfold si
 split at he
 . rename_i f ao;rw [ao];cases bc:Nat.beq f dy with
   | true=>rw [bc] at he;cases he
   | false=>
     rw [bc] at he;simp only [anN,G.run] at he;simpa only [bZ,bc,anN,rf,V.zn,x9,an_] using he
 . rename_i x ar ao;rw [ao];simp only [G.run] at he;simpa only [fq,x9] using he
 . cases he
 . rename_i b ao;rw [ao];simp only [x9];cases b<;>simp only at he<;>try (cases he;done)
   case len=>
    split at he
    . rename_i t x aE ar;cases l8:bg P t with
      | none=>rw [l8] at he;cases he
      | some aO=>
        rw [l8] at he;simp only at he;simp only [q9,aE,l8,ar,lK,aW.fC];cases hu:aO.bl<;>rw [hu] at he<;>first | (cases he;done) | (simpa only [uf,anC,anN,G.run,Dp.run,pH,a8.of] using he)
    . cases he
   case append=>
    split at he
    . rename_i t u s x aE ar
      split at he
      . rename_i aO mq l8 yS;simp only [q9,aE,ar,lK,aW.fC,Dv,l8,yS]
        split at he
        . rename_i k ady
          split at he
          . rename_i e cI;cases fm:bg P e with
            | none=>rw [fm] at he;cases he
            | some bj=>
              rw [fm] at he;simp only at he;cases bJ:bj.zero with
              | none=>rw [bJ] at he;cases he
              | some z=>
                rw [bJ] at he;simp only at he;cases aj:(Nat.ble 1 bj.size&&Nat.ble bj.bytes 4096&&Nat.beq z.cells.length bj.size) with
                | false=>rw [aj] at he;cases he
                | true=>
                  rw [aj] at he;simp only [anC,G.run] at he;simp only [ady,cI,fm,bJ,aj,anC];exact he
          . cases he
        . rename_i eC
          split at he
          . rename_i e cI;cases fm:bg P e with
            | none=>rw [fm] at he;cases he
            | some bj=>
              rw [fm] at he;simp only at he;cases bJ:bj.zero with
              | none=>rw [bJ] at he;cases he
              | some z=>
                rw [bJ] at he;simp only at he;cases aj:(Nat.ble 1 bj.size&&Nat.ble bj.bytes 4096&&Nat.beq z.cells.length bj.size) with
                | false=>rw [aj] at he;cases he
                | true=>
                  rw [aj] at he;simp only [anC,G.run] at he;cases Jn:mq.bl<;>first
                   | (exact absurd Jn (eC _))
                   | (simp only [cI,fm,bJ,aj,anC];exact he)
          . cases he
      . cases he
    . cases he
   case copy=>
    split at he
    . rename_i t c2 d s aE ar;cases l8:bg P t with
      | none=>rw [l8] at he;cases he
      | some aO=>
        rw [l8] at he;simp only at he
        split at he
        . rename_i e cI;cases fm:bg P e with
          | none=>rw [fm] at he;cases he
          | some bj=>
            rw [fm] at he;simp only [G.run] at he;simp only [q9,aE,ar,lK,aW.fC,DO,l8,cI,fm];exact he
        . cases he
    . cases he
   case min=>exact he
   case max=>exact he
   case clear=>
    split at he
    . rename_i t x aE ar;cases ao:HB P t with
      | none=>rw [ao] at he;cases he
      | some z=>
        rw [ao] at he;simp only [G.run] at he;simp only [q9,aE,ar,lK,aW.fC,Zv,ao];exact he
    . cases he
   case cap=>
    split at he
    . rename_i t x aE ar;cases l8:bg P t with
      | none=>rw [l8] at he;cases he
      | some aO=>
        rw [l8] at he;simp only at he;cases aj:BN aO.bl with
        | false=>rw [aj] at he;cases he
        | true=>
          rw [aj] at he;simp only [anC,G.run] at he;simp only [q9,aE,ar,lK,aW.fC,l8,aj,anC];exact he
    . cases he
theorem T_ {o:Oper} {call:eA} {c7:bO} {h ab:ah} {v:V} (he:(FV P o.op).run P call (eR c7) h=.val v ab):(fW P o).run call c7 h=.val v ab:=by
 obtain ⟨dst,op,type,pos,after,guard⟩:=o;cases op<;>simp only [FV] at he<;>try (cases he;done)
 all_goals simp only [fW]
 case move x=>simpa only [fq,G.run] using he
 case assign x=>simpa only [fq,G.run] using he
 case pick c a b=>
  simp only [fq,G.run] at he ⊢;generalize (rx c).aV (eR c7)=q at he ⊢;cases q<;>exact he
 case alloc t=>
  cases aE:bg P t with
  | none=>rw [aE] at he;cases he
  | some aO=>
    rw [aE] at he;simp only at he ⊢;cases bJ:aO.zero with
    | none=>rw [bJ] at he;cases he
    | some z=>rw [bJ] at he;exact he
 case box t x=>simpa only [fq,G.run] using he
 case build t bE=>
  unfold T' at he;unfold DD;cases aE:bg P t with
  | none=>rw [aE] at he;cases he
  | some aO=>
    rw [aE] at he;simp only at he ⊢;cases bJ:aO.zero with
    | none=>rw [bJ] at he;cases he
    | some z=>
      rw [bJ] at he;simp only at he ⊢;cases hu:aO.bl<;>rw [hu] at he<;>simp only at he ⊢<;>try (cases he;done)
      . rename_i n e;cases fm:bg P e with
        | none=>rw [fm] at he;cases he
        | some bj=>
          rw [fm] at he;simp only at he ⊢;cases ak:qM (fun i=>some (i * bj.size,bj.size)) bE.toList with
          | none=>rw [ak] at he;cases he
          | some l=>
            rw [ak] at he;simp only [G.run] at he;rw [D7 c7 ak];cases aA:jX z.cells (k_ (eR c7) l) with
            | none=>rw [aA] at he;cases he
            | some cs=>rw [aA] at he;exact he
      . rename_i cf;cases ay:D6 P cf.toList with
        | false=>rw [ay] at he;cases he
        | true=>
          rw [ay] at he;simp only [anC] at he ⊢;cases ak:qM (x_ P cf) bE.toList with
          | none=>rw [ak] at he;cases he
          | some l=>
            rw [ak] at he;simp only [G.run] at he;rw [D7 c7 ak];cases aA:jX z.cells (k_ (eR c7) l) with
            | none=>rw [aA] at he;cases he
            | some cs=>rw [aA] at he;exact he
 case buildSlice t n bE=>
  unfold Ub at he;unfold vv;cases aE:bg P t with
  | none=>rw [aE] at he;cases he
  | some aO=>
    rw [aE] at he;simp only at he ⊢;cases hu:aO.bl<;>rw [hu] at he<;>simp only at he ⊢<;>try (cases he;done)
    rename_i e;cases fm:bg P e with
    | none=>rw [fm] at he;cases he
    | some bj=>
      rw [fm] at he;simp only at he ⊢;cases bJ:bj.zero with
      | none=>rw [bJ] at he;cases he
      | some z=>
        rw [bJ] at he;simp only at he ⊢;cases aj:(Nat.ble (n * bj.size) 1000000&&Nat.beq z.cells.length bj.size) with
        | false=>rw [aj] at he;cases he
        | true=>
          rw [aj] at he;simp only [anC] at he ⊢;cases ak:qM (fun i=>some (i * bj.size,bj.size)) bE.toList with
          | none=>rw [ak] at he;cases he
          | some l=>
            rw [ak] at he;simp only [G.run] at he;rw [D7 c7 ak];exact he
 case load t x=>
  unfold qH;cases aE:bg P t with
  | none=>rw [aE] at he;cases he
  | some aO=>
    rw [aE] at he;simp only at he ⊢;cases bF:aO.agg with
    | true=>rw [bF] at he;simpa only [anC,fq,G.run] using he
    | false=>
      rw [bF] at he;simp only [anN] at he ⊢;cases aL:Nat.beq aO.size 1 with
      | true=>rw [aL] at he;simpa only [anC,fq,G.run] using he
      | false=>rw [aL] at he;cases he
 case store t x y=>
  unfold ta;cases aE:bg P t with
  | none=>rw [aE] at he;cases he
  | some aO=>rw [aE] at he;simpa only [fq,G.run] using he
 case nilCheck x=>simpa only [fq,G.run] using he
 case binOp op t x y t2=>simpa only [fq,G.run,ajF] using he
 case unOp op t x=>simpa only [fq,G.run] using he
 case convert s d x=>simpa only [fq,G.run,ajE] using he
 case makeFunc fn first fe=>
  cases fn<;>simp only at he<;>try (cases he;done)
  simp only;cases aA:(first.isEmpty&&!Nat.beq _ dy) with
  | true=>rw [aA] at he;simpa only [anC,x9,G.run] using he
  | false=>
    rw [aA] at he;simp only [anN] at he ⊢;cases ke:(fe.isEmpty&&!Nat.beq _ dy) with
    | true=>rw [ke] at he;simpa only [anC,x9,G.run] using he
    | false=>rw [ke] at he;cases he
 case typeAssert x u2 t ok=>
  cases aE:bg P t with
  | none=>rw [aE] at he;cases he
  | some aO=>
    rw [aE] at he;simp only at he ⊢;cases aj:Nat.beq (fG aO.bl) 5 with
    | true=>rw [aj] at he;cases he
    | false=>rw [aj] at he;simpa only [anN,fq,G.run] using he
 case makeInterface t x=>
  cases aE:bg P t with
  | none=>rw [aE] at he;cases he
  | some aO=>
    rw [aE] at he;simp only at he ⊢;cases aj:Nat.beq (fG aO.bl) 5 with
    | true=>rw [aj] at he;cases he
    | false=>rw [aj] at he;simpa only [anN,fq,G.run] using he
 case makeSlice t l c=>
  unfold wW;cases aE:bg P t with
  | none=>rw [aE] at he;cases he
  | some aO=>
    rw [aE] at he;simp only at he ⊢;cases hu:aO.bl<;>rw [hu] at he<;>simp only at he ⊢<;>try (cases he;done)
    rename_i e;cases fm:bg P e with
    | none=>rw [fm] at he;cases he
    | some bj=>
      rw [fm] at he;simp only at he ⊢;cases bJ:bj.zero with
      | none=>rw [bJ] at he;cases he
      | some z=>
        rw [bJ] at he;simp only at he ⊢;cases aj:Nat.ble bj.bytes 4096 with
        | false=>rw [aj] at he;cases he
        | true=>rw [aj] at he;simpa only [anC,fq,G.run] using he
 case slice t x bQ au m3=>
  unfold F8;cases aE:bg P t with
  | none=>rw [aE] at he;cases he
  | some aO=>
    rw [aE] at he;simp only at he ⊢;cases hu:aO.bl<;>rw [hu] at he<;>simp only at he ⊢<;>try (cases he;done)
    . simpa only [fq,Ku,G.run] using he
    . rename_i e;cases fm:bg P e with
      | none=>rw [fm] at he;cases he
      | some bj=>
        rw [fm] at he;simp only [fq,Ku,G.run] at he ⊢;generalize (rx x).aV (eR c7)=q at he ⊢;cases q<;>exact he
 case fieldAddr t x i=>
  unfold D3;cases aA:ri P t i with
  | none=>rw [aA] at he;cases he
  | some f=>
    rw [aA] at he;simp only at he ⊢;cases aE:bg P f.type with
    | none=>rw [aE] at he;cases he
    | some la=>
      rw [aE] at he;simp only at he ⊢;cases aj:Nat.beq la.size 0 with
      | true=>rw [aj] at he;cases he
      | false=>rw [aj] at he;simpa only [anN,fq,G.run] using he
 case field t x i=>
  unfold D4;cases aA:ri P t i with
  | none=>rw [aA] at he;cases he
  | some f=>
    rw [aA] at he;simp only [qL] at he ⊢;cases aE:bg P f.type with
    | none=>rw [aE] at he;cases he
    | some la=>
      rw [aE] at he;simp only at he ⊢;cases aj:la.agg with
      | true=>
        rw [aj] at he;simp only [anC,fq,G.run] at he ⊢;generalize (rx x).aV (eR c7)=q at he ⊢;cases q<;>exact he
      | false=>
        rw [aj] at he;simp only [anN,fq,G.run] at he ⊢;generalize (rx x).aV (eR c7)=q at he ⊢;cases q<;>exact he
 case indexAddr t x i=>
  unfold EI;cases aE:bg P t with
  | none=>rw [aE] at he;cases he
  | some aO=>
    rw [aE] at he;simp only at he ⊢;cases hu:aO.bl<;>rw [hu] at he<;>simp only at he ⊢<;>try (cases he;done)
    all_goals
     rename_i e;cases fm:bg P e with
     | none=>rw [fm] at he;cases he
     | some bj=>rw [fm] at he;simpa only [fq,G.run] using he
 case index t x i=>
  cases aE:bg P t with
  | none=>rw [aE] at he;cases he
  | some aO=>
    rw [aE] at he;simp only at he;cases hu:aO.bl<;>rw [hu] at he<;>simp only [G.run] at he
    case string=>
     unfold sQ;rw [aE];simp only [hu];simpa only [fq] using he
    all_goals simpa only [fq] using he
 case range t x=>
  unfold FP;cases aE:bg P t with
  | none=>rw [aE] at he;cases he
  | some aO=>
    rw [aE] at he;simp only at he ⊢;cases hu:aO.bl<;>rw [hu] at he<;>simp only at he ⊢<;>try (cases he;done)
    all_goals simp only [fq,G.run] at he ⊢
    all_goals first
     | exact he
     | (generalize (rx x).aV (eR c7)=q at he ⊢
        cases q<;>exact he)
 case next it b=>
  cases b<;>simpa only [anC,anN,fq,G.run] using he
 case entry it=>simpa only [fq,G.run] using he
 case mapEntry t m k=>
  unfold E9;cases aE:bg P t with
  | none=>rw [aE] at he;cases he
  | some aO=>
    rw [aE] at he;simp only at he ⊢;cases hu:aO.bl<;>rw [hu] at he<;>simp only at he ⊢<;>try (cases he;done)
    rename_i bu e;cases fm:bg P e with
    | none=>rw [fm] at he;cases he
    | some bj=>
      rw [fm] at he;simp only at he ⊢;cases bJ:bj.zero with
      | none=>rw [bJ] at he;cases he
      | some z=>
        rw [bJ] at he;simp only at he ⊢;cases ak:j2 P bu with
        | true=>rw [ak] at he;simpa only [anC,fq,G.run] using he
        | false=>
          rw [ak] at he;simp only [anN] at he ⊢;cases aL:mW P bu with
          | true=>rw [aL] at he;simpa only [anC,fq,G.run] using he
          | false=>rw [aL] at he;cases he
 case entryStore t m st x=>simpa only [fq,G.run] using he
 case lookup t x k ok=>
  unfold E6;cases aE:bg P t with
  | none=>rw [aE] at he;cases he
  | some aO=>
    rw [aE] at he;simp only at he ⊢;cases hu:aO.bl<;>rw [hu] at he<;>simp only at he ⊢<;>try (cases he;done)
    rename_i bu e;cases ay:bg P bu with
    | none=>rw [ay] at he;cases he
    | some hf=>
      rw [ay] at he;simp only at he ⊢;cases fm:bg P e with
      | none=>rw [fm] at he;cases he
      | some bj=>
        rw [fm] at he;simp only at he ⊢;cases bJ:bj.zero with
        | none=>rw [bJ] at he;cases he
        | some z=>
          rw [bJ] at he;simp only at he ⊢;cases jg:wP hf.bl with
          | none=>
            rw [jg] at he;simp only at he ⊢;cases aA:lu hf.bl with
            | true=>rw [aA] at he;cases he
            | false=>
              rw [aA] at he;simp only [anN] at he ⊢;cases ak:j2 P bu with
              | true=>rw [ak] at he;simpa only [anC,fq,G.run] using he
              | false=>
                rw [ak] at he;simp only [anN] at he ⊢;cases aL:mW P bu with
                | true=>rw [aL] at he;simpa only [anC,fq,G.run] using he
                | false=>rw [aL] at he;cases he
          | some dB=>
            rw [jg] at he;obtain ⟨ag,av⟩:=JQ jg;simp only [ag,av,anC];simpa only [fq,G.run] using he
 case mapUpdate t m k x=>
  unfold pX;cases aE:bg P t with
  | none=>rw [aE] at he;cases he
  | some aO=>
    rw [aE] at he;simp only at he ⊢;cases hu:aO.bl<;>rw [hu] at he<;>simp only at he ⊢<;>try (cases he;done)
    rename_i bu e;cases ay:bg P bu with
    | none=>rw [ay] at he;cases he
    | some hf=>
      rw [ay] at he;simp only at he ⊢;cases jg:wP hf.bl with
      | none=>
        rw [jg] at he;simp only at he ⊢;cases aA:lu hf.bl with
        | true=>rw [aA] at he;cases he
        | false=>
          rw [aA] at he;simp only [anN] at he ⊢;cases ak:j2 P bu with
          | true=>rw [ak] at he;simpa only [anC,fq,G.run] using he
          | false=>
            rw [ak] at he;simp only [anN] at he ⊢;cases aL:mW P bu with
            | true=>rw [aL] at he;simpa only [anC,fq,G.run] using he
            | false=>rw [aL] at he;cases he
      | some dB=>
        rw [jg] at he;obtain ⟨ag,av⟩:=JQ jg;simp only [ag,av,anC];simpa only [fq,G.run] using he
 case insert t m k x=>
  unfold pX;cases aE:bg P t with
  | none=>rw [aE] at he;cases he
  | some aO=>
    rw [aE] at he;simp only at he ⊢;cases hu:aO.bl<;>rw [hu] at he<;>simp only at he ⊢<;>try (cases he;done)
    rename_i bu e;cases ay:bg P bu with
    | none=>rw [ay] at he;cases he
    | some hf=>
      rw [ay] at he;simp only at he ⊢;cases jg:wP hf.bl with
      | none=>
        rw [jg] at he;simp only at he ⊢;cases aA:lu hf.bl with
        | true=>rw [aA] at he;cases he
        | false=>
          rw [aA] at he;simp only [anN] at he ⊢;cases ak:j2 P bu with
          | true=>rw [ak] at he;simpa only [anC,fq,G.run] using he
          | false=>
            rw [ak] at he;simp only [anN] at he ⊢;cases aL:mW P bu with
            | true=>rw [aL] at he;simpa only [anC,fq,G.run] using he
            | false=>rw [aL] at he;cases he
      | some dB=>
        rw [jg] at he;obtain ⟨ag,av⟩:=JQ jg;simp only [ag,av,anC];simpa only [fq,G.run] using he
 case makeMap t x=>
  unfold zc;cases aE:bg P t with
  | none=>rw [aE] at he;cases he
  | some aO=>
    rw [aE] at he;simp only at he ⊢;cases aj:Nat.beq (fG aO.bl) 3 with
    | false=>rw [aj] at he;cases he
    | true=>rw [aj] at he;simpa only [anC,Ku,G.run] using he
 case extract x i=>
  simp only [fq,G.run] at he ⊢;generalize (rx x).aV (eR c7)=q at he ⊢;cases q<;>exact he
 case call c=>exact ajD he
end
end
section
open Go Go.RowKit
variable [Lay]
def ff (P:Program) (f:FuncId) (args:List V) (h:ah) (v:V) (ab:ah):Prop:=
 f≠dy/\(((∃fn,P.funcs[f]? =some fn/\fn.body.isSome=true)/\∀(aB:Fr) E w xs,bm E args xs->bd aB E h w->
  Calls P f xs.toArray w fun e w'=>∃ax x,e=.returned x/\E.le ax/\Rel ax v x/\bd aB ax ab w')\/
 ∀(aB:Fr) E w xs,bm E args xs->bd aB E h w->∃ax x w',(callFunc f xs.toArray).run P w=.ok (.value x) w'/\E.le ax/\Rel ax v x/\bd aB ax ab w')
def L4 (P:Program) (args:List V) (b:aU) (h:ah) (v:V) (ab:ah):Prop:=
 ∀(aB:Fr) E w xs p,bm E args xs->bd aB E h w->E b=some p->
  ∃f tmps assign body,(Instr.yield p.bh xs.toArray).run P w=.ok (.round p.bh f tmps assign body) w/\
   RoundIn (cd none) 0 P p.bh f tmps assign body w fun e w'=>∃ax x,e=.returned x/\E.le ax/\Rel ax v x/\bd aB ax ab w'
theorem ff.calls {P:Program} (aM:fa P) {f:FuncId} {args:List V} {h ab:ah} {v:V} (H:ff P f args h v ab) (aj:∃fn,P.funcs[f]? =some fn/\fn.body.isSome=true) (aB:Fr) (E:Env) (w:World) (xs:List Value) (ar:bm E args xs) (s:bd aB E h w):
 Calls P f xs.toArray w fun e w'=>∃ax x,e=.returned x/\E.le ax/\Rel ax v x/\bd aB ax ab w':=by
 rcases H.2 with ⟨_,H⟩ | H
 . exact H aB E w xs ar s
 . obtain ⟨ax,x,w',aK,_⟩:=H aB E w xs ar s;obtain ⟨fn,J,ad⟩:=aj;rw [s9 aM J ad] at aK;cases aK
def b8 (P:Program) (f:FuncId) (args:List V) (h:ah) (K:V->ah->Prop):Prop:=∃v ab,ff P f args h v ab/\K v ab
def V_ (P:Program) (args:List V) (b:aU) (h:ah) (K:V->ah->Prop):Prop:=∃v ab,L4 P args b h v ab/\K v ab
def L5 (P:Program) (xs:List V) (h:ah) (K:V->ah->Prop):Prop:=∃cT b,xs=cT++[.ptr b 0]/\V_ P cT b h K
def LA (P:Program) (g:FuncId) (xs:List V) (h:ah) (K:V->ah->Prop):Prop:=if g=dy then L5 P xs h K else b8 P g xs h K
def V.target (v:V) (args:List V):Option (FuncId × List V):=
 match v with
 | .func g cs=>some (g,args++cs)
 | .kW g cs=>some (g,cs++args)
 | _=>none
theorem Tb {v:V} {args xs:List V} {g:FuncId} (h:v.target args=some (g,xs)) (F:FuncId->List V->a8):v.zn args F=F g xs:=by
 cases v<;>simp only [V.target] at h<;>try (cases h;done)
 all_goals (simp only [ant,aoS] at h;obtain ⟨rfl,rfl⟩:=h;rfl)
theorem b8.mono {P:Program} {f:FuncId} {args:List V} {h:ah} {K mB:V->ah->Prop} (c:b8 P f args h K) (ay:∀v ab,K v ab->mB v ab):b8 P f args h mB:=by obtain ⟨v,ab,ag,av⟩:=c;exact ⟨v,ab,ag,ay v ab av⟩
def mh:eA:=fun _ _ _=>.fail
theorem Ff (P:Program):hA P mh/\hI P mh:=
 ⟨⟨fun _ f args h v ab _ he=>by simp [mh] at he,fun _ f args h v ab _ he=>by simp [mh] at he,fun _ args b h v ab he=>by simp [mh] at he,fun args h v ab he=>by simp [mh] at he⟩,fun f args h v ab he=>by simp [mh] at he⟩
open Classical in
def oz (f:FuncId) (args:List V) (h:ah) (v:V) (ab:ah):eA:=
 fun f1 bP J=>if f1=f/\bP=args/\J=h then .val v ab else .fail
theorem Tk {P:Program} {f:FuncId} {args:List V} {h ab:ah} {v:V} (H:ff P f args h v ab):hA P (oz f args h v ab)/\hI P (oz f args h v ab):=by
 refine ⟨⟨fun aB f1 bP J v1 fD _ he=>?_,fun aB f1 bP J v1 fD _ he=>?_,fun aB bP b J v1 fD he=>?_,fun bP J v1 fD he=>?_⟩,fun f1 bP J v1 fD he=>?_⟩
 . unfold oz at he
   split at he
   . rename_i ao;obtain ⟨rfl,rfl,rfl⟩:=ao;simp only [a8.val.injEq] at he;obtain ⟨rfl,rfl⟩:=he;intro E w xs ar s;rcases H.2 with H | H
     . exact .inl ⟨H.1,H.2 aB E w xs ar s⟩
     . exact .inr (H aB E w xs ar s)
   . cases he
 . unfold oz at he
   split at he<;>cases he
 . unfold oz at he
   split at he
   . rename_i ao;exact absurd ao.1.symm H.1
   . cases he
 . unfold oz at he
   split at he<;>cases he
 . trivial
theorem akr {xs cT:List V} {x y:V} (h:xs++[x]=cT++[y]):xs=cT/\x=y:=by have:=List.append_inj' h rfl;exact ⟨this.1,by simpa using this.2⟩
theorem aiN {P:Program} {args:List V} {b:aU} {h ab:ah} {v:V} (H:L4 P args b h v ab):hA P (oz dy (args++[.ptr b 0]) h v ab)/\hI P (oz dy (args++[.ptr b 0]) h v ab):=by
 refine ⟨⟨fun aB f1 bP J v1 fD eC he=>?_,fun aB f1 bP J v1 fD _ he=>?_,fun aB bP b9 J v1 fD he=>?_,fun bP J v1 fD he=>?_⟩,fun f1 bP J v1 fD he=>?_⟩
 . unfold oz at he
   split at he
   . rename_i ao;exact absurd ao.1 eC
   . cases he
 . unfold oz at he
   split at he<;>cases he
 . unfold oz at he
   split at he
   . rename_i ao;obtain ⟨_,ao,rfl⟩:=ao;obtain ⟨rfl,aj⟩:=akr ao;simp only [V.ptr.injEq,apI] at aj;subst aj;simp only [a8.val.injEq] at he;obtain ⟨rfl,rfl⟩:=he;exact fun E w xs p ar s ak=>H aB E w xs p ar s ak
   . cases he
 . unfold oz at he
   split at he<;>cases he
 . trivial
theorem Kv {f:FuncId} {args:List V} {h ab:ah} {v:V}:oz f args h v ab f args h=.val v ab:=by unfold oz;rw [anL ⟨rfl,rfl,rfl⟩]
def bA.set (r:bA) (d:Option Nat) (v:V):bA:=
 match d with
 | none=>r
 | some d=>fun t=>if t=d then v else r t
def bA.trim (r:bA):List Nat->bA
 | [],_=>.bad
 | u::us,t=>if t=u then r t else bA.trim r us t
def bA.a_:List V->bA
 | [],_=>.bad
 | v::ai,t=>if t=0 then v else bA.a_ ai (t-1)
def CP (r:bA):List Nat->bO
 | []=>.e
 | t::c2=>T.put .bad (r t) (aD t) (CP r c2)
theorem UY (r:bA):∀c2:List Nat,eR (CP r c2)=bA.trim r c2
 | []=>by funext t;simp [eR,CP,bA.trim]
 | u::c2=>by
   funext t;have bC:=congrFun (UY r c2) t;simp only [eR] at bC;simp only [eR,CP,bA.trim,T.iN];by_cases h:t=u
   . subst h;simp
   . rw [anE (fun e=>h (lE e).symm),anE h];exact bC
theorem zM (c7:bO):∀c2:List Nat,eR (dM c7 c2)=bA.trim (eR c7) c2
 | []=>by funext t;simp [eR,dM,bA.trim]
 | u::c2=>by
   funext t;have bC:=congrFun (zM c7 c2) t;simp only [eR] at bC;simp only [eR,dM,bA.trim,T.iN];by_cases h:t=u
   . subst h;simp
   . rw [anE (fun e=>h (lE e).symm),anE h];exact bC
theorem Li {r:bA}:∀{c2:List Nat} {t:Nat},t ∈ c2->bA.trim r c2 t=r t
 | [],t,h=>by simp at h
 | u::c2,t,h=>by
   simp only [bA.trim];by_cases hu:t=u
   . rw [anL hu]
   . rw [anE hu];simp only [an2] at h;exact Li (h.resolve_left hu)
theorem UZ {r:bA}:∀{c2:List Nat} {t:Nat},t ∉ c2->bA.trim r c2 t=.bad
 | [],t,_=>rfl
 | u::c2,t,h=>by simp only [an2,not_or] at h;simp only [bA.trim];rw [anE h.1];exact UZ h.2
theorem KM (d:Option Nat) (c7:bO) (v:V):eR ((gn d).run c7 v)=(eR c7).set d v:=by
 cases d with
 | none=>rfl
 | some d=>
   funext t;simp only [eR,gn,bA.set,T.iN];by_cases h:t=d
   . subst h;simp
   . rw [anE (fun e=>h (lE e).symm),anE h]
def Out (az:Nat) (r:bA):Prop:=∀t,az<=t->t≠ej->r t=.bad
theorem x' {az:Nat} {r:bA} (a1:Out az r):∃c7,eR c7=r:=by
 refine ⟨CP r (ej::List.range az),?_⟩;rw [UY];funext t;by_cases h:t<az
 . exact Li (aoh _ (ao9.2 h))
 . by_cases ad:t=ej
   . exact Li (by rw [ad];exact aot)
   . rw [UZ (by simp only [an2,ao9,not_or];exact ⟨ad,h⟩),a1 t (by omega) ad]
theorem Out.set {az:Nat} {r:bA} (a1:Out az r) {d:Option Nat} (aZ:fO az d=true) (v:V):Out az (r.set d v):=by
 intro t aE aL;cases d with
 | none=>exact a1 t aE aL
 | some d=>
   simp only [fO,anu,aoa] at aZ;simp only [bA.set];rw [anE (by omega)];exact a1 t aE aL
theorem F6 {az:Nat} {r:bA} {d:Option Nat} (aZ:fO az d=true) (v:V):r.set d v ej=r ej:=by
 cases d with
 | none=>rfl
 | some d=>
   simp only [fO,anu,aoa,anS] at aZ;simp only [bA.set];rw [anE (by have:=aZ.2;unfold top at this;unfold ej;omega)]
structure j8 (E:Env) (az:Nat) (r:bA) (a:Act):Prop where
 size:a.tmps.size=az
 defers:lP E (r ej) a.defers
 af:∀t,t≠ej->Rel E (r t) (a.tmps.getD t undef)
theorem pK {t:Nat} (h:t<=top):t≠ej:=by unfold top at h;unfold ej;omega
theorem j8.mono {E ax:Env} (h:E.le ax) {az:Nat} {r:bA} {a:Act} (k:j8 E az r a):j8 ax az r a:=
 ⟨k.size,k.defers.mono h,fun t aE=>Rel.mono h _ _ (k.af t aE)⟩
theorem j8.put {E ax:Env} (h:E.le ax) {az:Nat} {r:bA} {a:Act} (k:j8 E az r a) {d:Option Nat} (aZ:fO az d=true) {v:V} {x:Value} (ar:Rel ax v x):j8 ax az (r.set d v) (a.put d x):=by
 cases d with
 | none=>exact k.mono h
 | some d=>
   have aL:=F6 (r:=r) aZ v;simp only [fO,anu,aoa] at aZ;refine ⟨by simp [Act.put,k.size],by rw [aL];exact k.defers.mono h,fun t gb=>?_⟩;simp only [bA.set,Act.put];rw [anY,anT];by_cases aE:t=d
   . subst aE;rw [anL rfl,anL rfl,anL (by rw [k.size];exact aZ.1)];exact ar
   . rw [anE aE,anE (fun e=>aE e.symm),<-anY];exact Rel.mono h _ _ (k.af t gb)
def G.wp (P:Program) (g:G) (r:bA) (h:ah) (K:V->ah->Prop):Prop:=
 match g with
 | .call f args=>b8 P f (aW.fC r args) h K
 | .qc f args=>∃g xs,(f.aV r).target (aW.fC r args)=some (g,xs)/\LA P g xs h K
 | g=>∃v ab,g.run P mh r h=.val v ab/\K v ab
theorem G.zS {P:Program} {g:G} {r:bA} {h:ah} {K:V->ah->Prop} (H:g.wp P r h K):∃call v ab,(hA P call/\hI P call)/\g.run P call r h=.val v ab/\K v ab:=by
 cases g
 case call f args=>
  obtain ⟨v,ab,ag,av⟩:=H;exact ⟨_,v,ab,Tk ag,Kv,av⟩
 case qc f args=>
  obtain ⟨g,xs,aA,H⟩:=H;unfold LA at H
  split at H
  rotate_left
  . obtain ⟨v,ab,ag,av⟩:=H;refine ⟨_,v,ab,Tk ag,?_,av⟩;simp only [G.run];rw [Tb aA];exact Kv
  . rename_i an;subst an;obtain ⟨cT,b,rfl,v,ab,ag,av⟩:=H;refine ⟨_,v,ab,aiN ag,?_,av⟩;simp only [G.run];rw [Tb aA];exact Kv
 all_goals
  obtain ⟨v,ab,ag,av⟩:=H;exact ⟨mh,v,ab,Ff P,ag,av⟩
structure bs where
 dst:Option Nat
 g:G
 abd:Option (Nat × Bool)
 rs:List Nat
def bs.bad:bs:=⟨none,.bad,none,[]⟩
def gate (v:V) (want:Bool) (A B:Prop):Prop:=
 match v with
 | .bool b=>(b=want->A)/\(b=!want->B)
 | .tuple _=>B
 | _=>False
def bs.wp (P:Program) (o:bs) (r:bA) (h:ah) (K:bA->V->ah->Prop):Prop:=
 match o.abd with
 | none=>o.g.wp P (r.trim o.rs) h fun v ab=>K (r.set o.dst v) v ab
 | some (d,want)=>gate (r.trim o.rs d) want (o.g.wp P (r.trim o.rs) h fun v ab=>K (r.set o.dst v) v ab) (K (r.set o.dst (.tuple [])) (.tuple []) h)
def uQ (P:Program) (az:Nat) (all:Array Oper) (o:Oper):bs:=
 bif fO az o.dst&&js (b2 all o) then
  match o.guard with
  | none=>⟨o.dst,FV P o.op,none,b2 all o⟩
  | some (j,want)=>match all[j]? with
    | some g=>match g.dst with
      | some d=>bif Nat.blt d az&&Nat.ble d top then ⟨o.dst,FV P o.op,some (d,want),b2 all o⟩ else bs.bad
      | none=>bs.bad
    | none=>bs.bad
 else bs.bad
def zv (P:Program) (az:Nat) (all:Array Oper):List Oper->List bs
 | []=>[]
 | o::os=>uQ P az all o::zv P az all os
theorem Ua (P:Program) (az:Nat) (all:Array Oper):∀l:List Oper,zv P az all l=l.map (uQ P az all)
 | []=>rfl
 | o::os=>by simp [zv,Ua P az all os]
def aW.isNil:aW->Bool
 | .c .mg=>true
 | _=>false
def s6 (P:Program) (az:Nat) (all:Array Oper) (o:Oper):bs:=
 match o.op,o.guard with
 | .binOp op t x y _,none=>match w7 P op t with
   | some neg=>bif !((rx x).isNil||(rx y).isNil)&&(fO az o.dst&&js (b2 all o)) then ⟨o.dst,.Cx neg (rx x) (rx y),none,b2 all o⟩ else uQ P az all o
   | none=>uQ P az all o
 | .defer c,none=>match c.callee with
   | .value f=>bif o.dst.isNone&&js (b2 all o) then ⟨some ej,.gp (rx f) (lK c.args.toList),none,ej::b2 all o⟩ else bs.bad
   | _=>bs.bad
 | _,_=>uQ P az all o
def bs.Kj (o:bs):Bool:=
 match o.g with
 | .gp _ _=>false
 | _=>true
def zw (P:Program) (az:Nat) (all:Array Oper):List Oper->List bs
 | []=>[]
 | o::os=>s6 P az all o::zw P az all os
theorem bs.Az {P:Program} {r:bA} {h:ah} {K:bA->V->ah->Prop}:¬bs.bad.wp P r h K:=by rintro ⟨v,ab,q,_⟩;cases q
theorem bs.zS {P:Program} {az:Nat} {all:Array Oper} {o:Oper} {r:bA} {h:ah} {K:bA->V->ah->Prop} (H:(uQ P az all o).wp P r h K):
 ∃call v ab,(hA P call/\hI P call)/\fO az o.dst=true/\K (r.set o.dst v) v ab/\∀c7,eR c7=r->(cU P az all o).run call c7 h=.val v ab:=by
 unfold uQ at H;cases ao:(fO az o.dst&&js (b2 all o)) with
 | false=>rw [ao] at H;exact absurd H bs.Az
 | true=>
   have aZ:fO az o.dst=true:=by simp only [anu] at ao;exact ao.1
   rw [ao] at H;simp only [anC] at H;cases an:o.guard with
   | none=>
     rw [an] at H;obtain ⟨call,v,ab,ag,av,aJ⟩:=G.zS H;refine ⟨call,v,ab,ag,aZ,aJ,fun c7 eu=>?_⟩;unfold cU;rw [ao];simp only [anC,an,jW];refine T_ ?_;rw [zM,eu];exact av
   | some qD=>
     obtain ⟨j,want⟩:=qD;rw [an] at H;simp only at H;cases bI:all[j]? with
     | none=>rw [bI] at H;exact absurd H bs.Az
     | some g=>
       rw [bI] at H;simp only at H;cases lj:g.dst with
       | none=>rw [lj] at H;exact absurd H bs.Az
       | some d=>
         rw [lj] at H;simp only at H;cases aj:(Nat.blt d az&&Nat.ble d top) with
         | false=>rw [aj] at H;exact absurd H bs.Az
         | true=>
           rw [aj] at H;simp only [anC,bs.wp] at H;have key:cU P az all o=⟨jW (some (pk (aD d),want)) (fW P o) (b2 all o)⟩:=by unfold cU;rw [ao];simp only [anC,an,bI,lj,aj]
           have IF:∀c7,eR c7=r->(pk (aD d)).run (dM c7 (b2 all o))=r.trim (b2 all o) d:=by intro c7 eu;rw [<-eu,<-zM];rfl
           cases bB:r.trim (b2 all o) d<;>rw [bB] at H<;>simp only [gate] at H
           case bool b=>
            by_cases Qw:b=want
            . obtain ⟨call,v,ab,ag,av,aJ⟩:=G.zS (H.1 Qw);refine ⟨call,v,ab,ag,aZ,aJ,fun c7 eu=>?_⟩;rw [key];simp only [jW,IF c7 eu,bB];rw [show (bif want then b else !b)=true from by subst Qw;cases b<;>rfl];simp only [anC];refine T_ ?_;rw [zM,eu];exact av
            . have Qu:b=!want:=by cases b<;>cases want<;>simp_all
              refine ⟨mh,.tuple [],h,Ff P,aZ,H.2 Qu,fun c7 eu=>?_⟩;rw [key];simp only [jW,IF c7 eu,bB];rw [show (bif want then b else !b)=false from by subst Qu;cases want<;>rfl];rfl
           case tuple ai=>
            refine ⟨mh,.tuple [],h,Ff P,aZ,H,fun c7 eu=>?_⟩;rw [key];simp only [jW,IF c7 eu,bB]
def ti (P:Program):List bs->bA->ah->(bA->ah->Prop)->Prop
 | [],r,h,K=>K r h
 | o::os,r,h,K=>o.wp P r h fun bH _ ab=>ti P os bH ab K
structure gZ where
 r:bA
 h:ah
 v:V
def mu (P:Program):List bs->bA->ah->(List gZ->bA->ah->Prop)->Prop
 | [],r,h,K=>K [] r h
 | o::os,r,h,K=>o.wp P r h fun bH v ab=>mu P os bH ab fun es dr aA=>K (⟨r,h,v⟩::es) dr aA
def yu (es:List gZ) (aA:ah) (i:Nat):ah:=
 match es[i]? with
 | some e=>e.h
 | none=>aA
def se (P:Program) (o:Option bs) (e:Option gZ) (es:List gZ) (aA:ah):List Nat->Prop
 | []=>True
 | s::kn=>(match o,e with
   | some o,some e=>o.wp P e.r (yu es aA s) fun _ c_ _=>c_=e.v
   | _,_=>False)/\se P o e es aA kn
def qa (P:Program) (ops:List bs) (es:List gZ) (aA:ah):List (Nat × List Nat)->Prop
 | []=>True
 | (p,kn)::rest=>se P ops[p]? es[p]? es aA kn/\qa P ops es aA rest
inductive bD where
 | bad
 | skip
 | af (ops:List bs)
 | draw (ops:List bs) (asks:List (Nat × List Nat))
 | seq (a b:bD)
 | cond (c:aW) (a b:bD)
 | block (id:Nat) (b:bD)
 | loop (b:bD)
 | exit (id:Nat)
 | ret
 | range (f:aW) (bE:List Nat) (az:Nat) (a b:bD)
def xV (P:Program) (ops:List Oper) (eI aF fb:List Nat):Nat->List Oper->List (Nat × List Nat)
 | _,[]=>[]
 | i,o::os=>bif looks o.op&&!fy P o.op then
    (posOf aF i,fb.filter (sX P eI ops aF i ((eI[i]?).getD 0)))::xV P ops eI aF fb (i+1) os
   else xV P ops eI aF fb (i+1) os
def KX (P:Program) (az:Nat) (ops:Array Oper) (order aF:List Nat):bD:=
 bif mT ops.size order aF&&x2 P ops aF then
  .draw (zv P az ops (h2 ops order)) (bif sb P ops.toList then xV P ops.toList (fp [] ops.toList) aF (iq P aF 0 ops.toList) 0 ops.toList else [])
 else .bad
def gJ (P:Program) (az:Nat):Code->bD
 | .skip=>.skip
 | .label _=>.skip
 | .region _ ops draw=>bif draw then KX P az ops (Ct P ops) (FB (Ct P ops) 0 ops.toList) else .af (zw P az ops ops.toList)
 | .seq a b=>.seq (gJ P az a) (gJ P az b)
 | .cond c a b=>.cond (rx c) (gJ P az a) (gJ P az b)
 | .block id b=>.block id (gJ P az b)
 | .loop b=>.loop (gJ P az b)
 | .exit id=>.exit id
 | .ret=>.ret
 | .scope b=>gJ P az b
 | .rangeFunc f bE a b=>bif uL az bE.toList&&(noMark a&&noMark b) then .range (rx f) bE.toList az (gJ P az a) (gJ P az b) else .bad
 | _=>.bad
structure VT (P:Program) (l:Al) (az:Nat) (r:bA) (bE:List Nat) (TU ajr:bD):Prop where
 aX:l.az=az
 aK:eR l.r=r
 ak:l.bE=bE
 bF:gJ P az l.assign=TU
 aj:gJ P az l.body=ajr
 n1:uL az bE=true
 amQ:noMark l.assign=true
 amR:noMark l.body=true
 out:Out az r
def en.andThen:en->Prop->Prop->Prop
 | .normal,A,_=>A
 | _,_,B=>B
def en.leave (id:Nat):en->en
 | .exit i=>if i=id then .normal else .exit i
 | e=>e
def gO (P:Program):bD->bA->ah->(en->bA->ah->Prop)->Prop
 | .bad,_,_,_=>False
 | .skip,r,h,Q=>Q .normal r h
 | .af ops,r,h,Q=>ti P ops r h (Q .normal)
 | .draw ops asks,r,h,Q=>mu P ops r h fun es dr aA=>qa P ops es aA asks/\Q .normal dr aA
 | .seq a b,r,h,Q=>gO P a r h fun e bH ab=>e.andThen (gO P b bH ab Q) (Q e bH ab)
 | .cond c a b,r,h,Q=>match c.aV r with
   | .bool t=>(t=true->gO P a r h Q)/\(t=false->gO P b r h Q)
   | _=>False
 | .block id b,r,h,Q=>gO P b r h fun e bH ab=>Q (e.leave id) bH ab
 | .loop b,r,h,Q=>∃(I:bA->ah->Prop) (μ:bA->ah->Nat),I r h/\∀r h,I r h->gO P b r h fun e bH ab=>e.andThen (I bH ab/\μ bH ab<μ r h) (Q e bH ab)
 | .exit id,r,h,Q=>Q (.exit id) r h
 | .ret,r,h,Q=>Q .ret r h
 | .range f bE az a b,r,h,Q=>∃g cs,f.aV r=.func g cs/\g≠dy/\(∃fn,P.funcs[g]? =some fn/\fn.body.isSome=true)/\∀l,VT P l az r bE a b->l.st=0->l.h3=none->
    b8 P g (.func dy [.ptr (aD (h.next+1)) 0]::cs) ((h.new .gp).new (.gx l)) fun _ ab=>
     ∃gm,ab.get (aD (h.next+1))=.gx gm/\gm.st≠1/\Q (gm.h3.getD .normal) (r.set (some ej) (.tuple (.ptr (aD h.next) 0::(r ej).list))) (ab.set (aD (h.next+1)) .dead)
def bD.plain:bD->Bool
 | .seq a b=>a.plain&&b.plain
 | .cond _ a b=>a.plain&&b.plain
 | .block _ b=>b.plain
 | .loop b=>b.plain
 | .range _ _ _ _ _=>false
 | .af ops=>ops.all bs.Kj
 | _=>true
def CW (P:Program) (az:Nat) (c:Code) (r:bA) (h:ah) (e:en) (bH:bA) (ab:ah):Prop:=
 ∀(rd:Option Nat) (aB:Fr) E a w,(rd=none\/noMark c=true)->j8 E az r a->bd aB E h w->∀Q:Exit->Act->World->Prop,
  (∀ax bw w',E.le ax->j8 ax az bH bw->bd aB ax ab w'->Q (toExit e) bw w')->Gj rd P c Q a w
section
variable {P:Program} {az:Nat}
theorem ajG (P:Program) (az:Nat) (all:Array Oper) (o:Oper):s6 P az all o=uQ P az all o\/(∃op t x y u neg,o.op=.binOp op t x y u/\o.guard=none/\w7 P op t=some neg/\fO az o.dst=true/\js (b2 all o)=true/\s6 P az all o=⟨o.dst,.Cx neg (rx x) (rx y),none,b2 all o⟩)\/
 (∃f args types,o.op=.defer ⟨.value f,args,types⟩/\o.guard=none/\o.dst=none/\js (b2 all o)=true/\s6 P az all o=⟨some ej,.gp (rx f) (lK args.toList),none,ej::b2 all o⟩)\/s6 P az all o=bs.bad:=by
 obtain ⟨dst,op,type,pos,after,guard⟩:=o;cases op<;>try (exact .inl rfl)
 . rename_i op t x y u;cases guard with
   | some g=>exact .inl rfl
   | none=>
     simp only [s6];cases ak:w7 P op t with
     | none=>exact .inl rfl
     | some neg=>
       simp only;cases ao:(!((rx x).isNil||(rx y).isNil)&&(fO az dst&&js (b2 all ⟨dst,.binOp op t x y u,type,pos,after,none⟩))) with
       | false=>exact .inl rfl
       | true=>
         simp only [anu] at ao;exact .inr (.inl ⟨op,t,x,y,u,neg,by first | rfl | trivial,by first | rfl | trivial,ak,by first | exact ao.2.1 | trivial,by first | exact ao.2.2 | trivial,by first | rfl | trivial⟩)
 . rename_i c;cases guard with
   | some g=>exact .inl rfl
   | none=>
     obtain ⟨callee,args,types⟩:=c;cases callee with
     | value f=>
       simp only [s6];cases ao:(dst.isNone&&js (b2 all ⟨dst,.defer ⟨.value f,args,types⟩,type,pos,after,none⟩)) with
       | false=>exact .inr (.inr (.inr rfl))
       | true=>
         simp only [anu,Option.isNone_iff_eq_none] at ao;exact .inr (.inr (.inl ⟨f,args,types,by first | rfl | trivial,by first | rfl | trivial,by first | exact ao.1 | trivial,by first | exact ao.2 | trivial,by first | rfl | trivial⟩))
     | _=>exact .inr (.inr (.inr rfl))
theorem bs.alw (aM:fa P) {all:Array Oper} {o:Oper} {i:Nat} (au:all[i]? =some o) {r:bA} {h:ah} {K:bA->V->ah->Prop} (a1:Out az r) (H:(s6 P az all o).wp P r h K):
 ∃bH v ab,K bH v ab/\Out az bH/\((s6 P az all o).Kj=true->bH ej=r ej)/\∀(rd:Option Nat) (aB:Fr) E a w,(rd=none\/Ch o=true)->j8 E az r a->bd aB E h w->∀(Q:Exit->Act->World->Prop) (C:Act->World->Prop),
  (∀ax bw w',E.le ax->j8 ax az bH bw->bd aB ax ab w'->C bw w')->wpOpIn (cd rd) 0 P all Q i C a w:=by
 obtain ⟨c7,eu⟩:=x' a1;rcases ajG P az all o with e | ⟨op,t,x,y,u,neg,al,aN,cj,gl,jf,tE⟩ | ⟨f,args,types,al,aN,gl,jf,tE⟩ | e
 . rw [e] at H;obtain ⟨call,v,J,ao,aZ,H1,dh⟩:=bs.zS H;refine ⟨_,v,J,H1,a1.set aZ v,fun _=>F6 aZ v,fun rd aB E a w _ k s Q C A9=>?_⟩;refine q_ aM ao.1 ao.2 au (dh c7 eu) k.size (fun t aE=>?_) s fun ax x w' ag av aJ=>A9 ax _ w' ag (k.put ag aZ av) aJ;have:=congrFun eu t;simp only [eR] at this;rw [this];exact k.af t (pK (an9 (an0.1 (k9 (dh c7 eu)).2 t aE)))
 . rw [tE] at H;simp only [bs.wp,G.wp,G.run] at H;obtain ⟨v,ab,bB,dW⟩:=H;unfold KL at bB;cases aq:ml h ((rx x).aV (r.trim (b2 all o))) ((rx y).aV (r.trim (b2 all o))) with
   | none=>rw [aq] at bB;cases bB
   | some b=>
     rw [aq] at bB;simp only [a8.of,a8.val.injEq] at bB;obtain ⟨rfl,rfl⟩:=bB;refine ⟨_,_,h,dW,a1.set gl _,fun _=>F6 gl _,fun rd aB E a w _ k s Q C A9=>?_⟩
     have cC:RegRel0 E az (dM c7 (b2 all o)) a:=⟨k.size,fun t aE=>by
      rw [Ge jf aE];by_cases hm:t ∈ b2 all o
      . rw [anL hm];have:=congrFun eu t;simp only [eR] at this;rw [this];exact k.af t (pK aE)
      . rw [anE hm];simp [Rel]⟩
     have ex:∀z:Operand,(bZ z).run (dM c7 (b2 all o))=(rx z).aV (r.trim (b2 all o)):=fun z=>by rw [fq,zM,eu]
     rw [<-ex,<-ex] at aq;obtain ⟨dst,aiB,type,pos,after,guard⟩:=o;subst al aN;obtain ⟨Z,cS,cV⟩:=TI (P:=P) (j1:=x) (ir:=y) s cj aq (eb cC x) (eb cC y);simp only [wpOpIn,au,Region.wanted,an7];exact gW rfl (dH.plain s cS cV) fun ax v w' ag av aJ=>A9 ax _ w' ag (k.put ag gl av) aJ
 . rw [tE] at H;simp only [bs.wp,G.wp,G.run] at H;obtain ⟨v,ab,bB,dW⟩:=H;have jY:∀t ∈ b2 all o,t≠ej:=fun t aE=>pK (an9 (an0.1 jf t aE));have Rk:∀z:Operand,(rx z).aV (r.trim (ej::b2 all o))=(bZ z).run (dM c7 (b2 all o)):=fun z=>by
    rw [fq,zM,eu];cases z with
    | tmp t=>
      simp only [rx];cases aj:Nat.ble t top with
      | false=>rfl
      | true=>
        simp only [anC,aW.aV,bA.trim];rw [anE (pK (an9 aj))]
    | const v=>rfl
    | func f=>simp only [rx];cases Nat.beq f dy<;>rfl
    | global g=>rfl
   have adt:∀l:List Operand,aW.fC (r.trim (ej::b2 all o)) (lK l)=(qg l).run (dM c7 (b2 all o)):=fun l=>by
    induction l with
    | nil=>rfl
    | cons z l bC=>simp only [lK,aW.fC,Rk,bC];rfl
   have yP:r.trim (ej::b2 all o) ej=r ej:=by simp [bA.trim]
   rw [Rk,adt,yP] at bB;cases rm:(bZ f).run (dM c7 (b2 all o))<;>rw [rm] at bB<;>simp only at bB<;>try (cases bB;done)
   rename_i g cs;cases bc:Nat.beq g dy with
   | true=>rw [bc] at bB;cases bB
   | false=>
     rw [bc] at bB;simp only [anN,a8.val.injEq] at bB;obtain ⟨rfl,rfl⟩:=bB;have sy:g≠dy:=fun e=>by rw [e] at bc;exact absurd bc (by decide)
     refine ⟨_,_,h,dW,fun t J ad=>by simp only [bA.set];rw [anE ad];exact a1 t J ad,fun z=>by (rw [tE] at z;cases z),fun rd aB E a w aK k s Q C A9=>?_⟩;obtain ⟨dst,aiB,type,pos,after,guard⟩:=o;subst al aN gl;rcases aK with rfl | aK
     case inr=>cases aK
     have cC:RegRel0 E az (dM c7 (b2 all ⟨none,.defer ⟨.value f,args,types⟩,type,pos,after,none⟩)) a:=⟨k.size,fun t aE=>by
      rw [Ge jf aE];by_cases hm:t ∈ b2 all ⟨none,.defer ⟨.value f,args,types⟩,type,pos,after,none⟩
      . rw [anL hm];have:=congrFun eu t;simp only [eR] at this;rw [this];exact k.af t (pK aE)
      . rw [anE hm];simp [Rel]⟩
     have aA:=eb cC f;rw [rm] at aA;simp only [Rel] at aA;rcases aA with ⟨_,fe,dO,aw⟩ | ⟨an,_⟩
     case inr=>exact absurd an sy
     simp only [wpOpIn,au,Region.wanted,an7];refine ⟨fun _ _=>trivial,?_⟩;have hex:((Oper.mk none (.defer ⟨.value f,args,types⟩) type pos after none).semAt (cd none).round a.eval).run P w=.ok (.defer {target:=.fn (.func g) fe,args:=#[]++args.map a.eval}) w:=by simp only [Oper.semAt_none,execOp,resolve,dO,Deferred.ofValue,pure_bind];rfl
     rw [hex];refine A9 E _ w (Env.le.refl E) ?_ s;refine ⟨by simpa [Act.put] using k.size,?_,fun t aE=>?_⟩
     . simp only [bA.set,an7,lP,mw];refine ⟨_,_,rfl,⟨sy,fe,rfl,?_⟩,k.defers.list⟩;have:=(qh cC args.toList).append aw;simpa using this
     . simp only [bA.set];rw [anE aE];exact k.af t aE
 . rw [e] at H;exact absurd H bs.Az
theorem Vo (aM:fa P) {all:Array Oper}:∀(l:List Oper) (i:Nat),(∀j,l[j]? =all[i+j]?)->∀(r:bA) (h:ah) (K:bA->ah->Prop),Out az r->ti P (zw P az all l) r h K->
 ∃bH ab,K bH ab/\(Out az bH/\((zw P az all l).all bs.Kj=true->bH ej=r ej))/\∀(rd:Option Nat) (aB:Fr) E a w,(rd=none\/∀o ∈ l,Ch o=true)->j8 E az r a->bd aB E h w->∀Q:Exit->Act->World->Prop,
  (∀ax bw w',E.le ax->j8 ax az bH bw->bd aB ax ab w'->Q .normal bw w')->wpOpsIn (cd rd) 0 P all Q (List.range' i l.length) a w
 | [],i,_,r,h,K,a1,H=>by refine ⟨r,h,H,⟨a1,fun _=>rfl⟩,fun rd aB E a w _ k s Q dX=>?_⟩;simp only [anH,List.range'_zero,wpOpsIn];exact dX E a w (Env.le.refl E) k s
 | o::os,i,aw,r,h,K,a1,H=>by
   have au:all[i]? =some o:=by have:=aw 0;simpa using this.symm
   simp only [zw,ti] at H;obtain ⟨bM,v,J,H1,ob,wB,dh⟩:=bs.alw aM au a1 H;obtain ⟨dw,ad,ag,av,aJ⟩:=Vo aM os (i+1) (fun j=>by have:=aw (j+1);simp only [aov] at this;rw [this];congr 1;omega) _ J K ob H1;refine ⟨dw,ad,ag,⟨av.1,fun z=>by simp only [zw,aoy,anu] at z;exact (av.2 z.2).trans (wB z.1)⟩,fun rd aB E a w aK k s Q dX=>?_⟩;rw [anz,List.range'_succ,wpOpsIn_cons];refine dh rd aB E a w (aK.imp id fun z=>z o aot) k s _ _ fun ax bw w' ct cy fj=>?_;exact aJ rd aB ax bw w' (aK.imp id fun z cp ij=>z cp (aoh _ ij)) cy fj Q fun aI a2 b1 da z2 z3=>dX aI a2 b1 (ct.trans da) z2 z3
def toF (e:ft):gZ:=⟨eR e.r,e.h,e.v⟩
theorem acg (es:List ft) (aA:ah) (i:Nat):yu (es.map toF) aA i=cv es aA i:=by unfold yu cv;rw [aoo];cases es[i]? <;>rfl
theorem Vn {all:Array Oper}:∀(l:List Oper) (nR:bO) (h:ah) (K:List gZ->bA->ah->Prop),mu P (zv P az all l) (eR nR) h K->Out az (eR nR)->
 ∃es o_ aA,K (es.map toF) (eR o_) aA/\(Out az (eR o_)/\eR o_ ej=eR nR ej)/\es.length=l.length/\cv es aA 0=h/\e8 es o_ 0=nR/\
  ∀j o,l[j]? =some o->∃e call,es[j]? =some e/\(hA P call/\hI P call)/\(cU P az all o).run call e.r e.h=.val e.v (cv es aA (j+1))/\e8 es o_ (j+1)=(gn o.dst).run e.r e.v
 | [],nR,h,K,H,a1=>⟨[],nR,h,H,⟨a1,rfl⟩,rfl,rfl,rfl,fun j o bI=>by simp at bI⟩
 | o::os,nR,h,K,H,a1=>by
   simp only [zv,mu] at H;obtain ⟨call,v,J,ao,aZ,H1,dh⟩:=bs.zS H;rw [<-KM] at H1;obtain ⟨es,o_,aA,ag,av,aJ,bU,cX,ev⟩:=Vn os _ J _ H1 (by rw [KM];exact a1.set aZ v);refine ⟨⟨nR,h,v⟩::es,o_,aA,ag,⟨av.1,av.2.trans (by rw [KM];exact F6 aZ v)⟩,by simp [aJ],by simp [cv],by simp [e8],fun j cp bI=>?_⟩;cases j with
   | zero=>
     simp only [anR,ant] at bI;subst bI;exact ⟨⟨nR,h,v⟩,call,rfl,ao,by rw [yt,bU];exact dh nR rfl,by rw [zt,cX]⟩
   | succ j=>
     obtain ⟨e,c,ct,cy,fj,kF⟩:=ev j cp (by simpa using bI);exact ⟨e,c,by simpa using ct,cy,by rw [yt];exact fj,by rw [zt];exact kF⟩
theorem Mh {o:Option bs} {e:Option gZ} {es:List gZ} {aA:ah}:∀{kn:List Nat},se P o e es aA kn->∀s ∈ kn,∃cp dL,o=some cp/\e=some dL/\cp.wp P dL.r (yu es aA s) fun _ c_ _=>c_=dL.v
 | [],_,s,h=>by simp at h
 | h6::kn,H,s,hm=>by
   simp only [se] at H;simp only [an2] at hm;rcases hm with rfl | hm
   . cases o with
     | none=>exact H.1.elim
     | some o=>
       cases e with
       | none=>exact H.1.elim
       | some e=>exact ⟨o,e,rfl,rfl,H.1⟩
   . exact Mh H.2 s hm
theorem Mk {ops:List Oper} {eI aF fb:List Nat} {gs:List bs} {es:List gZ} {aA:ah}:∀{l:List Oper} {i:Nat},qa P gs es aA (xV P ops eI aF fb i l)->∀j o,l[j]? =some o->looks o.op=true->fy P o.op=false->
 se P gs[posOf aF (i+j)]? es[posOf aF (i+j)]? es aA (fb.filter (sX P eI ops aF (i+j) ((eI[i+j]?).getD 0)))
 | [],i,_,j,o,h,_,_=>by simp at h
 | cp::os,i,H,j,o,h,J,ad=>by
   simp only [xV] at H;cases j with
   | zero=>
     simp only [anR,ant] at h;subst h;rw [J,ad] at H;simp only [Bool.not_false,aoz,anC,qa] at H;exact H.1
   | succ j=>
     have my:qa P gs es aA (xV P ops eI aF fb (i+1) os):=by
      cases ao:(looks cp.op&&!fy P cp.op) with
      | true=>rw [ao] at H;simp only [anC,qa] at H;exact H.2
      | false=>rw [ao] at H;exact H
     have:=Mk my j o (by simpa using h) J ad;rw [show i+1+j=i + (j+1) from by omega] at this;exact this
theorem aad (gF:az<=top) (dE:P.follows .mixedOrders=true) (aM:fa P) {id:Nat} {ops:Array Oper} {order aF:List Nat} {r:bA} {h:ah} {Q:en->bA->ah->Prop} (a1:Out az r)
 (H:gO P (KX P az ops order aF) r h Q):∃bH ab,Q .normal bH ab/\(Out az bH/\bH ej=r ej)/\CW P az (.region id ops true) r h .normal bH ab:=by
 unfold KX at H;cases aA:(mT ops.size order aF&&x2 P ops aF) with
 | false=>rw [aA] at H;exact H.elim
 | true=>
   rw [aA] at H;simp only [anC,gO] at H;simp only [anu] at aA;obtain ⟨ik,hZ⟩:=aA;unfold mT at ik;simp only [anu,an6] at ik;obtain ⟨ob,yF,Bs,Bt⟩:=ik;have iV:∀k,k<ops.size->posOf aF k<ops.size/\order[posOf aF k]? =some k:=by
    intro k ay;have an:aF[k]? =some (posOf aF k):=by unfold posOf;rw [anv (by omega)];rfl
    have:=uK Bs an;rw [an8] at this;exact ⟨by have:=(anU.1 this).1;omega,this⟩
   have mj:∀p,p<ops.size->∃i,i<ops.size/\posOf aF i=p:=by intro p ak;have an:order[p]? =some (order[p]'(by omega)):=anv (by omega);have:=uK Bt an;rw [an8] at this;refine ⟨order[p]'(by omega),by have:=(anU.1 this).1;omega,?_⟩;unfold posOf;rw [this];rfl
   obtain ⟨nR,El⟩:=x' a1;rw [<-El] at H a1;obtain ⟨es,o_,bp,⟨A_,dX⟩,⟨ky,Re⟩,ag,av,aJ,bU⟩:=Vn _ nR h _ H a1;refine ⟨_,bp,dX,⟨ky,by rw [<-El];exact Re⟩,fun rd aB E a w aK k s jc Im=>?_⟩;have step:∀i:Nat,∃call,(hA P call/\hI P call)/\∀o,ops[i]? =some o->∃e,es[posOf aF i]? =some e/\(cU P az ops o).run call e.r e.h=.val e.v (cv es bp (posOf aF i+1))/\e8 es o_ (posOf aF i+1)=(gn o.dst).run e.r e.v:=by
    intro i;cases au:ops[i]? with
    | none=>exact ⟨mh,Ff P,fun o h=>by cases h⟩
    | some o=>
      obtain ⟨e,call,ct,cy,fj,kF⟩:=bU _ o (oy (iV i (anx.1 au).1).2 au);exact ⟨call,cy,fun cp ij=>by cases ij;exact ⟨e,ct,fj,kF⟩⟩
   obtain ⟨calls,yp⟩:=Classical.axiomOfChoice step;have tO:∀j o,ops[j]? =some o->looks o.op=true->fy P o.op=false->∃e,es[posOf aF j]? =some e/\∀s ∈ iq P aF 0 ops.toList,
    sX P (fp [] ops.toList) ops.toList aF j (((fp [] ops.toList)[j]?).getD 0) s=true->∃c ab,(hA P c/\hI P c)/\(cU P az ops o).run c e.r (cv es bp s)=.val e.v ab:=by
    intro j o rr eB acm;have bI:=(anx.1 rr).1;obtain ⟨e,ct,cy,fj⟩:=(yp j).2 o rr;refine ⟨e,ct,fun s aL hm=>?_⟩;cases aw:sb P ops.toList with
    | true=>
      rw [aw] at A_;simp only [anC] at A_;have:=Mk A_ j o (by simpa using rr) eB acm;rw [an8] at this;obtain ⟨cp,dL,da,z2,z3⟩:=Mh this s (List.mem_filter.2 ⟨aL,hm⟩);rw [Ua,aoo,oy (iV j bI).2 rr] at da;simp only [ao2,ant] at da;rw [aoo,ct] at z2;simp only [ao2,ant] at z2;subst da;subst z2;rw [acg] at z3;obtain ⟨c,v,ab,fc,_,y3,y4⟩:=bs.zS z3;have Vt:=y4 e.r rfl;rw [show v=e.v from y3] at Vt;exact ⟨c,ab,fc,Vt⟩
    | false=>
      have none:∀(l:List Oper),sb P l=false->∀(j:Nat) (o:Oper),l[j]? =some o->fy P o.op=false:=by
       intro l
       induction l with
       | nil=>intro _ j o h;simp at h
       | cons x l bC=>
         intro h j o a1;simp only [sb,apB] at h;cases j with
         | zero=>simp only [anR,ant] at a1;subst a1;exact h.1
         | succ j=>exact bC h.2 j o (by simpa using a1)
      have kg:s=ops.size:=by
       rcases uu aL with h | ⟨EN,cp,J,ad,aC⟩
       . simpa using h
       . have:=none _ aw EN cp J;unfold eX at ad;rw [this] at ad;cases ad
      have flat:∀d,d<=ops.size->cv es bp d=cv es bp 0:=by
       intro d
       induction d with
       | zero=>intro _;rfl
       | succ d bC=>
         intro aZ;obtain ⟨i,dd,gR⟩:=mj d (by omega);have cP:ops[i]? =some ops[i]:=anQ dd;obtain ⟨aag,b4,b1,_⟩:=(yp i).2 ops[i] cP;rw [gR] at b4 b1;have eC:fy P ops[i].op=false:=none _ aw i _ (by simp);rw [(vB eC b1).1,<-bC (by omega)];simp [cv,b4]
      have amA:=(iV j bI).1;have:e.h=cv es bp s:=by rw [kg,flat ops.size (anD _),<-flat (posOf aF j) (by omega)];simp [cv,ct]
      rw [<-this];exact ⟨_,_,(yp j).1,cy⟩
   have hlen:es.length=ops.size:=by rw [ag,qI,ob]
   have C:Cert P az ops calls es nR h o_ bp (iq P aF 0 ops.toList) order aF ops.size ops.size false:=
    ⟨hlen,anD _,anD _,iV,mj,av,aJ,fun i o cP _=>(yp i).2 o cP,
      fun i o cP=>by
       obtain ⟨c',da,z2,z3⟩:=Pp hZ i o cP
       exact ⟨c',da,z2,fun _ k ok ay _=>by
        obtain ⟨mk,fc,fA,y3⟩:=z3 k ok ay
        exact ⟨mk,fc,fA,fun al aN cj=>.inl (y3 al aN cj)⟩⟩,
      by simpa using E1 (P:=P) (aF:=aF) (l:=ops.toList) (i:=0),
      fun j o J ad=>by simpa using za (aF:=aF) (i:=0) (j:=j) (l:=ops.toList) (by simpa using J) ad,
      fun s aL=>by
       rcases uu aL with h | ⟨j,o,J,ad,aC⟩
       . exact .inl (.inl (by simpa using h))
       . exact .inr ⟨j,o,by simpa using J,ad,by simpa using aC⟩,
      fun j o J ad aC _=>tO j o J ad aC,fun h=>absurd h (aoT _),fun h=>absurd h (aoT _)⟩
   have ay:RegRel0 E az nR a:=⟨k.size,fun t aE=>by have:=congrFun El t;simp only [eR] at this;rw [this];exact k.af t (pK aE)⟩;have ec:∀k,¬(Array.replicate ops.size false).getD k false=true:=by
    intro k;rw [tI,Array.getElem?_replicate]
    split<;>simp
   have kT:Holds aB aB es bp aF (kM ops es bp aF (Array.replicate ops.size false) 0):=
    ⟨rfl,fun _ _=>rfl,fun k ay=>(by obtain ⟨_,_,_,_,a6⟩:=ay;omega),fun k bu ay=>(by obtain ⟨_,_,_,_,a6⟩:=ay;omega)⟩
   obtain ⟨h6,dn,g1,g2,g3,g4,g5,g6⟩:=C.advance ops.size 0 (by omega) (fun k o _ _ _=>ec k) aB kT (E:=E) (w:={w with drawn:=w.drawn}) (by rw [av];exact s.same rfl rfl rfl rfl);have yP:eR o_ ej=r ej:=by rw [<-El];exact Re
   have fin:∀ax bw w',E.le ax->RegRel0 ax az o_ bw->bw.defers=a.defers->bd aB ax bp w'->jc .normal bw w':=by
    intro ax bw w' da z2 jQ z3;refine Im ax bw w' da ⟨z2.size,by rw [yP,jQ];exact k.defers.mono da,fun t gb=>?_⟩ z3;by_cases aE:t<=top
    . exact z2.af t aE
    . have cx:=z2.size;rw [ky t (by omega) gb];simp [Rel]
   refine Vl dE (Pr aM (fun i=>(yp i).1.1) (fun i=>(yp i).1.2) C (iJ:=E) (D:=a.defers) (fun _=>fin)
    (fun _ _ _ _ _ _ _ h=>absurd h (aoT _)) (fun h=>absurd h (aoT _)) ops.size _ a _ ?_ ?_)
   . exact aol apv (by simp)
   . refine ⟨by simp,ay.size,rfl,fun bu ay=>absurd ay (ec bu),fun bu o e ay=>absurd ay (ec bu),E,h6,dn,Env.le.refl E,g1,g3,fun bu o J ad=>⟨fun h=>absurd h (ec bu),fun h=>by have:=g4 bu o J ad (apj _);omega⟩,
      fun bu o _ _ h=>absurd h (ec bu),g5,?_,fun t aE=>.inr ⟨fun bu o ay=>absurd ay (ec bu),ay.af t aE⟩⟩
     exact g6.same rfl rfl rfl rfl
theorem aaA {rd:Option Nat} {e:en} {Q:Exit->Act->World->Prop} {a:Act} {w:World} (h:Q (toExit e) a w):(HT e).wpIn (cd rd) 0 P Q a w:=by
 cases e with
 | normal=>exact wpIn_skip h
 | exit id=>exact wpIn_exit h
 | ret=>exact wpIn_ret h
theorem ajp (gF:az<=top) (dE:P.follows .mixedOrders=true) (aM:fa P) {f:Operand} {bE:Array Tmp} {x y:Code} {r:bA} {h:ah} {Q:en->bA->ah->Prop} (a1:Out az r)
 (H:gO P (gJ P az (.rangeFunc f bE x y)) r h Q):∃e bH ab,Q e bH ab/\(Out az bH/\((gJ P az (.rangeFunc f bE x y)).plain=true->bH ej=r ej))/\CW P az (.rangeFunc f bE x y) r h e bH ab:=by
 simp only [gJ] at H ⊢;cases hZ:(uL az bE.toList&&(noMark x&&noMark y)) with
 | false=>rw [hZ] at H;exact H.elim
 | true=>
   rw [hZ] at H;simp only [anC,gO] at H ⊢;simp only [anu] at hZ;obtain ⟨g,cs,bB,an,sw,H⟩:=H;obtain ⟨c7,eu⟩:=x' a1;obtain ⟨v,ab,db,gm,al,aN,dX⟩:=H ⟨0,none,aD h.next,az,c7,bE.toList,x,y⟩ ⟨rfl,eu,rfl,rfl,rfl,hZ.1,hZ.2.1,hZ.2.2,a1⟩ rfl rfl;refine ⟨_,_,_,dX,⟨fun t J ad=>by simp only [bA.set];rw [anE ad];exact a1 t J ad,fun z=>by cases z⟩,fun rd aB E a w aK k s jc Im=>?_⟩;have adg:rd=none:=aK.resolve_right (by simp [noMark]);subst adg;have aA:Rel E (.func g cs) (a.eval f):=by
    rw [<-bB];cases f with
    | tmp t=>
      simp only [rx];cases aj:Nat.ble t top with
      | false=>simp [aW.aV,Rel]
      | true=>
        simp only [anC,aW.aV];exact k.af t (pK (an9 aj))
    | const v=>exact uF E v
    | func f=>
      simp only [rx];cases aj:Nat.beq f dy with
      | true=>simp [aW.aV,Rel]
      | false=>
        simp only [anN,aW.aV,Rel];exact .inl ⟨fun e=>by subst e;simp at aj,_,rfl,by simp [bm]⟩
    | global g=>simp [rx,aW.aV,Rel]
   simp only [Rel] at aA;rcases aA with ⟨_,fe,dO,aw⟩ | ⟨IK,_⟩
   case inr=>exact absurd IK an
   refine (wpIn_rangeFunc fun fn _=>?_:(Code.rangeFunc f bE x y).wpIn (cd none) 0 P jc a w);have f0:=s.fresh h.next (anD _)
   obtain ⟨aY,vP⟩:∃aY,aY=E.put (aD h.next) ⟨w.heap.size,0,0⟩:=⟨_,rfl⟩;obtain ⟨b4,qB⟩:∃b4:World,b4={w with heap:=w.heap.push (.deferred (some []))}:=⟨_,rfl⟩;have Bx:aY (aD h.next)=some ⟨w.heap.size,0,0⟩:=by rw [vP];unfold Env.put;rw [anL rfl]
   have s1:bd aB aY (h.new .gp) b4:=by rw [vP,qB];refine s.alloc 0 ⟨⟨w.heap.size,0,0⟩,by unfold Env.put;rw [anL rfl],s.frame.size,by simp⟩
   have pD:E.le aY:=by rw [vP];exact Env.nE f0
   have wC:b4.heap.size=w.heap.size+1:=by rw [qB];simp
   obtain ⟨o,ij⟩:∃o:Loop,o={state:=.ready,pending:=none,fn,tmps:=a.tmps,params:=bE,assign:=x,body:=y,defers:=w.heap.size}:=⟨_,rfl⟩;obtain ⟨aI,sr⟩:∃aI,aI=aY.put (aD (h.next+1)) ⟨b4.heap.size,0,0⟩:=⟨_,rfl⟩;obtain ⟨b1,tY⟩:∃b1:World,b1={b4 with heap:=b4.heap.push (.loop o)}:=⟨_,rfl⟩;have f1:aY (aD (h.next+1))=none:=s1.fresh (h.next+1) (anD _);have mP:aY.le aI:=by rw [sr];exact Env.nE f1
   have By:aI (aD (h.next+1))=some ⟨b4.heap.size,0,0⟩:=by rw [sr];unfold Env.put;rw [anL rfl]
   have gx:vl aI ⟨0,none,aD h.next,az,c7,bE.toList,x,y⟩ o:=by subst ij;refine ⟨rfl,rfl,rfl,rfl,rfl,k.size,fun t aE=>?_,_,mP _ _ Bx,rfl⟩;have:=congrFun eu t;simp only [eR] at this;simp only [this];exact Rel.mono (pD.trans mP) _ _ (k.af t (pK aE))
   have s2:bd aB aI ((h.new .gp).new (.gx ⟨0,none,aD h.next,az,c7,bE.toList,x,y⟩)) b1:=by rw [sr,tY];refine s1.alloc 0 ⟨⟨b4.heap.size,0,0⟩,o,by show aY.put (aD (h.next+1)) _ (aD (h.next+1))=_;unfold Env.put;rw [anL rfl],by show aB.w.heap.size<=b4.heap.size;rw [wC];have:=s.frame.size;omega,by simp,?_⟩;have:=gx;rw [sr] at this;exact this
   obtain ⟨iE,qt⟩:∃iE,iE=b4.heap.size:=⟨_,rfl⟩;have bc:Rel aI (.func dy [.ptr (aD (h.next+1)) 0]) (.func (.yield iE) #[] #[]):=by simp only [Rel];exact .inr ⟨trivial,_,_,rfl,By,by rw [qt]⟩
   have qk:bm aI (.func dy [.ptr (aD (h.next+1)) 0]::cs) (.func (.yield iE) #[] #[]::fe.toList):=by simp only [bm];exact ⟨_,_,rfl,bc,bm.mono (pD.trans mP) _ _ aw⟩
   have ao:Calls P g (Value.func (Fn.yield iE) #[] #[]::fe.toList).toArray b1 (rangePost (cd none) 0 P iE jc {a with defers:=[{target:=.collected w.heap.size,args:=#[]}]++a.defers}):=(db.calls aM sw aB aI b1 _ qk s2).mono fun e w' aq=>by
    obtain ⟨ax,ano,rfl,ag,_,aJ⟩:=aq;simp only [rangePost];have kA:=ag _ _ By;have aj:=aJ.at kA;rw [al] at aj;obtain ⟨p',cp,hQ,dz,bp,IW⟩:=aj;rw [kA] at hQ;cases hQ;obtain ⟨t1,t2,t3,t4,t5,t6,t7,t8⟩:=IW;simp only at bp;rw [<-qt] at bp;have I2:(cp.state == LoopState.busy)=false:=by
     rw [t1]
     match l3:gm.st with
     | 0=>rfl
     | 1=>exact absurd l3 aN
     | n+2=>rfl
    have l7:=(anx.1 bp).1
    let iZ:World:={w' with heap:=w'.heap.setIfInBounds iE (.loop {cp with state:=.exhausted})}
    have gE:(Instr.endLoop iE).run P w'=.ok cp.pending iZ:=by
     have qA:(setObj iE (.loop {cp with state:=.exhausted})).run P w'=.ok () iZ:=by simp only [setObj,Sem.run,bp];rfl
     simp only [Instr.endLoop,Sem.run_bind,run_getLoop bp,Result.andThen_ok,I2,anV,an4,qA,Sem.run_pure]
    have zB:bd aB ax (ab.set (aD (h.next+1)) .dead) iZ:=by refine aJ.gone (p:=⟨b4.heap.size,0,0⟩) (by rw [al];rfl) kA dz (by simp [iZ]) (fun j bI=>?_) rfl rfl rfl;simp only at bI;simp only [iZ,anT];rw [anE (fun e=>bI (by rw [<-e,qt]))]
    have eQ:j8 ax az (r.set (some ej) (.tuple (.ptr (aD h.next) 0::(r ej).list))) {a with defers:=[{target:=.collected w.heap.size,args:=#[]}]++a.defers}:=by
     refine ⟨k.size,?_,fun t aE=>?_⟩
     . simp only [bA.set,an7,lP,mw,anO,anP];exact ⟨_,_,rfl,⟨_,ag _ _ (mP _ _ Bx),rfl⟩,(k.defers.mono (pD.trans (mP.trans ag))).list⟩
     . simp only [bA.set];rw [anE aE];exact Rel.mono (pD.trans (mP.trans ag)) _ _ (k.af t aE)
    refine ⟨cp.pending,iZ,gE,?_⟩;rw [t2];have fin:=Im ax _ iZ (pD.trans (mP.trans ag)) eQ zB;cases lp:gm.h3 with
    | none=>rw [lp] at fin;exact fin
    | some e=>rw [lp] at fin;exact aaA fin
   obtain ⟨amm,acu,sw⟩:=sw;refine ⟨iE,[{target:=.collected w.heap.size,args:=#[]}],b1,{target:=.fn (.func g) fe,args:=#[]++#[.func (.yield iE) #[] #[]]},b1,g,_,b1,?_,?_,fun _ _=>trivial,?_,fun h=>by simp at h,sl.2 ao⟩
   . subst ij tY qB;have he:=run_enterLoop_outer (P:=P) (w:=w) fn a.tmps bE x y;rw [World.alloc,World.alloc] at he;simp only [Array.size_push] at qt ⊢;rw [qt];exact he
   . simp only [resolve,dO,Deferred.ofValue,Sem.run_pure];simp [Act.eval]
   . simp only [invoke];have e:(#[]++#[Value.func (.yield iE) #[] #[]]:Array Value)++fe=(Value.func (.yield iE) #[] #[]::fe.toList).toArray:=by apply apg;simp
     rw [e];exact s9 aM acu sw _ b1
theorem Ls (gF:az<=top) (dE:P.follows .mixedOrders=true) (aM:fa P):∀(c:Code) (r:bA) (h:ah) (Q:en->bA->ah->Prop),Out az r->gO P (gJ P az c) r h Q->
 ∃e bH ab,Q e bH ab/\(Out az bH/\((gJ P az c).plain=true->bH ej=r ej))/\CW P az c r h e bH ab:=by
 intro c
 induction c with
 | skip=>
   intro r h Q a1 H;exact ⟨.normal,r,h,H,⟨a1,fun _=>rfl⟩,fun rd aB E a w aK k s jc dX=>wpIn_skip (dX E a w (Env.le.refl E) k s)⟩
 | label l=>
   intro r h Q a1 H;exact ⟨.normal,r,h,H,⟨a1,fun _=>rfl⟩,fun rd aB E a w aK k s jc dX=>wpIn_label (dX E a w (Env.le.refl E) k s)⟩
 | exit id=>
   intro r h Q a1 H;exact ⟨.exit id,r,h,H,⟨a1,fun _=>rfl⟩,fun rd aB E a w aK k s jc dX=>wpIn_exit (dX E a w (Env.le.refl E) k s)⟩
 | ret=>
   intro r h Q a1 H;exact ⟨.ret,r,h,H,⟨a1,fun _=>rfl⟩,fun rd aB E a w aK k s jc dX=>wpIn_ret (dX E a w (Env.le.refl E) k s)⟩
 | region id ops draw=>
   intro r h Q a1 H;cases draw with
   | true=>
     simp only [gJ,anC] at H;obtain ⟨bH,ab,ag,av,aJ⟩:=aad gF dE aM (id:=id) a1 H;exact ⟨.normal,bH,ab,ag,⟨av.1,fun _=>av.2⟩,aJ⟩
   | false=>
     simp only [gJ,anN,gO] at H;obtain ⟨bH,ab,ag,av,aJ⟩:=Vo aM ops.toList 0 (fun j=>by simp) r h _ a1 H;refine ⟨.normal,bH,ab,ag,⟨av.1,fun z=>av.2 (by simpa only [gJ,anN,bD.plain] using z)⟩,fun rd aB E a w aK k s jc dX=>?_⟩;refine wpIn_region ?_;have:=aJ rd aB E a w (aK.imp (fun y=>y) fun z=>by simpa only [noMark,an0] using z) k s jc dX;rw [List.range_eq_range'];simpa using this
 | seq x y wG wH=>
   intro r h Q a1 H;simp only [gJ,gO] at H;obtain ⟨e,bM,J,ag,av,aJ⟩:=wG r h _ a1 H;cases e with
   | normal=>
     obtain ⟨e,dw,ad,ct,cy,fj⟩:=wH bM J Q av.1 ag;refine ⟨e,dw,ad,ct,⟨cy.1,fun z=>by simp only [gJ,bD.plain,anu] at z;exact (cy.2 z.2).trans (av.2 z.1)⟩,fun rd aB E a w aK k s jc dX=>?_⟩;refine wpIn_seq (aJ rd aB E a w (aK.imp (fun h=>h) fun h=>by simp only [noMark,anu] at h;exact h.1) k s _ fun ax bw w' da z2 z3=>?_).wp;exact (fj rd aB ax bw w' (aK.imp (fun h=>h) fun h=>by simp only [noMark,anu] at h;exact h.2) z2 z3 jc fun aI a2 b1 fc fA y3=>dX aI a2 b1 (da.trans fc) fA y3).wp
   | exit i=>
     refine ⟨.exit i,bM,J,ag,⟨av.1,fun z=>by simp only [gJ,bD.plain,anu] at z;exact av.2 z.1⟩,fun rd aB E a w aK k s jc dX=>?_⟩;refine wpIn_seq (aJ rd aB E a w (aK.imp (fun h=>h) fun h=>by simp only [noMark,anu] at h;exact h.1) k s _ fun ax bw w' da z2 z3=>?_).wp;exact dX ax bw w' da z2 z3
   | ret=>
     refine ⟨.ret,bM,J,ag,⟨av.1,fun z=>by simp only [gJ,bD.plain,anu] at z;exact av.2 z.1⟩,fun rd aB E a w aK k s jc dX=>?_⟩;refine wpIn_seq (aJ rd aB E a w (aK.imp (fun h=>h) fun h=>by simp only [noMark,anu] at h;exact h.1) k s _ fun ax bw w' da z2 z3=>?_).wp;exact dX ax bw w' da z2 z3
 | cond c x y wG wH=>
   intro r h Q a1 H;simp only [gJ,gO] at H;cases bB:(rx c).aV r<;>rw [bB] at H<;>simp only at H<;>try (exact H.elim)
   rename_i t;have ao:∀E a,j8 E az r a->a.eval c=.bool t:=by
    intro E a k;cases c with
    | tmp d=>
      simp only [rx] at bB;cases aj:Nat.ble d top with
      | false=>rw [aj] at bB;simp [aW.aV] at bB
      | true=>
        rw [aj] at bB;simp only [anC,aW.aV] at bB;have:=k.af d (pK (an9 aj));rw [bB] at this;simp only [Rel] at this;exact this
    | const v=>
      simp only [rx,aW.aV] at bB;have:=uF E v;rw [bB] at this;simp only [Rel] at this;exact this
    | func f=>
      simp only [rx] at bB;cases aj:Nat.beq f dy<;>rw [aj] at bB<;>simp [aW.aV] at bB
    | global g=>simp [rx,aW.aV] at bB
   cases t with
   | true=>
     obtain ⟨e,bM,J,ag,av,aJ⟩:=wG r h Q a1 (H.1 rfl);exact ⟨e,bM,J,ag,⟨av.1,fun z=>by simp only [gJ,bD.plain,anu] at z;exact av.2 z.1⟩,fun rd aB E a w aK k s jc dX=>wpIn_cond_true (ao E a k) (aJ rd aB E a w (aK.imp (fun h=>h) fun h=>by simp only [noMark,anu] at h;exact h.1) k s jc dX).wp⟩
   | false=>
     obtain ⟨e,bM,J,ag,av,aJ⟩:=wH r h Q a1 (H.2 rfl);exact ⟨e,bM,J,ag,⟨av.1,fun z=>by simp only [gJ,bD.plain,anu] at z;exact av.2 z.2⟩,fun rd aB E a w aK k s jc dX=>wpIn_cond_false (ao E a k) (aJ rd aB E a w (aK.imp (fun h=>h) fun h=>by simp only [noMark,anu] at h;exact h.2) k s jc dX).wp⟩
 | block id x bC=>
   intro r h Q a1 H;simp only [gJ,gO] at H;obtain ⟨e,bM,J,ag,av,aJ⟩:=bC r h _ a1 H;refine ⟨e.leave id,bM,J,ag,av,fun rd aB E a w aK k s jc dX=>?_⟩;refine wpIn_block (aJ rd aB E a w (aK.imp (fun h=>h) fun h=>h) k s _ fun ax bw w' da z2 z3=>?_).wp;cases e with
   | normal=>exact dX ax bw w' da z2 z3
   | ret=>exact dX ax bw w' da z2 z3
   | exit i=>
     have:=dX ax bw w' da z2 z3;simp only [toExit,Exit.inBlock];simp only [en.leave] at this;by_cases au:i=id
     . rw [anL au] at this ⊢;exact this
     . rw [anE au] at this ⊢;exact this
 | loop x bC=>
   intro r h Q a1 H;simp only [gJ,gO] at H;obtain ⟨I,μ,qj,adh⟩:=H;have key:∀n r h,μ r h=n->I r h->Out az r->∃e bH ab,Q e bH ab/\(Out az bH/\((gJ P az (.loop x)).plain=true->bH ej=r ej))/\CW P az (.loop x) r h e bH ab:=by
    intro n
    induction n using Nat.strongRecOn with
    | _ n adP=>
      intro r h aX qj a1;obtain ⟨e,bM,J,ag,av,aJ⟩:=bC r h _ a1 (adh r h qj);have body:∀(rd:Option Nat) (aB:Fr) E a w,(rd=none\/noMark x=true)->j8 E az r a->bd aB E h w->∀(b:Frame) (dB:List Item) (cs:List Frame),b.roundOf=rd->∃bw w' ax,E.le ax/\j8 ax az bM bw/\bd aB ax J w'/\ArrivesIn (Machine.fenced P (cd rd)) P (lone (b.atR a (.code x::.inLoop x::dB)) cs w) b (.inLoop x::dB) cs (toExit e) bw w':=by intro rd aB E a w aK k s b dB cs mM;have:=(aJ rd aB E a w aK k s (fun dL bw w'=>dL=toExit e/\∃ax,E.le ax/\j8 ax az bM bw/\bd aB ax J w') (fun ax bw w' ag av aJ=>⟨rfl,ax,ag,av,aJ⟩)).wp b (.inLoop x::dB) cs mM trivial (K2 _);obtain ⟨aN,a2,b1,⟨rfl,aI,da,z2,z3⟩,ku⟩:=this;exact ⟨a2,b1,aI,da,z2,z3,ku⟩
      cases e with
      | normal=>
        obtain ⟨abQ,aH⟩:=ag;obtain ⟨aN,dw,ad,ct,cy,fj⟩:=adP (μ bM J) (aX ▸ aH) bM J rfl abQ av.1;refine ⟨aN,dw,ad,ct,⟨cy.1,fun z=>(cy.2 z).trans (av.2 z)⟩,fun rd aB E a w aK k s jc dX b dB cs mM=>?_⟩;obtain ⟨a2,b1,aI,da,z2,z3,ku⟩:=body rd aB E a w (aK.imp (fun h=>h) fun h=>h) k s b dB cs mM;obtain ⟨cj,a3,jt,fc,fA⟩:=fj rd aB aI a2 b1 aK z2 z3 jc (fun cG a4 iZ t1 t2 t3=>dX cG a4 iZ (da.trans t1) t2 t3) b dB cs mM;exact ⟨cj,a3,jt,fc,.of_steps (StepsIn.trans ku (.one (rh _) stepR_inLoop)) fA⟩
      | exit i=>
        refine ⟨.exit i,bM,J,ag,av,fun rd aB E a w aK k s jc dX b dB cs mM=>?_⟩;obtain ⟨a2,b1,aI,da,z2,z3,ku⟩:=body rd aB E a w (aK.imp (fun h=>h) fun h=>h) k s b dB cs mM;exact ⟨.exit i,a2,b1,dX aI a2 b1 da z2 z3,.pass (x:=.inLoop x) rfl (fun _ _=>.inl (by simp)) ku⟩
      | ret=>
        refine ⟨.ret,bM,J,ag,av,fun rd aB E a w aK k s jc dX b dB cs mM=>?_⟩;obtain ⟨a2,b1,aI,da,z2,z3,ku⟩:=body rd aB E a w (aK.imp (fun h=>h) fun h=>h) k s b dB cs mM;exact ⟨.ret,a2,b1,dX aI a2 b1 da z2 z3,.pass (x:=.inLoop x) rfl (fun _ _=>.inl (by simp)) ku⟩
   exact key _ r h rfl qj a1
 | scope x bC=>
   intro r h Q a1 H;obtain ⟨e,bM,J,ag,av,aJ⟩:=bC r h Q a1 H;refine ⟨e,bM,J,ag,av,fun rd aB E a w aK k s jc dX=>?_⟩;refine Uw (aJ rd aB E a w (aK.imp (fun h=>h) fun h=>h) k s _ fun ax bw w' da z2 z3=>?_).wp;have:=dX ax bw w' da z2 z3;cases e<;>exact this
 | rangeFunc f bE x y _ _=>intro r h Q a1 H;exact ajp gF dE aM a1 H
 | goto l=>intro r h Q a1 H;exact H.elim
 | refuse alo=>intro r h Q a1 H;exact H.elim
inductive p_ where
 | t (n:Nat)
 | bW (n:Nat)
 | vy (n size:Nat)
 | bad
def nH (P:Program) (az:Nat):List ResultVar->List p_
 | []=>[]
 | .tmp t::rs=>(bif Nat.ble t top&&Nat.blt t az then .t t else .bad)::nH P az rs
 | .cell a t::rs=>(bif Nat.ble a top&&Nat.blt a az then (match bg P t with
   | none=>.bad
   | some aO=>bif aO.agg then .vy a aO.size else bif Nat.beq aO.size 1 then .bW a else .bad) else .bad)::nH P az rs
def kt (r:bA) (h:ah):List p_->Option (List V)
 | []=>some []
 | x::xs=>match (match x with
   | .t n=>some (r n)
   | .bW n=>ou h (r n)
   | .vy n size=>ot size h (r n)
   | .bad=>none) with
   | none=>none
   | some v=>match kt r h xs with
     | none=>none
     | some ai=>some (v::ai)
theorem x8 {r:bA} {h:ah} {c7:bO} (eu:eR c7=r):∀{l:List ResultVar} {ai:List V},kt r h (nH P az l)=some ai->(lI P az l).run c7 h=some ai
 | [],ai,he=>by simpa [kt,nH,lI] using he
 | .tmp t::rs,ai,he=>by
   simp only [nH,kt] at he;unfold lI;cases ao:(Nat.ble t top&&Nat.blt t az) with
   | false=>rw [ao] at he;simp at he
   | true=>
     rw [ao] at he;simp only [anC] at he ⊢;cases aK:kt r h (nH P az rs) with
     | none=>rw [aK] at he;cases he
     | some xm=>
       rw [aK] at he;rw [x8 eu aK];have:=congrFun eu t;simp only [eR] at this;rw [this];exact he
 | .cell a t::rs,ai,he=>by
   simp only [nH,kt] at he;unfold lI;cases ao:(Nat.ble a top&&Nat.blt a az) with
   | false=>rw [ao] at he;simp at he
   | true=>
     rw [ao] at he;simp only [anC] at he ⊢;have Q_:=congrFun eu a;simp only [eR] at Q_;rw [Q_];unfold qH;cases aE:bg P t with
     | none=>rw [aE] at he;simp at he
     | some aO=>
       rw [aE] at he;simp only at he ⊢;cases Qr:aO.agg with
       | true=>
         rw [Qr] at he;simp only [anC] at he ⊢;cases aw:ot aO.size h (r a) with
         | none=>rw [aw] at he;cases he
         | some v=>
           rw [aw] at he;simp only at he ⊢;cases aK:kt r h (nH P az rs) with
           | none=>rw [aK] at he;cases he
           | some xm=>rw [aK] at he;rw [x8 eu aK];exact he
       | false=>
         rw [Qr] at he;simp only [anN] at he ⊢;cases aL:Nat.beq aO.size 1 with
         | false=>rw [aL] at he;simp at he
         | true=>
           rw [aL] at he;simp only [anC] at he ⊢;cases aw:ou h (r a) with
           | none=>rw [aw] at he;cases he
           | some v=>
             rw [aw] at he;simp only at he ⊢;cases aK:kt r h (nH P az rs) with
             | none=>rw [aK] at he;cases he
             | some xm=>rw [aK] at he;rw [x8 eu aK];exact he
theorem sY:∀(l:List V) (t:Nat),bA.a_ l t=(l[t]?).getD .bad
 | [],t=>by simp [bA.a_]
 | v::ai,t=>by
   simp only [bA.a_];cases t with
   | zero=>simp
   | succ t=>simp [sY ai t]
def en.ends:en->Prop
 | .exit _=>False
 | _=>True
def B3:List V->ah->Option ah
 | [],h=>some h
 | .ptr b _::ds,h=>(match h.get b with
   | .gp=>B3 ds (h.set b .dead)
   | _=>none)
 | _::_,_=>none
theorem Sj {k8:u'}:∀{ds:List V} {h ad:ah},B3 ds h=some ad->om k8 ds none h=.go none ad
 | [],h,ad,e=>by simp only [B3,ant] at e;subst e;rfl
 | d::ds,h,ad,e=>by
   cases d<;>simp only [B3] at e<;>try (cases e;done)
   rename_i b o;simp only [om];cases an:h.get b<;>rw [an] at e<;>simp only at e<;>try (cases e;done)
   exact Sj e
theorem ZM (dE:P.follows .mixedOrders=true) (aM:fa P) {f:FuncId} {fn:Func} {c:Code} {args:List V} {h:ah} {K:V->ah->Prop} (aA:P.funcs[f]? =some fn) (aj:fn.body=some c)
 (gF:Nat.ble fn.ntmps top=true) (bc:Nat.beq f dy=false) (kc:Nat.ble args.length fn.ntmps=true) {rc:bD} {eJ:List p_} (wz:gJ P fn.ntmps c=rc) (sJ:nH P fn.ntmps fn.results.toList=eJ) {Q:en->bA->ah->Prop} (H:gO P rc (bA.a_ args) h Q)
 (dX:∀e r ab,(rc.plain=true->r ej=.bad)->Q e r ab->e.ends/\∃ad,B3 (r ej).list ab=some ad/\∃ai,kt r ad eJ=some ai/\K (oneOf ai) ad):b8 P f args h K:=by
 subst wz sJ;rw [anS] at gF kc;have a1:Out fn.ntmps (bA.a_ args):=by intro t aE _;rw [sY,an3 (by omega)];rfl
 have iB:(bA.a_ args) ej=.bad:=by rw [sY,an3 (by unfold ej;unfold top at gF;omega)];rfl
 obtain ⟨e,bH,ab,aq,ky,Bf⟩:=Ls gF dE aM c _ h _ a1 H;obtain ⟨gE,ad,sC,ai,BF,dW⟩:=dX e bH ab (fun z=>(ky.2 z).trans iB) aq;have h0:f≠dy:=fun e=>by subst e;simp at bc
 refine ⟨oneOf ai,ad,⟨h0,.inl ⟨⟨fn,aA,by rw [aj];rfl⟩,fun aB E w xs ar s=>?_⟩⟩,dW⟩;have hlen:=ar.length;have cx:xs.toArray.size<=fn.ntmps:=by simp;omega
 refine sl.1 (callsIn_of_wp_marks (F:=cd none) (n:=0) aA aj trivial ?_);have k:j8 E fn.ntmps (bA.a_ args) {tmps:=xs.toArray++Array.replicate (fn.ntmps-xs.toArray.size) undef,defers:=[]}:=by
  refine ⟨by simp;omega,by rw [iB];simp [lP],fun t _=>?_⟩;rw [sY];cases an:args[t]? with
  | none=>simp [Rel]
  | some v=>
    obtain ⟨y,bc,aK⟩:=ar.get t v an;simp only [aoZ];have yR:t<xs.length:=(anU.1 bc).1;rw [anY,aoV (by simpa using yR)];simp only [List.getElem?_toArray,bc,aoZ];exact aK
 have mE:CY P (fun _ _ _ _=>.fail):=fun f args u h e1 ab he=>by cases he
 have fin:∀ax bw w',E.le ax->j8 ax fn.ntmps bH bw->bd aB ax ab w'->LeavesInM (cd none) 0 P fn bw.tmps (fun e w'=>∃ax x,e=.returned x/\E.le ax/\Rel ax (oneOf ai) x/\bd aB ax ad w') bw.defers .returning w':=by
  intro ax bw w' ag av aJ;obtain ⟨c7,eu⟩:=x' ky.1;have aZ:T.get .bad fw c7=bH ej:=by have:=congrFun eu ej;simp only [eR] at this;exact this
  have ay:fZ ax fn.ntmps c7 bw:=⟨⟨av.size,fun t aE=>by
   have:=congrFun eu t;simp only [eR] at this;rw [this]
   exact av.af t (pK aE)⟩,by rw [aZ];exact av.defers⟩
  refine HV (C:=⟨P,fun _=>none,fun _=>none⟩) (u:=none) aM mE ay rfl aJ ?_;rw [aZ,Sj sC];simp only [finish];rw [x8 eu BF];exact fun aI x b1 ct cy fj=>⟨aI,x,rfl,ag.trans ct,cy,fj⟩
 refine (Bf none aB E _ w (.inl rfl) k s _ fun ax bw w' ag av aJ=>?_).wp;have:=fin ax bw w' ag av aJ;cases e with
 | normal=>exact this
 | ret=>exact this
 | exit i=>exact gE.elim
theorem ZN (dE:P.follows .mixedOrders=true) (aM:fa P) {f:FuncId} {fn:Func} {c:Code} {args:List V} {h:ah} {K:V->ah->Prop} (aA:P.funcs[f]? =some fn) (aj:fn.body=some c)
 (gF:Nat.ble fn.ntmps top=true) (bc:Nat.beq f dy=false) (kc:Nat.ble args.length fn.ntmps=true) {rc:bD} {eJ:List p_} (wz:gJ P fn.ntmps c=rc) (sJ:nH P fn.ntmps fn.results.toList=eJ) (kA:rc.plain=true)
 (H:gO P rc (bA.a_ args) h fun e r ab=>e.ends/\∃ai,kt r ab eJ=some ai/\K (oneOf ai) ab):b8 P f args h K:=by
 refine ZM dE aM aA aj gF bc kc wz sJ H fun e r ab aL ⟨J,ai,ad,aC⟩=>⟨J,ab,?_,ai,ad,aC⟩;rw [aL kA];rfl
end
end
section
open Go Go.RowKit
variable [Lay]
theorem s3 (i j:Nat):(aD i=aD j)=(i=j):=by apply propext;exact ⟨lE,fun h=>by rw [h]⟩
theorem ajb (ai:List V):∀(i off:Nat) (x:V) (t:T V),i<off->T.put .bad x (aD i) (gz t off ai)=gz (T.put .bad x (aD i) t) off ai:=by
 induction ai with
 | nil=>intro i off x t _;rfl
 | cons v ai bC=>
   intro i off x t h;simp only [gz];rw [bC i (off+1) x _ (by omega),T.put_comm _ _ _ _ _ _ (fun e=>by rw [s3] at e;omega)]
def iw (ai:List V) (off:Nat) (ws:List V):List V:=ai.take off++ws++ai.drop (off+ws.length)
theorem TR:∀(ai:List V) (base i:Nat) (x:V) (t:T V),i<ai.length->T.put .bad x (aD (base+i)) (gz t base ai)=gz t base (ai.set i x)
 | [],_,i,_,_,h=>by simp at h
 | v::ai,base,i,x,t,h=>by
   cases i with
   | zero=>
     simp only [gz,ao7,List.set];rw [ajb ai base (base+1) x _ (by omega),T.TQ]
   | succ i=>
     simp only [gz,List.set];have:=TR ai (base+1) i x (T.put .bad v (aD base) t) (by simpa using h);rw [show base + (i+1)=base+1+i from by omega];exact this
theorem Uz (ai:List V) (off:Nat) (w:V) (ws:List V) (h:off<ai.length):iw (ai.set off w) (off+1) ws=iw ai off (w::ws):=by
 unfold iw;have J:(ai.set off w).take (off+1)=ai.take off++[w]:=by rw [List.take_succ_eq_append_getElem (by simpa using h)];simp [List.take_set_of_le]
 have ad:(ai.set off w).drop (off+1+ws.length)=ai.drop (off + (w::ws).length):=by rw [List.drop_set_of_lt (by omega)];congr 1;simp;omega
 rw [J,ad];simp
theorem pS (ai:List V) (off:Nat) (ws:List V) (h:off+ws.length<=ai.length):(iw ai off ws).length=ai.length:=by unfold iw;simp;omega
theorem FE:∀(ws ai:List V) (off:Nat),off+ws.length<=ai.length->gz (gz .e 0 ai) off ws=gz .e 0 (iw ai off ws)
 | [],ai,off,h=>by simp [gz,iw]
 | w::ws,ai,off,h=>by simp only [anz] at h;simp only [gz];have J:=TR ai 0 off w .e (by omega);rw [an8] at J;rw [J,FE ws (ai.set off w) (off+1) (by simp;omega),Uz ai off w ws (by omega)]
theorem A3 (ai:List V):∀(off i:Nat) (t:T V),T.get .bad (aD (off+i)) (gz t off ai)=if i<ai.length then (ai[i]?).getD .bad else T.get .bad (aD (off+i)) t:=by
 induction ai with
 | nil=>intro off i t;simp [gz]
 | cons v ai bC=>
   intro off i t;simp only [gz];cases i with
   | zero=>
     have:∀(ws:List V) (o:Nat) (s:T V),off<o->T.get .bad (aD off) (gz s o ws)=T.get .bad (aD off) s:=by
      intro ws
      induction ws with
      | nil=>intro o s _;rfl
      | cons w ws adQ=>
        intro o s a1;simp only [gz];rw [adQ (o+1) _ (by omega),T.iN,anE (fun e=>by rw [s3] at e;omega)]
     rw [ao7,this ai (off+1) _ (by omega),T.iN];simp
   | succ i=>
     have:=bC (off+1) i (T.put .bad v (aD off) t);rw [show off+1+i=off + (i+1) from by omega] at this;rw [this,T.iN];have eC:¬aD off=aD (off + (i+1)):=fun e=>by rw [s3] at e;omega
     rw [anE eC];simp
theorem Ec (ai:List V):∀(n i:Nat),i+n<=ai.length->ie (gz .e 0 ai) i n=(ai.drop i).take n
 | 0,i,h=>by simp [ie]
 | n+1,i,h=>by simp only [ie];have J:=A3 ai 0 i .e;rw [an8] at J;rw [J,anL (by omega),Ec ai n (i+1) (by omega)];have aZ:ai.drop i=ai[i]::ai.drop (i+1):=anZ (by omega);rw [aZ,aoL];simp [anv (by omega:i<ai.length)]
def cn.a_ (ai:List V) (cH:Nat) (st:Bool):cn:=.cells ai.length (gz .e 0 ai) cH st
def cn.ro (ai:List V):cn:=.view ai.length (gz .e 0 ai)
def nQ (h:ah) (b:aU) (ai:List V):Prop:=h.get b=.ro ai\/∃cH st,h.get b=.a_ ai cH st
def Own (h:ah) (b:aU) (ai:List V) (cH:Nat) (st:Bool):Prop:=h.get b=.a_ ai cH st
theorem nQ.pQ {α:Type} {h:ah} {b:aU} {ai:List V} (H:nQ h b ai) (d:α) (f:Nat->T V->α):(h.get b).pQ d f=f ai.length (gz .e 0 ai):=by rcases H with H | ⟨_,_,H⟩<;>rw [H]<;>rfl
theorem Own.lay {h:ah} {b:aU} {ai:List V} {cH:Nat} {st:Bool} (H:Own h b ai cH st) {off:Nat} {ws:List V} (a1:off+ws.length<=ai.length) (J:fi ws=true):
 lay h b off ws=some (h.set b (.a_ (iw ai off ws) cH st)):=by
 unfold bb.lay;rw [show h.get b=.cells ai.length (gz .e 0 ai) cH st from H];simp only [cn.on];rw [show Nat.ble (off+ws.length) ai.length=true from by rw [anS];exact a1,J];simp only [aoz,anC,ant,cn.a_];rw [pS ai off ws a1,FE ws ai off a1]
theorem Own.store {h:ah} {b:aU} {ai:List V} {cH:Nat} {st:Bool} (H:Own h b ai cH st) {off n:Nat} {y:V} (aX:y.cells.length=n) (a1:off+n<=ai.length) (J:fi y.cells=true):
 r0 n h (.ptr b off) y=some (h.set b (.a_ (iw ai off y.cells) cH st)):=by
 simp only [r0,V.j0];rw [show Nat.beq y.cells.length n=true from by rw [an6];exact aX];simp only [anC];exact H.lay (by rw [aX];exact a1) J
theorem SS {h:ah} {ai:List V} (aw:ai.length<=top):gU h ai=some (h.new (.a_ ai 0 false)):=by unfold gU;rw [show Nat.ble ai.length top=true from by rw [anS];exact aw];rfl
theorem wY {h:ah} {ai:List V} {cH:Nat} {st:Bool} (aw:ai.length<=top) (he:1<=cH):mf h ai cH st=some (h.new (.a_ ai cH st)):=by unfold mf;rw [show Nat.ble ai.length top=true from by rw [anS];exact aw,show Nat.ble 1 cH=true from by rw [anS];exact he];rfl
theorem gI (h:ah) (k:cn):(h.new k).next=h.next+1:=rfl
theorem o3 (h:ah) (b:aU) (k:cn):(h.set b k).next=h.next:=rfl
section
variable {P:Program} {r:bA} {h:ah}
theorem akc (r:bA) (d:Nat) (v:V) (t:Nat):bA.set r (some d) v t=if t=d then v else r t:=(rfl)
theorem akd (r:bA) (v:V):bA.set r none v=r:=(rfl)
theorem ak5 (r:bA) (u:Nat) (us:List Nat) (t:Nat):bA.trim r (u::us) t=if t=u then r t else bA.trim r us t:=(rfl)
theorem aia (v:V) (ai:List V):bA.a_ (v::ai) 0=v:=(rfl)
theorem aib (v:V) (ai:List V) (t:Nat):bA.a_ (v::ai) (t+1)=bA.a_ ai t:=by simp [bA.a_]
theorem aay (r:bA) (n:Nat):aW.aV r (.t n)=r n:=(rfl)
theorem aax (r:bA) (v:V):aW.aV r (.c v)=v:=(rfl)
theorem S2 {d:Option Nat} {g:G} {rs:List Nat} {K:bA->V->ah->Prop}:bs.wp P ⟨d,g,none,rs⟩ r h K=g.wp P (r.trim rs) h fun v ab=>K (r.set d v) v ab:=(rfl)
theorem S0 {d:Option Nat} {g:G} {j:Nat} {want:Bool} {rs:List Nat} {K:bA->V->ah->Prop}:bs.wp P ⟨d,g,some (j,want),rs⟩ r h K=
 gate (r.trim rs j) want (g.wp P (r.trim rs) h fun v ab=>K (r.set d v) v ab) (K (r.set d (.tuple [])) (.tuple []) h):=(rfl)
variable {K:V->ah->Prop}
theorem ph (k:IntKind):oS k k=true:=by cases k<;>rfl
theorem pE (a b:Int):Int.leB a b=decide (a<=b):=pF a b
theorem x4 (a b:Int):Int.g_ a b=decide (a=b):=by rw [nk];rfl
variable (k:IntKind) (a b:Int)
theorem aen:(dV.int .add).run P (.int k a) (.int k b)=some (.int k (k.wrap (a+b))):=by simp [dV.run,lr,pA,V.e0,ph]
theorem afq:(dV.int .sub).run P (.int k a) (.int k b)=some (.int k (k.wrap (a-b))):=by simp [dV.run,lr,pA,V.e0,ph]
theorem ae':(dV.int .mul).run P (.int k a) (.int k b)=some (.int k (k.wrap (a * b))):=by simp [dV.run,lr,pA,V.e0,ph]
theorem RT (aj:b≠0):(dV.int .quo).run P (.int k a) (.int k b)=some (.int k (k.wrap (a.tdiv b))):=by simp [dV.run,lr,wK,V.e0,ph,x4,aj]
theorem RU (aj:b≠0):(dV.int .rem).run P (.int k a) (.int k b)=some (.int k (a.tmod b)):=by simp [dV.run,lr,wK,V.e0,ph,x4,aj]
theorem aeJ:(dV.int .eql).run P (.int k a) (.int k b)=some (.bool (decide (a=b))):=by simp [dV.run,lr,oi,V.e0,ph,x4]
theorem afb:(dV.int .neq).run P (.int k a) (.int k b)=some (.bool (!decide (a=b))):=by simp [dV.run,lr,oi,V.e0,ph,x4]
theorem ae6:(dV.int .lss).run P (.int k a) (.int k b)=some (.bool (decide (a<b))):=by simp [dV.run,lr,oi,V.e0,ph,pE];rw [aon];simp
theorem ae3:(dV.int .leq).run P (.int k a) (.int k b)=some (.bool (decide (a<=b))):=by simp [dV.run,lr,oi,V.e0,ph,pE]
theorem aeR:(dV.int .gtr).run P (.int k a) (.int k b)=some (.bool (decide (b<a))):=by simp [dV.run,lr,oi,V.e0,ph,pE];rw [aon];simp
theorem aeQ:(dV.int .geq).run P (.int k a) (.int k b)=some (.bool (decide (b<=a))):=by simp [dV.run,lr,oi,V.e0,ph,pE]
theorem aep (x y:Bool):(dV.A0 false).run P (.bool x) (.bool y)=some (.bool (x == y)):=by simp [dV.run,j_,AY,ra]
theorem aet (x y:Bool):(dV.A0 true).run P (.bool x) (.bool y)=some (.bool (!(x == y))):=by simp [dV.run,j_,AY,ra]
theorem alg (x:Bool):r2 .not (.bool x)=some (.bool (!x)):=(rfl)
theorem alf:r2 .neg (.int k a)=some (.int k (k.wrap (0-a))):=(rfl)
theorem wrap_i64 {n:Int} (J:-9223372036854775808<=n) (ad:n<=9223372036854775807):IntKind.i64.wrap n=n:=by exact Go.IntWalk.i64_in n ⟨J,ad⟩
end
section
variable {P:Program} {r:bA} {h:ah} {Q:en->bA->ah->Prop}
theorem YX {ops:List bs}:gO P (.af ops) r h Q=ti P ops r h (Q .normal):=(rfl)
theorem YY {a b:bD}:gO P (.seq a b) r h Q=gO P a r h fun e bH ab=>e.andThen (gO P b bH ab Q) (Q e bH ab):=(rfl)
theorem akY {A B:Prop}:en.andThen .normal A B=A:=(rfl)
theorem akZ {A B:Prop}:en.andThen .ret A B=B:=(rfl)
theorem akW {A B:Prop} {i:Nat}:en.andThen (.exit i) A B=B:=(rfl)
theorem agX {id:Nat}:en.leave id .normal=.normal:=(rfl)
theorem agY {id:Nat}:en.leave id .ret=.ret:=(rfl)
theorem agW {id i:Nat}:en.leave id (.exit i)=if i=id then .normal else .exit i:=(rfl)
end
def xo {α:Type} (o:Option α) (k:α->Prop):Prop:=
 match o with
 | some v=>k v
 | none=>False
@[congr] theorem ang {α:Type} {o cp:Option α} {k:α->Prop} (h:o=cp):xo o k=xo cp k:=by rw [h]
def V.opt (c:Bool) (v:V):V:=bif c then v else .tuple []
theorem aiL (v:V):V.opt true v=v:=(rfl)
theorem aiI (v:V):V.opt false v=.tuple []:=(rfl)
@[congr] theorem am2 {c hY:Bool} {v c_:V} (h:c=hY) (bB:hY=true->v=c_):V.opt c v=V.opt hY c_:=by
 subst h;cases c with
 | true=>rw [bB rfl]
 | false=>rfl
def V.bif (t:Bool) (a b:V):V:=bif t then a else b
theorem alk (a b:V):V.bif true a b=a:=(rfl)
theorem alj (a b:V):V.bif false a b=b:=(rfl)
theorem W1 (t a b:Bool):V.bif t (.bool a) (.bool b)=.bool (bif t then a else b):=by cases t<;>rfl
theorem W2 (t:Bool) (k:IntKind) (a b:Int):V.bif t (.int k a) (.int k b)=.int k (if t=true then a else b):=by cases t<;>rfl
theorem W4 (t x:Bool):(bif t then true else x)=(t||x):=by cases t<;>rfl
theorem W0 (t x:Bool):(bif t then x else false)=(t&&x):=by cases t<;>rfl
@[congr] theorem al2 {t o7:Bool} {a bw b bV:V} (h:t=o7) (bF:o7=true->a=bw) (aj:o7=false->b=bV):V.bif t a b=V.bif o7 bw bV:=by
 subst h;cases t with
 | true=>rw [V.bif,V.bif,bF rfl];rfl
 | false=>rw [V.bif,V.bif,aj rfl];rfl
def fU (c:Bool) (A:Prop):Prop:=c=true->A
@[congr] theorem alZ {c hY:Bool} {A kJ:Prop} (h:c=hY) (bF:hY=true->A=kJ):fU c A=fU hY kJ:=by subst h;exact propext ⟨fun q e=>(bF e) ▸ q e,fun q e=>(bF e) ▸ q e⟩
theorem VL (c:Bool):fU c True=True:=propext ⟨fun _=>trivial,fun _ _=>trivial⟩
theorem VN (A:Prop):fU true A=A:=propext ⟨fun q=>q rfl,fun q _=>q⟩
theorem VM (A:Prop):fU false A=True:=propext ⟨fun _=>trivial,fun _ e=>by cases e⟩
def took (v:V) (want:Bool):Bool:=
 match v with
 | .bool b=>b == want
 | _=>false
theorem ak2 (b w:Bool):took (.bool b) w=(b == w):=(rfl)
theorem ak4 (ai:List V) (w:Bool):took (.tuple ai) w=false:=(rfl)
theorem ak3 (c:Bool) (v:V) (w:Bool):took (.opt c v) w=(c&&took v w):=by cases c<;>rfl
def gv (v:V):Prop:=
 match v with
 | .bool _=>True
 | .tuple _=>True
 | _=>False
theorem ad5 (b:Bool):gv (.bool b)=True:=(rfl)
theorem ad7 (ai:List V):gv (.tuple ai)=True:=(rfl)
theorem ad6 (c b:Bool):gv (.opt c (.bool b))=True:=by cases c<;>rfl
def G.pB:G->Bool
 | .bk _ | .pick .. | .build .. | .ep _ | .jM .. | .uE _ | .bin .. | .un .. | .fn .. | .uA .. | .Dx .. | .sN .. | .qS .. | .dZ .. | .gP .. | .vL .. | .vM .. | .dj .. | .t_ .. | .oj .. | .kB .. | .look .. | .ext .. | .zf _ | .eZ _ | .DJ _ | .E5 .. | .looks .. | .Cx .. | .gp .. =>true
 | .ia (.int _) _=>true
 | .len .map _=>false
 | .len _ _=>true
 | _=>false
def V.sZ {α:Type} (v:V) (d:α) (f:List V->α):α:=
 match v with
 | .agg cs=>f cs
 | _=>d
def V.Cp {α:Type} (v:V) (d:α) (f:List V->α):α:=
 match v with
 | .tuple cs=>f cs
 | _=>d
def Cz (c a b:V):Option V:=
 match c with
 | .bool t=>some (V.bif t a b)
 | _=>none
theorem ai1 (t:Bool) (a b:V):Cz (.bool t) a b=some (V.bif t a b):=(rfl)
def gN (n:Nat) (x:V) (bQ au m3:Option V):Option V:=
 match x with
 | .cr=>zD bQ au m3
 | .slice b off wQ cap=>rY n b off wQ cap bQ au m3
 | .et b off wQ idx=>s_ n b off wQ idx bQ au m3
 | .gV b off mi idx=>zE b off mi idx bQ au m3
 | _=>none
def AU (f:V) (xs:List V) (s:V):Option V:=
 match f with
 | .func g cs=>bif Nat.beq g dy then none else some (.tuple (.func g (xs++cs)::s.list))
 | _=>none
theorem Z5 {g:FuncId} {cs xs:List V} {s:V} (an:Nat.beq g dy=false):AU (.func g cs) xs s=some (.tuple (.func g (xs++cs)::s.list)):=by simp only [AU,an,anN]
def G.mU (P:Program) (g:G) (r:bA) (h:ah):Option V:=
 match g with
 | .bk x=>some (x.aV r)
 | .pick c a b=>Cz (c.aV r) (a.aV r) (b.aV r)
 | .build z bE=>(match jX z (k_ r bE) with
   | some cs=>some (.agg cs)
   | none=>none)
 | .ep x=>ou h (x.aV r)
 | .jM n x=>ot n h (x.aV r)
 | .uE x=>uD (x.aV r)
 | .bin k x y=>k.run P (x.aV r) (y.aV r)
 | .un op x=>r2 op (x.aV r)
 | .ia (.int k) x=>(x.aV r).e0 none fun _ n=>some (.int k (k.wrap n))
 | .fn f fe=>some (.func f (aW.fC r fe))
 | .uA f first=>some (.kW f (aW.fC r first))
 | .Dx t z ok x=>Ay t z ok (x.aV r)
 | .sN t x=>some (.iface t (x.aV r))
 | .qS x bQ au m3=>mV (x.aV r) (aW.opt r bQ) (aW.opt r au) (aW.opt r m3)
 | .dZ n x bQ au m3=>gN n (x.aV r) (aW.opt r bQ) (aW.opt r au) (aW.opt r m3)
 | .gP off x=>(x.aV r).j0 none fun b o=>some (.ptr b (o+off))
 | .vL off x=>(x.aV r).sZ none fun cs=>cs[off]?
 | .vM off n x=>(x.aV r).sZ none fun cs=>some (.agg ((cs.drop off).take n))
 | .dj n x i=>(wI n).run (x.aV r) (i.aV r)
 | .t_ n s x i=>(sP n s).run (x.aV r) (i.aV r)
 | .oj x i=>sR.run (x.aV r) (i.aV r)
 | .kB t x i=>(sQ P t).run (x.aV r) (i.aV r)
 | .look k z ok x i=>kD k.eq z ok h (x.aV r) (i.aV r)
 | .ext x i=>(x.aV r).Cp none fun ai=>ai[i]?
 | .len (.arr n) _=>some (.int .i64 n)
 | .len .str x=>(pH .string).run (x.aV r)
 | .len .slice x=>(pH (.slice 0)).run (x.aV r)
 | .zf args=>lF (fun b a=>!Int.leB a b) (aW.fC r args)
 | .eZ args=>lF (fun b a=>!Int.leB b a) (aW.fC r args)
 | .DJ x=>AN (x.aV r)
 | .E5 z ok x i=>nF ⟨ml h⟩ z ok h (x.aV r) (i.aV r)
 | .looks k z ok x i=>bif rK P k (i.aV r) then nF (structEq P k) z ok h (x.aV r) (i.aV r) else none
 | .Cx neg x y=>KL neg h (x.aV r) (y.aV r)
 | .gp f args=>AU (f.aV r) (aW.fC r args) (r ej)
 | _=>none
section
variable {P:Program} {r:bA} {h:ah}
theorem pure_run {g:G} (ak:g.pB=true) (call:eA):g.run P call r h=a8.of h (g.mU P r h):=by
 cases g<;>simp only [G.pB] at ak<;>try (cases ak;done)
 all_goals simp only [G.run,G.mU]
 case bk x=>rfl
 case pick c a b=>
  generalize c.aV r=q;cases q<;>rfl
 case build z bE=>
  generalize jX z (k_ r bE)=q;cases q<;>rfl
 case ia k x=>
  cases k<;>simp only at ak<;>try (cases ak;done)
  simp only [tk.run];generalize x.aV r=q;cases q<;>rfl
 case fn f fe=>rfl
 case uA f first=>rfl
 case sN t x=>rfl
 case dZ n x bQ au m3=>
  unfold gN;generalize x.aV r=q;cases q<;>rfl
 case vL off x=>
  generalize x.aV r=q;cases q<;>rfl
 case vM off n x=>
  generalize x.aV r=q;cases q<;>rfl
 case ext x i=>
  generalize x.aV r=q;cases q<;>rfl
 case len k x=>
  cases k<;>simp only at ak<;>first | rfl | (cases ak;done)
 case gp f args=>
  unfold AU;generalize f.aV r=q;cases q<;>try rfl
  rename_i g cs;simp only;cases Nat.beq g dy<;>rfl
theorem P_ {g:G} (ak:g.pB=true) {K:V->ah->Prop}:g.wp P r h K=xo (g.mU P r h) fun v=>K v h:=by
 have e:g.wp P r h K=∃v ab,g.run P mh r h=.val v ab/\K v ab:=by cases g<;>first | rfl | (simp [G.pB] at ak;done)
 rw [e,pure_run ak];apply propext;cases bB:g.mU P r h with
 | none=>exact ⟨fun ⟨v,ab,q,_⟩=>(by cases q),fun q=>q.elim⟩
 | some v=>
   constructor
   . rintro ⟨v1,J,q,k⟩;simp only [a8.of,a8.val.injEq] at q;obtain ⟨rfl,rfl⟩:=q;exact k
   . intro k;exact ⟨v,h,rfl,k⟩
theorem S3 {d:Option Nat} {g:G} {rs:List Nat} {K:bA->V->ah->Prop} (ak:g.pB=true):bs.wp P ⟨d,g,none,rs⟩ r h K=xo (g.mU P (r.trim rs) h) fun v=>K (r.set d v) v h:=by rw [S2,P_ ak]
theorem S1 {d:Option Nat} {g:G} {j:Nat} {want:Bool} {rs:List Nat} {K:bA->V->ah->Prop} (ak:g.pB=true):bs.wp P ⟨d,g,some (j,want),rs⟩ r h K=
 (gv (r.trim rs j)/\fU (took (r.trim rs j) want) ((g.mU P (r.trim rs) h).isSome=true)/\
   K (r.set d (V.opt (took (r.trim rs j) want) ((g.mU P (r.trim rs) h).getD .bad))) (V.opt (took (r.trim rs j) want) ((g.mU P (r.trim rs) h).getD .bad)) h):=by
 rw [S0,P_ ak];generalize r.trim rs j=q;generalize g.mU P (r.trim rs) h=o;apply propext;cases q<;>simp only [gate,gv,took,apK,api]
 case bool b=>
  cases b<;>cases want<;>cases o<;>simp [xo,fU,V.opt]
 case tuple ai=>simp [fU,V.opt]
@[congr] theorem ank {os:List bs} {r bH:bA} {h ab:ah} {K:bA->ah->Prop} (al:r=bH) (aN:h=ab):ti P os r h K=ti P os bH ab K:=by rw [al,aN]
@[congr] theorem ani {os:List bs} {r bH:bA} {h ab:ah} {K:List gZ->bA->ah->Prop} (al:r=bH) (aN:h=ab):mu P os r h K=mu P os bH ab K:=by rw [al,aN]
@[congr] theorem alX {o:bs} {r bH:bA} {h ab:ah} {K:bA->V->ah->Prop} (al:r=bH) (aN:h=ab):o.wp P r h K=o.wp P bH ab K:=by rw [al,aN]
@[congr] theorem alY {g:G} {r bH:bA} {h ab:ah} {K:V->ah->Prop} (al:r=bH) (aN:h=ab):g.wp P r h K=g.wp P bH ab K:=by rw [al,aN]
@[congr] theorem anh {c:bD} {r bH:bA} {h ab:ah} {Q:en->bA->ah->Prop} (al:r=bH) (aN:h=ab):gO P c r h Q=gO P c bH ab Q:=by rw [al,aN]
@[congr] theorem alW {f:FuncId} {a bw:List V} {h ab:ah} {K:V->ah->Prop} (al:a=bw) (aN:h=ab):b8 P f a h K=b8 P f bw ab K:=by rw [al,aN]
def jL (k:cn) (off:Nat):Option V:=k.pQ none fun n cs=>bif Nat.blt off n then some (T.get .bad (aD off) cs) else none
def o0 (n:Nat) (k:cn) (off:Nat):Option V:=k.pQ none fun m cs=>bif Nat.ble (off+n) m then some (.agg (ie cs off n)) else none
theorem ahg (b:aU) (off:Nat):ou h (.ptr b off)=jL (h.get b) off:=(rfl)
theorem ahi (n:Nat) (b:aU) (off:Nat):ot n h (.ptr b off)=o0 n (h.get b) off:=(rfl)
theorem Sc {ai:List V} {off:Nat}:(bif Nat.blt off ai.length then some (T.get .bad (aD off) (gz .e 0 ai)) else none)=ai[off]? :=by
 have:=A3 ai 0 off .e;rw [an8] at this;rw [this];by_cases a1:off<ai.length
 . rw [show Nat.blt off ai.length=true from by rw [aoa];exact a1,anL a1];simp [anv a1]
 . rw [show Nat.blt off ai.length=false from by rw [<-aof,aoa];exact a1];rw [an3 (by omega)];rfl
theorem Sa (ai:List V) (cH:Nat) (st:Bool) (off:Nat):jL (.a_ ai cH st) off=ai[off]? :=Sc
theorem Sb (ai:List V) (off:Nat):jL (.ro ai) off=ai[off]? :=Sc
theorem Sg {ai:List V} {off n:Nat}:(bif Nat.ble (off+n) ai.length then some (V.agg (ie (gz .e 0 ai) off n)) else none)=if off+n<=ai.length then some (.agg ((ai.drop off).take n)) else none:=by
 by_cases a1:off+n<=ai.length
 . rw [show Nat.ble (off+n) ai.length=true from by rw [anS];exact a1,anL a1,Ec ai n off a1];rfl
 . rw [show Nat.ble (off+n) ai.length=false from by rw [<-aof,anS];exact a1,anE a1];rfl
theorem Se (n:Nat) (ai:List V) (cH:Nat) (st:Bool) (off:Nat):o0 n (.a_ ai cH st) off=if off+n<=ai.length then some (.agg ((ai.drop off).take n)) else none:=Sg
theorem Sf (n:Nat) (ai:List V) (off:Nat):o0 n (.ro ai) off=if off+n<=ai.length then some (.agg ((ai.drop off).take n)) else none:=Sg
theorem nQ.ep {b:aU} {ai:List V} (H:nQ h b ai) (off:Nat):jL (h.get b) off=ai[off]? :=by
 rcases H with H | ⟨_,_,H⟩<;>rw [H]
 . exact Sb ai off
 . exact Sa ai _ _ off
theorem nQ.jM {b:aU} {ai:List V} (H:nQ h b ai) (n off:Nat):o0 n (h.get b) off=if off+n<=ai.length then some (.agg ((ai.drop off).take n)) else none:=by
 rcases H with H | ⟨_,_,H⟩<;>rw [H]
 . exact Sf n ai off
 . exact Se n ai _ _ off
def over:List V->List V->List V
 | ai,[]=>ai
 | [],_::_=>[]
 | _::ai,w::ws=>w::over ai ws
def pR:List V->Nat->List V->List V
 | ai,0,ws=>over ai ws
 | [],_+1,_=>[]
 | v::ai,n+1,ws=>v::pR ai n ws
theorem Tn:∀(ai ws:List V),ws.length<=ai.length->over ai ws=ws++ai.drop ws.length
 | ai,[],_=>by cases ai<;>rfl
 | [],_::_,h=>by simp at h
 | v::ai,w::ws,h=>by simp only [over,anO,anz,aoM];rw [Tn ai ws (by simpa using h)]
theorem F9:∀(ai:List V) (off:Nat) (ws:List V),off+ws.length<=ai.length->pR ai off ws=iw ai off ws
 | ai,0,ws,h=>by cases ai<;>simp only [pR,iw,List.take_zero,anP,an8]<;>exact Tn _ ws (by omega)
 | [],n+1,ws,h=>by simp at h
 | v::ai,n+1,ws,h=>by simp only [anz] at h;simp only [pR,iw];rw [F9 ai n ws (by omega)];simp only [iw,aoL,anO];rw [show n+1+ws.length=n+ws.length+1 from by omega,aoM]
theorem akt (ai:List V) (off:Nat) (ws:List V) (h:off+ws.length<=ai.length):(pR ai off ws).length=ai.length:=by rw [F9 ai off ws h,pS ai off ws h]
def B1 (n:Nat) (h:ah) (b:aU) (off:Nat) (y:V) (k:cn):Option ah:=
 bif Nat.beq y.cells.length n then k.on none fun m cs cH st=>
  bif Nat.ble (off+y.cells.length) m&&fi y.cells then some (h.set b (.cells m (gz cs off y.cells) cH st)) else none else none
theorem akB (n:Nat) (b:aU) (off:Nat) (y:V):r0 n h (.ptr b off) y=B1 n h b off y (h.get b):=(rfl)
theorem agI {n:Nat} {b:aU} {off:Nat} {y:V} {ai:List V} {cH:Nat} {st:Bool} (J:y.cells.length=n) (ad:fi y.cells=true) (aC:off+n<=ai.length):
 B1 n h b off y (.a_ ai cH st)=some (h.set b (.a_ (pR ai off y.cells) cH st)):=by
 unfold B1;rw [show Nat.beq y.cells.length n=true from by rw [an6];exact J];simp only [anC,cn.a_,cn.on];rw [show Nat.ble (off+y.cells.length) ai.length=true from by rw [anS,J];exact aC,ad];simp only [aoz,anC,ant];rw [akt ai off _ (by rw [J];exact aC),F9 ai off _ (by rw [J];exact aC),FE _ ai off (by rw [J];exact aC)]
theorem jD (k:cn):(h.new k).get (aD h.next)=k:=by rw [ah.jC,anL rfl]
theorem jC (b:aU) (k:cn):(h.new k).get b=if aD h.next=b then k else h.get b:=ah.jC h b k
theorem fh (b bV:aU) (k:cn):(h.set b k).get bV=if b=bV then k else h.get bV:=ah.fh h b bV k
def Old (h:ah) (b:aU):Prop:=cY b<h.next
theorem uI:∀b:aU,aD (cY b)=b:=by
 have key:∀(b:aU) (d:Nat),cY b+1<2 ^ d->uH d (cY b)=b:=by
  intro b
  induction b with
  | z=>intro d aZ;cases d<;>rfl
  | l p bC=>
    intro d aZ;cases d with
    | zero=>simp [cY] at aZ
    | succ d=>
      have ad:2 ^ (d+1)=2 * 2 ^ d:=by rw [Nat.pow_succ];omega
      rw [ad] at aZ;simp only [cY] at aZ ⊢;simp only [uH,h_];rw [anE (by omega),anL (by omega),show (2 * cY p+1) / 2=cY p from by omega,bC d (by omega)]
  | r p bC=>
    intro d aZ;cases d with
    | zero=>simp [cY] at aZ
    | succ d=>
      have ad:2 ^ (d+1)=2 * 2 ^ d:=by rw [Nat.pow_succ];omega
      rw [ad] at aZ;simp only [cY] at aZ ⊢;simp only [uH,h_];rw [anE (by omega),anE (by omega),show (2 * cY p+2) / 2-1=cY p from by omega,bC d (by omega)]
 intro b;exact key b _ Nat.lt_log2_self
theorem Kr {b:aU} {i:Nat} (aj:Old h b) (au:h.next<=i):(aD i=b)=False:=by
 apply propext;constructor
 . intro e;unfold Old at aj;rw [<-e,ee] at aj;omega
 . exact False.elim
theorem S_ {k:cn}:Old (h.new k) (aD h.next):=by unfold Old;rw [ee];exact apC _
def D2 (off:Nat) (x:V):Option V:=x.j0 none fun b o=>some (.ptr b (o+off))
theorem aaF (off:Nat) (b:aU) (o:Nat):D2 off (.ptr b o)=some (.ptr b (o+off)):=(rfl)
theorem aik {α:Type} (ai:List V) (d:α) (f:List V->α):V.Cp (.tuple ai) d f=f ai:=(rfl)
theorem aij {α:Type} (ai:List V) (d:α) (f:List V->α):V.sZ (.agg ai) d f=f ai:=(rfl)
def mb (x:V):Option V:=(pH (.slice 0)).run x
theorem ag3 (b:aU) (off n c:Nat):mb (.slice b off n c)=some (.int .i64 n):=(rfl)
theorem ag1 (b:aU) (off n c:Nat):mb (.et b off n c)=some (.int .i64 n):=(rfl)
theorem ag4 (b:aU) (off n c:Nat):mb (.gV b off n c)=some (.int .i64 0):=(rfl)
theorem ag2:mb .cr=some (.int .i64 0):=(rfl)
def EY (x:V):Option V:=(pH .string).run x
theorem ag5 (s:List UInt8):EY (.str s)=some (.int .i64 s.length):=(rfl)
def iD (n:Nat) (x i:V):Option V:=(wI n).run x i
theorem Jx (n:Nat) (b:aU) (off len cap:Nat) (k:IntKind) (i:Int):iD n (.slice b off len cap) (.int k i)=if 0<=i/\i<len then some (.ptr b (off+i.toNat * n)) else none:=by simp only [iD,wI,V.e0,uc,pE];by_cases J:0<=i<;>by_cases ad:(len:Int)<=i<;>simp [J,ad]<;>omega
theorem Jw (n:Nat) (b:aU) (off len cap:Nat) (k:IntKind) (i:Int):iD n (.et b off len cap) (.int k i)=if 0<=i/\i<len then some (.ptr b (off+i.toNat * n)) else none:=by simp only [iD,wI,V.e0,uc,pE];by_cases J:0<=i<;>by_cases ad:(len:Int)<=i<;>simp [J,ad]<;>omega
def DQ (k:IntKind) (x:V):Option V:=x.e0 none fun _ n=>some (.int k (k.wrap n))
theorem ZS (k bu:IntKind) (n:Int):DQ k (.int bu n)=some (.int k (k.wrap n)):=(rfl)
end
structure jv where
 all:List bs
 asks:List (Nat × List Nat)
 es:List gZ
def jq (D:Option jv) (r:bA) (h:ah) (v:V):Option jv:=
 match D with
 | none=>none
 | some d=>some ⟨d.all,d.asks,d.es++[⟨r,h,v⟩]⟩
inductive iL where
 | os (D:Option jv) (os:List bs)
 | c (b:bD)
 | bh (id:Nat)
section
variable (P:Program)
def vp (D:Option jv) (es:List gZ) (aA:ah):Prop:=
 match D with
 | none=>True
 | some d=>qa P d.all (d.es++es) aA d.asks
def bG:List iL->en->bA->ah->(en->bA->ah->Prop)->Prop
 | [],e,r,h,Q=>Q e r h
 | .os D os::aR,e,r,h,Q=>match e with
   | .normal=>mu P os r h fun es bH ab=>vp P D es ab/\bG aR .normal bH ab Q
   | e=>bG aR e r h Q
 | .c b::aR,e,r,h,Q=>match e with
   | .normal=>gO P b r h fun e bH ab=>bG aR e bH ab Q
   | e=>bG aR e r h Q
 | .bh id::aR,e,r,h,Q=>bG aR (e.leave id) r h Q
def d' (o:Option V) (d:Option Nat) (D:Option jv) (os:List bs) (aR:List iL) (r:bA) (h:ah) (Q:en->bA->ah->Prop):Prop:=
 xo o fun v=>bG P (.os (jq D r h v) os::aR) .normal (r.set d v) h Q
def kI (o:a8) (d:Option Nat) (D:Option jv) (os:List bs) (aR:List iL) (r:bA) (a6:ah) (Q:en->bA->ah->Prop):Prop:=
 match o with
 | .val v h=>bG P (.os (jq D r a6 v) os::aR) .normal (r.set d v) h Q
 | _=>False
def ha (v:V) (want:Bool) (d:Option Nat) (g:G) (rs:List Nat) (D:Option jv) (os:List bs) (aR:List iL) (r:bA) (h:ah) (Q:en->bA->ah->Prop):Prop:=
 gate v want (bG P (.os D (⟨d,g,none,rs⟩::os)::aR) .normal r h Q) (bG P (.os (jq D r h (.tuple [])) os::aR) .normal (r.set d (.tuple [])) h Q)
def xZ (v:V) (a b:bD) (aR:List iL) (r:bA) (h:ah) (Q:en->bA->ah->Prop):Prop:=
 match v with
 | .bool t=>(t=true->bG P (.c a::aR) .normal r h Q)/\(t=false->bG P (.c b::aR) .normal r h Q)
 | _=>False
def nW (f:FuncId) (args:List V) (d:Option Nat) (D:Option jv) (os:List bs) (aR:List iL) (r:bA) (h:ah) (Q:en->bA->ah->Prop):Prop:=
 b8 P f args h fun v ab=>bG P (.os (jq D r h v) os::aR) .normal (r.set d v) ab Q
def Gl (xs:List V) (d:Option Nat) (D:Option jv) (os:List bs) (aR:List iL) (r:bA) (h:ah) (Q:en->bA->ah->Prop):Prop:=
 L5 P xs h fun v ab=>bG P (.os (jq D r h v) os::aR) .normal (r.set d v) ab Q
def Hy (g:FuncId) (xs:List V) (d:Option Nat) (D:Option jv) (os:List bs) (aR:List iL) (r:bA) (h:ah) (Q:en->bA->ah->Prop):Prop:=
 if g=4294967296 then Gl P xs d D os aR r h Q else nW P g xs d D os aR r h Q
def vx (f:V) (args:List V) (d:Option Nat) (D:Option jv) (os:List bs) (aR:List iL) (r:bA) (h:ah) (Q:en->bA->ah->Prop):Prop:=
 ∃g xs,f.target args=some (g,xs)/\Hy P g xs d D os aR r h Q
def E7 (b:bD) (aR:List iL) (r:bA) (h:ah) (Q:en->bA->ah->Prop):Prop:=gO P (.loop b) r h fun e bH ab=>bG P aR e bH ab Q
end
section
variable {P:Program} {r:bA} {h:ah} {Q:en->bA->ah->Prop} {aR:List iL} {os:List bs} {D:Option jv}
theorem ai9 (r:bA) (h:ah) (v:V):jq none r h v=none:=(rfl)
theorem ai' (all:List bs) (asks:List (Nat × List Nat)) (es:List gZ) (r:bA) (h:ah) (v:V):jq (some ⟨all,asks,es⟩) r h v=some ⟨all,asks,es++[⟨r,h,v⟩]⟩:=(rfl)
theorem ck {c:bD} (H:bG P [.c c] .normal r h Q):gO P c r h Q:=H
theorem afd {e:en}:bG P [] e r h Q=Q e r h:=(rfl)
theorem aer {e:en} {id:Nat}:bG P (.bh id::aR) e r h Q=bG P aR (e.leave id) r h Q:=(rfl)
theorem afl {a b:bD}:bG P (.c (.seq a b)::aR) .normal r h Q=bG P (.c a::.c b::aR) .normal r h Q:=by simp only [bG];rw [YY];congr 1;funext e bH ab;cases e<;>rfl
theorem aes {id:Nat} {b:bD}:bG P (.c (.block id b)::aR) .normal r h Q=bG P (.c b::.bh id::aR) .normal r h Q:=(rfl)
theorem Vm:∀(os:List bs) (r:bA) (h:ah) (K:bA->ah->Prop),mu P os r h (fun _ r h=>K r h)=ti P os r h K
 | [],_,_,_=>rfl
 | o::os,r,h,K=>by simp only [mu,ti];congr 1;funext bH v ab;exact Vm os bH ab K
theorem afi {ops:List bs}:bG P (.c (.af ops)::aR) .normal r h Q=bG P (.os none ops::aR) .normal r h Q:=by simp only [bG,vp,api];rw [Vm,YX]
theorem afm:bG P (.c .skip::aR) .normal r h Q=bG P aR .normal r h Q:=(rfl)
theorem afj:bG P (.c .ret::aR) .normal r h Q=bG P aR .ret r h Q:=(rfl)
theorem aeK {i:Nat}:bG P (.c (.exit i)::aR) .normal r h Q=bG P aR (.exit i) r h Q:=(rfl)
theorem aeB {b:bD}:bG P (.c b::aR) .ret r h Q=bG P aR .ret r h Q:=(rfl)
theorem aey {b:bD} {i:Nat}:bG P (.c b::aR) (.exit i) r h Q=bG P aR (.exit i) r h Q:=(rfl)
theorem aez {c:aW} {a b:bD}:bG P (.c (.cond c a b)::aR) .normal r h Q=xZ P (c.aV r) a b aR r h Q:=by simp only [bG,gO];cases c.aV r<;>rfl
theorem ae5 {b:bD}:bG P (.c (.loop b)::aR) .normal r h Q=E7 P b aR r h Q:=(rfl)
theorem aeI {ops:List bs} {asks:List (Nat × List Nat)}:bG P (.c (.draw ops asks)::aR) .normal r h Q=bG P (.os (some ⟨ops,asks,[]⟩) ops::aR) .normal r h Q:=(rfl)
theorem afg:bG P (.os none []::aR) .normal r h Q=bG P aR .normal r h Q:=by simp only [bG,mu,vp,api]
theorem aeH {all:List bs} {asks:List (Nat × List Nat)} {es:List gZ}:bG P (.os (some ⟨all,asks,es⟩) []::aR) .normal r h Q=(qa P all es h asks/\bG P aR .normal r h Q):=by simp only [bG,mu,vp,an_]
theorem xU (D:Option jv) (r:bA) (h:ah) (v:V) (es:List gZ) (aA:ah):vp P (jq D r h v) es aA=vp P D (⟨r,h,v⟩::es) aA:=by
 cases D with
 | none=>rfl
 | some d=>simp only [jq,vp,anG,anO,anP]
theorem hT {d:Option Nat} {g:G} {rs:List Nat} (ak:g.pB=true):bG P (.os D (⟨d,g,none,rs⟩::os)::aR) .normal r h Q=d' P (g.mU P (r.trim rs) h) d D os aR r h Q:=by simp only [bG,mu,d'];rw [S3 ak];simp only [xU]
theorem im {d:Option Nat} {g:G} {j:Nat} {want:Bool} {rs:List Nat} (ak:g.pB=true):bG P (.os D (⟨d,g,some (j,want),rs⟩::os)::aR) .normal r h Q=
 (gv (r.trim rs j)/\fU (took (r.trim rs j) want) ((g.mU P (r.trim rs) h).isSome=true)/\
   d' P (some (V.opt (took (r.trim rs j) want) ((g.mU P (r.trim rs) h).getD .bad))) d D os aR r h Q):=by
 simp only [bG,mu,d',xo];rw [S1 ak];simp only [xU]
def G.RI:G->Bool
 | .call .. | .qc .. =>true
 | _=>false
theorem nC {d:Option Nat} {g:G} {rs:List Nat} (ak:g.pB=false) (ao:g.RI=false):bG P (.os D (⟨d,g,none,rs⟩::os)::aR) .normal r h Q=kI P (g.run P mh (r.trim rs) h) d D os aR r h Q:=by
 simp only [bG,mu];rw [S2];have e:∀K:V->ah->Prop,g.wp P (r.trim rs) h K=∃v ab,g.run P mh (r.trim rs) h=.val v ab/\K v ab:=by intro K;cases g<;>first | rfl | (simp [G.RI] at ao;done)
 rw [e];unfold kI;simp only [bG,xU];cases g.run P mh (r.trim rs) h with
 | fail=>exact propext ⟨fun ⟨v,ab,q,_⟩=>(by cases q),fun q=>q.elim⟩
 | c1 v1 J=>exact propext ⟨fun ⟨v,ab,q,_⟩=>(by cases q),fun q=>q.elim⟩
 | val v1 J=>
   apply propext;constructor
   . rintro ⟨v,ab,q,k⟩;simp only [a8.val.injEq] at q;obtain ⟨rfl,rfl⟩:=q;exact k
   . intro k;exact ⟨_,_,rfl,k⟩
theorem l' {d:Option Nat} {g:G} {j:Nat} {want:Bool} {rs:List Nat} (ak:g.pB=false):bG P (.os D (⟨d,g,some (j,want),rs⟩::os)::aR) .normal r h Q=ha P (r.trim rs j) want d g rs D os aR r h Q:=by simp only [ha,bG,mu,xU];rw [S0];rfl
theorem RR {d:Option Nat} {f:FuncId} {args:List aW} {rs:List Nat}:bG P (.os D (⟨d,.call f args,none,rs⟩::os)::aR) .normal r h Q=nW P f (aW.fC (r.trim rs) args) d D os aR r h Q:=by simp only [nW,bG,mu,xU];rfl
theorem aex {d:Option Nat} {f:aW} {args:List aW} {rs:List Nat}:bG P (.os D (⟨d,.qc f args,none,rs⟩::os)::aR) .normal r h Q=vx P (f.aV (r.trim rs)) (aW.fC (r.trim rs) args) d D os aR r h Q:=by simp only [vx,Hy,Gl,nW,bG,mu,xU];rfl
theorem OP {f:V} {g:FuncId} {xs args:List V} {d:Option Nat} (aA:f.target args=some (g,xs)):vx P f args d D os aR r h Q=Hy P g xs d D os aR r h Q:=by
 apply propext;constructor
 . rintro ⟨tH,ann,q,k⟩;rw [aA] at q;simp only [ant,aoS] at q;obtain ⟨rfl,rfl⟩:=q;exact k
 . intro k;exact ⟨_,_,aA,k⟩
theorem Y5 {g:FuncId} {cs args:List V} {d:Option Nat}:vx P (.func g cs) args d D os aR r h Q=if g=4294967296 then Gl P (args++cs) d D os aR r h Q else nW P g (args++cs) d D os aR r h Q:=OP rfl
theorem Hz {g:FuncId} {cs args:List V} {d:Option Nat}:vx P (.kW g cs) args d D os aR r h Q=if g=4294967296 then Gl P (cs++args) d D os aR r h Q else nW P g (cs++args) d D os aR r h Q:=OP rfl
@[congr] theorem am_ {o cp:Option V} {d:Option Nat} (e:o=cp):d' P o d D os aR r h Q=d' P cp d D os aR r h Q:=by rw [e]
@[congr] theorem am' {o cp:a8} {d:Option Nat} (e:o=cp):kI P o d D os aR r h Q=kI P cp d D os aR r h Q:=by rw [e]
@[congr] theorem al8 {v c_:V} {a b:bD} (e:v=c_):xZ P v a b aR r h Q=xZ P c_ a b aR r h Q:=by rw [e]
@[congr] theorem amh {v c_:V} {want:Bool} {d:Option Nat} {g:G} {rs:List Nat} (e:v=c_):ha P v want d g rs D os aR r h Q=ha P c_ want d g rs D os aR r h Q:=by rw [e]
@[congr] theorem al6 {f HU:V} {args Av:List V} {d:Option Nat} (al:f=HU) (aN:args=Av):vx P f args d D os aR r h Q=vx P HU Av d D os aR r h Q:=by rw [al,aN]
@[congr] theorem al5 {f:FuncId} {args Av:List V} {d:Option Nat} (aN:args=Av):nW P f args d D os aR r h Q=nW P f Av d D os aR r h Q:=by rw [aN]
@[congr] theorem anj {e dL:en} {bH:bA} {ab:ah} (dI:e=dL) (al:r=bH) (aN:h=ab):bG P aR e r h Q=bG P aR dL bH ab Q:=by rw [dI,al,aN]
@[congr] theorem amL {b:bD} {bH:bA} {ab:ah} (al:r=bH) (aN:h=ab):E7 P b aR r h Q=E7 P b aR bH ab Q:=by rw [al,aN]
theorem akG {v:V} {d:Option Nat}:d' P (some v) d D os aR r h Q=bG P (.os (jq D r h v) os::aR) .normal (r.set d v) h Q:=(rfl)
theorem aks {v:V} {ab:ah} {d:Option Nat}:kI P (.val v ab) d D os aR r h Q=bG P (.os (jq D r h v) os::aR) .normal (r.set d v) ab Q:=(rfl)
theorem OY {t:Bool} {a b:bD}:xZ P (.bool t) a b aR r h Q=((t=true->bG P (.c a::aR) .normal r h Q)/\(t=false->bG P (.c b::aR) .normal r h Q)):=(rfl)
theorem Qb {b:Bool} {d:Option Nat} {g:G} {rs:List Nat}:ha P (.bool b) true d g rs D os aR r h Q=((b=true->bG P (.os D (⟨d,g,none,rs⟩::os)::aR) .normal r h Q)/\(b=false->bG P (.os (jq D r h (.tuple [])) os::aR) .normal (r.set d (.tuple [])) h Q)):=(rfl)
theorem Qa {b:Bool} {d:Option Nat} {g:G} {rs:List Nat}:ha P (.bool b) false d g rs D os aR r h Q=((b=false->bG P (.os D (⟨d,g,none,rs⟩::os)::aR) .normal r h Q)/\(b=true->bG P (.os (jq D r h (.tuple [])) os::aR) .normal (r.set d (.tuple [])) h Q)):=(rfl)
theorem abc {ai:List V} {want:Bool} {d:Option Nat} {g:G} {rs:List Nat}:ha P (.tuple ai) want d g rs D os aR r h Q=bG P (.os (jq D r h (.tuple [])) os::aR) .normal (r.set d (.tuple [])) h Q:=(rfl)
theorem aa8 {c b:Bool} {want:Bool} {d:Option Nat} {f:FuncId} {args:List aW} {rs:List Nat} (v:V)
 (bB:(c&&(b == want))=true->ff P f (aW.fC (r.trim rs) args) h v h)
 (H:bG P (.os (jq D r h (V.opt (c&&(b == want)) v)) os::aR) .normal (r.set d (V.opt (c&&(b == want)) v)) h Q):ha P (V.opt c (.bool b)) want d (.call f args) rs D os aR r h Q:=by
 unfold ha;rw [RR];cases c with
 | false=>exact H
 | true=>
   simp only [V.opt,anC,aoC] at bB H ⊢;cases b<;>cases want<;>simp only [gate]
   . exact ⟨fun _=>⟨v,h,bB rfl,H⟩,fun e=>by cases e⟩
   . exact ⟨fun e=>(by cases e),fun _=>H⟩
   . exact ⟨fun e=>(by cases e),fun _=>H⟩
   . exact ⟨fun _=>⟨v,h,bB rfl,H⟩,fun e=>by cases e⟩
def uG (v:V) (o:Option ah):a8:=hF v o
theorem aiM (v:V) (ab:ah):uG v (some ab)=.val v ab:=(rfl)
def Mx (b:Bool) (o:a8):a8:=bif b then o else .fail
theorem Xa (o:a8):Mx true o=o:=(rfl)
def DC (n:Nat) (h:ah) (o:Option (List V)):a8:=
 match o with
 | some cs=>uG (.slice (aD h.next) 0 n n) (gU h cs)
 | none=>.fail
theorem Xb (n:Nat) (cs:List V):DC n h (some cs)=uG (.slice (aD h.next) 0 n n) (gU h cs):=(rfl)
theorem aj3 {n size:Nat} {z:List V} {bE:List (Nat × Nat × aW)}:(G.e4 n size z bE).run P mh r h=DC n h (jX (jr z n) (k_ r bE)):=by
 simp only [G.run];cases jX (jr z n) (k_ r bE) with
 | none=>rfl
 | some cs=>
   simp only [DC,uG,hF];cases gU h cs<;>rfl
theorem aaK (cells:List V):jX cells []=some cells:=(rfl)
theorem aaI {cells:List V} {off size:Nat} {v:V} {rest:List (Nat × Nat × V)} (J:v.fR=true) (ad:v.cells.length=size) (aC:off+size<=cells.length):
 jX cells ((off,size,v)::rest)=jX (pR cells off v.cells) rest:=by
 simp only [jX];rw [J,show Nat.beq v.cells.length size=true from by rw [an6];exact ad,show Nat.ble (off+v.cells.length) cells.length=true from by rw [anS,ad];exact aC];simp only [aoz,anC];congr 1;have gP:∀(ws cs:List V) (o:Nat),o+ws.length<=cs.length->so cs o ws=iw cs o ws:=by
  intro ws
  induction ws with
  | nil=>intro cs o _;simp [so,iw]
  | cons w ws bC=>
    intro cs o a1;simp only [anz] at a1;simp only [so];rw [bC (cs.set o w) (o+1) (by simp;omega),Uz cs o w ws (by omega)]
 rw [gP _ _ _ (by rw [ad];exact aC),F9 _ _ _ (by rw [ad];exact aC)]
def DE (o:Option (List V)):Option V:=
 match o with
 | some cs=>some (.agg cs)
 | none=>none
theorem Xd (cs:List V):DE (some cs)=some (.agg cs):=(rfl)
theorem aaw:k_ r []=[]:=(rfl)
theorem aav {o s:Nat} {x:aW} {bE:List (Nat × Nat × aW)}:k_ r ((o,s,x)::bE)=(o,s,x.aV r)::k_ r bE:=(rfl)
def sd (P:Program) (o:bs) (e:gZ) (H:ah):Prop:=o.wp P e.r H fun _ c_ _=>c_=e.v
theorem WM {ops:List bs} {es:List gZ} {aA:ah}:qa P ops es aA []=True:=(rfl)
theorem WL {ops:List bs} {es:List gZ} {aA:ah} {p:Nat} {kn:List Nat} {rest:List (Nat × List Nat)}:qa P ops es aA ((p,kn)::rest)=(se P ops[p]? es[p]? es aA kn/\qa P ops es aA rest):=(rfl)
theorem WI {o:Option bs} {e:Option gZ} {es:List gZ} {aA:ah}:se P o e es aA []=True:=(rfl)
theorem WE {o:bs} {e:gZ} {es:List gZ} {aA:ah} {s:Nat} {kn:List Nat}:se P (some o) (some e) es aA (s::kn)=(sd P o e (yu es aA s)/\se P (some o) (some e) es aA kn):=(rfl)
def IC (o:Option gZ) (aA:ah):ah:=
 match o with
 | some e=>e.h
 | none=>aA
theorem ach (es:List gZ) (aA:ah) (s:Nat):yu es aA s=IC es[s]? aA:=(rfl)
theorem acj (e:gZ) (aA:ah):IC (some e) aA=e.h:=(rfl)
theorem aci (aA:ah):IC none aA=aA:=(rfl)
theorem Mj {d:Option Nat} {g:G} {rs:List Nat} {e:gZ} {H:ah} (ak:g.pB=true):sd P ⟨d,g,none,rs⟩ e H=(g.mU P (e.r.trim rs) H=some e.v):=by
 unfold sd;rw [S3 ak];apply propext;cases g.mU P (e.r.trim rs) H with
 | none=>exact ⟨fun q=>q.elim,fun q=>(by cases q)⟩
 | some v=>exact ⟨fun q=>by rw [show v=e.v from q],fun q=>by cases q;rfl⟩
theorem Mi {d:Option Nat} {g:G} {j:Nat} {want:Bool} {rs:List Nat} {e:gZ} {H:ah} (ak:g.pB=true):sd P ⟨d,g,some (j,want),rs⟩ e H=
 (gv (e.r.trim rs j)/\fU (took (e.r.trim rs j) want) ((g.mU P (e.r.trim rs) H).isSome=true)/\V.opt (took (e.r.trim rs j) want) ((g.mU P (e.r.trim rs) H).getD .bad)=e.v):=by
 unfold sd;rw [S1 ak]
theorem WG {d:Option Nat} {x:aW} {rs:List Nat} {e:gZ} {H:ah}:sd P ⟨d,.ep x,none,rs⟩ e H=(ou H (x.aV (e.r.trim rs))=some e.v):=Mj rfl
theorem WH {d:Option Nat} {n:Nat} {x:aW} {rs:List Nat} {e:gZ} {H:ah}:sd P ⟨d,.jM n x,none,rs⟩ e H=(ot n H (x.aV (e.r.trim rs))=some e.v):=Mj rfl
theorem WJ {d:Option Nat} {x:aW} {j:Nat} {want:Bool} {rs:List Nat} {e:gZ} {H:ah}:sd P ⟨d,.ep x,some (j,want),rs⟩ e H=
 (gv (e.r.trim rs j)/\fU (took (e.r.trim rs j) want) ((ou H (x.aV (e.r.trim rs))).isSome=true)/\V.opt (took (e.r.trim rs j) want) ((ou H (x.aV (e.r.trim rs))).getD .bad)=e.v):=Mi rfl
theorem WK {d:Option Nat} {n:Nat} {x:aW} {j:Nat} {want:Bool} {rs:List Nat} {e:gZ} {H:ah}:sd P ⟨d,.jM n x,some (j,want),rs⟩ e H=
 (gv (e.r.trim rs j)/\fU (took (e.r.trim rs j) want) ((ot n H (x.aV (e.r.trim rs))).isSome=true)/\V.opt (took (e.r.trim rs j) want) ((ot n H (x.aV (e.r.trim rs))).getD .bad)=e.v):=Mi rfl
end
def FX (x:V) (h:ah):a8:=
 match x with
 | .str s=>.val (.ptr (aD h.next) 0) (h.new (.iter s 0))
 | _=>.fail
theorem ajO (s:List UInt8) (h:ah):FX (.str s) h=.val (.ptr (aD h.next) 0) (h.new (.iter s 0)):=(rfl)
section
variable {P:Program} {r:bA} {h:ah} {Q:en->bA->ah->Prop} {aR:List iL} {os:List bs} {D:Option jv} {d:Option Nat} {rs:List Nat}
theorem ae_ {x:aW}:bG P (.os D (⟨d,(.bk x),none,rs⟩::os)::aR) .normal r h Q=d' P (some (x.aV (r.trim rs))) d D os aR r h Q:=hT rfl
theorem af1 {x:aW} {j:Nat} {want:Bool}:bG P (.os D (⟨d,(.bk x),some (j,want),rs⟩::os)::aR) .normal r h Q=(gv (r.trim rs j)/\fU (took (r.trim rs j) want) ((some (x.aV (r.trim rs))).isSome=true)/\d' P (some (V.opt (took (r.trim rs j) want) ((some (x.aV (r.trim rs))).getD .bad))) d D os aR r h Q):=im rfl
theorem afh {c a b:aW}:bG P (.os D (⟨d,(.pick c a b),none,rs⟩::os)::aR) .normal r h Q=d' P (Cz (c.aV (r.trim rs)) (a.aV (r.trim rs)) (b.aV (r.trim rs))) d D os aR r h Q:=hT rfl
theorem af6 {c a b:aW} {j:Nat} {want:Bool}:bG P (.os D (⟨d,(.pick c a b),some (j,want),rs⟩::os)::aR) .normal r h Q=(gv (r.trim rs j)/\fU (took (r.trim rs j) want) ((Cz (c.aV (r.trim rs)) (a.aV (r.trim rs)) (b.aV (r.trim rs))).isSome=true)/\d' P (some (V.opt (took (r.trim rs j) want) ((Cz (c.aV (r.trim rs)) (a.aV (r.trim rs)) (b.aV (r.trim rs))).getD .bad))) d D os aR r h Q):=im rfl
theorem aew {z:List V} {bE:List (Nat × Nat × aW)}:bG P (.os D (⟨d,(.build z bE),none,rs⟩::os)::aR) .normal r h Q=d' P (DE (jX z (k_ (r.trim rs) bE))) d D os aR r h Q:=hT rfl
theorem afz {z:List V} {bE:List (Nat × Nat × aW)} {j:Nat} {want:Bool}:bG P (.os D (⟨d,(.build z bE),some (j,want),rs⟩::os)::aR) .normal r h Q=(gv (r.trim rs j)/\fU (took (r.trim rs j) want) ((DE (jX z (k_ (r.trim rs) bE))).isSome=true)/\d' P (some (V.opt (took (r.trim rs j) want) ((DE (jX z (k_ (r.trim rs) bE))).getD .bad))) d D os aR r h Q):=im rfl
theorem aeX {x:aW}:bG P (.os D (⟨d,(.ep x),none,rs⟩::os)::aR) .normal r h Q=d' P (ou h (x.aV (r.trim rs))) d D os aR r h Q:=hT rfl
theorem afR {x:aW} {j:Nat} {want:Bool}:bG P (.os D (⟨d,(.ep x),some (j,want),rs⟩::os)::aR) .normal r h Q=(gv (r.trim rs j)/\fU (took (r.trim rs j) want) ((ou h (x.aV (r.trim rs))).isSome=true)/\d' P (some (V.opt (took (r.trim rs j) want) ((ou h (x.aV (r.trim rs))).getD .bad))) d D os aR r h Q):=im rfl
theorem aeY {n:Nat} {x:aW}:bG P (.os D (⟨d,(.jM n x),none,rs⟩::os)::aR) .normal r h Q=d' P (ot n h (x.aV (r.trim rs))) d D os aR r h Q:=hT rfl
theorem afS {n:Nat} {x:aW} {j:Nat} {want:Bool}:bG P (.os D (⟨d,(.jM n x),some (j,want),rs⟩::os)::aR) .normal r h Q=(gv (r.trim rs j)/\fU (took (r.trim rs j) want) ((ot n h (x.aV (r.trim rs))).isSome=true)/\d' P (some (V.opt (took (r.trim rs j) want) ((ot n h (x.aV (r.trim rs))).getD .bad))) d D os aR r h Q):=im rfl
theorem afe {x:aW}:bG P (.os D (⟨d,(.uE x),none,rs⟩::os)::aR) .normal r h Q=d' P (uD (x.aV (r.trim rs))) d D os aR r h Q:=hT rfl
theorem af4 {x:aW} {j:Nat} {want:Bool}:bG P (.os D (⟨d,(.uE x),some (j,want),rs⟩::os)::aR) .normal r h Q=(gv (r.trim rs j)/\fU (took (r.trim rs j) want) ((uD (x.aV (r.trim rs))).isSome=true)/\d' P (some (V.opt (took (r.trim rs j) want) ((uD (x.aV (r.trim rs))).getD .bad))) d D os aR r h Q):=im rfl
theorem aeq {k:dV} {x y:aW}:bG P (.os D (⟨d,(.bin k x y),none,rs⟩::os)::aR) .normal r h Q=d' P (k.run P (x.aV (r.trim rs)) (y.aV (r.trim rs))) d D os aR r h Q:=hT rfl
theorem afw {k:dV} {x y:aW} {j:Nat} {want:Bool}:bG P (.os D (⟨d,(.bin k x y),some (j,want),rs⟩::os)::aR) .normal r h Q=(gv (r.trim rs j)/\fU (took (r.trim rs j) want) ((k.run P (x.aV (r.trim rs)) (y.aV (r.trim rs))).isSome=true)/\d' P (some (V.opt (took (r.trim rs j) want) ((k.run P (x.aV (r.trim rs)) (y.aV (r.trim rs))).getD .bad))) d D os aR r h Q):=im rfl
theorem afr {o:UnOp} {x:aW}:bG P (.os D (⟨d,(.un o x),none,rs⟩::os)::aR) .normal r h Q=d' P (r2 o (x.aV (r.trim rs))) d D os aR r h Q:=hT rfl
theorem af_ {o:UnOp} {x:aW} {j:Nat} {want:Bool}:bG P (.os D (⟨d,(.un o x),some (j,want),rs⟩::os)::aR) .normal r h Q=(gv (r.trim rs j)/\fU (took (r.trim rs j) want) ((r2 o (x.aV (r.trim rs))).isSome=true)/\d' P (some (V.opt (took (r.trim rs j) want) ((r2 o (x.aV (r.trim rs))).getD .bad))) d D os aR r h Q):=im rfl
theorem aeG {f:aW} {args:List aW}:bG P (.os D (⟨d,(.gp f args),none,rs⟩::os)::aR) .normal r h Q=d' P (AU (f.aV (r.trim rs)) (aW.fC (r.trim rs) args) (r.trim rs ej)) d D os aR r h Q:=hT rfl
theorem aeP {f:FuncId} {cs:List aW}:bG P (.os D (⟨d,(.fn f cs),none,rs⟩::os)::aR) .normal r h Q=d' P (some (V.func f (aW.fC (r.trim rs) cs))) d D os aR r h Q:=hT rfl
theorem afL {f:FuncId} {cs:List aW} {j:Nat} {want:Bool}:bG P (.os D (⟨d,(.fn f cs),some (j,want),rs⟩::os)::aR) .normal r h Q=(gv (r.trim rs j)/\fU (took (r.trim rs j) want) ((some (V.func f (aW.fC (r.trim rs) cs))).isSome=true)/\d' P (some (V.opt (took (r.trim rs j) want) ((some (V.func f (aW.fC (r.trim rs) cs))).getD .bad))) d D os aR r h Q):=im rfl
theorem sS {f:FuncId} {cs:List aW}:bG P (.os D (⟨d,(.uA f cs),none,rs⟩::os)::aR) .normal r h Q=d' P (some (V.kW f (aW.fC (r.trim rs) cs))) d D os aR r h Q:=hT rfl
theorem aeU {t:TypeId} {x:aW}:bG P (.os D (⟨d,(.sN t x),none,rs⟩::os)::aR) .normal r h Q=d' P (some (V.iface t (x.aV (r.trim rs)))) d D os aR r h Q:=hT rfl
theorem afO {t:TypeId} {x:aW} {j:Nat} {want:Bool}:bG P (.os D (⟨d,(.sN t x),some (j,want),rs⟩::os)::aR) .normal r h Q=(gv (r.trim rs j)/\fU (took (r.trim rs j) want) ((some (V.iface t (x.aV (r.trim rs)))).isSome=true)/\d' P (some (V.opt (took (r.trim rs j) want) ((some (V.iface t (x.aV (r.trim rs)))).getD .bad))) d D os aR r h Q):=im rfl
theorem afo {x:aW} {bQ au m3:Option aW}:bG P (.os D (⟨d,(.qS x bQ au m3),none,rs⟩::os)::aR) .normal r h Q=d' P (mV (x.aV (r.trim rs)) (aW.opt (r.trim rs) bQ) (aW.opt (r.trim rs) au) (aW.opt (r.trim rs) m3)) d D os aR r h Q:=hT rfl
theorem af9 {x:aW} {bQ au m3:Option aW} {j:Nat} {want:Bool}:bG P (.os D (⟨d,(.qS x bQ au m3),some (j,want),rs⟩::os)::aR) .normal r h Q=(gv (r.trim rs j)/\fU (took (r.trim rs j) want) ((mV (x.aV (r.trim rs)) (aW.opt (r.trim rs) bQ) (aW.opt (r.trim rs) au) (aW.opt (r.trim rs) m3)).isSome=true)/\d' P (some (V.opt (took (r.trim rs j) want) ((mV (x.aV (r.trim rs)) (aW.opt (r.trim rs) bQ) (aW.opt (r.trim rs) au) (aW.opt (r.trim rs) m3)).getD .bad))) d D os aR r h Q):=im rfl
theorem afn {n:Nat} {x:aW} {bQ au m3:Option aW}:bG P (.os D (⟨d,(.dZ n x bQ au m3),none,rs⟩::os)::aR) .normal r h Q=d' P (gN n (x.aV (r.trim rs)) (aW.opt (r.trim rs) bQ) (aW.opt (r.trim rs) au) (aW.opt (r.trim rs) m3)) d D os aR r h Q:=hT rfl
theorem af8 {n:Nat} {x:aW} {bQ au m3:Option aW} {j:Nat} {want:Bool}:bG P (.os D (⟨d,(.dZ n x bQ au m3),some (j,want),rs⟩::os)::aR) .normal r h Q=(gv (r.trim rs j)/\fU (took (r.trim rs j) want) ((gN n (x.aV (r.trim rs)) (aW.opt (r.trim rs) bQ) (aW.opt (r.trim rs) au) (aW.opt (r.trim rs) m3)).isSome=true)/\d' P (some (V.opt (took (r.trim rs j) want) ((gN n (x.aV (r.trim rs)) (aW.opt (r.trim rs) bQ) (aW.opt (r.trim rs) au) (aW.opt (r.trim rs) m3)).getD .bad))) d D os aR r h Q):=im rfl
theorem aeM {o:Nat} {x:aW}:bG P (.os D (⟨d,(.gP o x),none,rs⟩::os)::aR) .normal r h Q=d' P (D2 o (x.aV (r.trim rs))) d D os aR r h Q:=hT rfl
theorem afI {o:Nat} {x:aW} {j:Nat} {want:Bool}:bG P (.os D (⟨d,(.gP o x),some (j,want),rs⟩::os)::aR) .normal r h Q=(gv (r.trim rs j)/\fU (took (r.trim rs j) want) ((D2 o (x.aV (r.trim rs))).isSome=true)/\d' P (some (V.opt (took (r.trim rs j) want) ((D2 o (x.aV (r.trim rs))).getD .bad))) d D os aR r h Q):=im rfl
theorem aeN {o:Nat} {x:aW}:bG P (.os D (⟨d,(.vL o x),none,rs⟩::os)::aR) .normal r h Q=d' P ((x.aV (r.trim rs)).sZ none fun cs=>cs[o]?) d D os aR r h Q:=hT rfl
theorem afJ {o:Nat} {x:aW} {j:Nat} {want:Bool}:bG P (.os D (⟨d,(.vL o x),some (j,want),rs⟩::os)::aR) .normal r h Q=(gv (r.trim rs j)/\fU (took (r.trim rs j) want) (((x.aV (r.trim rs)).sZ none fun cs=>cs[o]?).isSome=true)/\d' P (some (V.opt (took (r.trim rs j) want) (((x.aV (r.trim rs)).sZ none fun cs=>cs[o]?).getD .bad))) d D os aR r h Q):=im rfl
theorem aeO {o n:Nat} {x:aW}:bG P (.os D (⟨d,(.vM o n x),none,rs⟩::os)::aR) .normal r h Q=d' P ((x.aV (r.trim rs)).sZ none fun cs=>some (V.agg ((cs.drop o).take n))) d D os aR r h Q:=hT rfl
theorem afK {o n:Nat} {x:aW} {j:Nat} {want:Bool}:bG P (.os D (⟨d,(.vM o n x),some (j,want),rs⟩::os)::aR) .normal r h Q=(gv (r.trim rs j)/\fU (took (r.trim rs j) want) (((x.aV (r.trim rs)).sZ none fun cs=>some (V.agg ((cs.drop o).take n))).isSome=true)/\d' P (some (V.opt (took (r.trim rs j) want) (((x.aV (r.trim rs)).sZ none fun cs=>some (V.agg ((cs.drop o).take n))).getD .bad))) d D os aR r h Q):=im rfl
theorem aeS {n:Nat} {x i:aW}:bG P (.os D (⟨d,(.dj n x i),none,rs⟩::os)::aR) .normal r h Q=d' P (iD n (x.aV (r.trim rs)) (i.aV (r.trim rs))) d D os aR r h Q:=hT rfl
theorem afM {n:Nat} {x i:aW} {j:Nat} {want:Bool}:bG P (.os D (⟨d,(.dj n x i),some (j,want),rs⟩::os)::aR) .normal r h Q=(gv (r.trim rs j)/\fU (took (r.trim rs j) want) ((iD n (x.aV (r.trim rs)) (i.aV (r.trim rs))).isSome=true)/\d' P (some (V.opt (took (r.trim rs j) want) ((iD n (x.aV (r.trim rs)) (i.aV (r.trim rs))).getD .bad))) d D os aR r h Q):=im rfl
theorem aeT {m n:Nat} {x i:aW}:bG P (.os D (⟨d,(.t_ m n x i),none,rs⟩::os)::aR) .normal r h Q=d' P ((sP m n).run (x.aV (r.trim rs)) (i.aV (r.trim rs))) d D os aR r h Q:=hT rfl
theorem afN {m n:Nat} {x i:aW} {j:Nat} {want:Bool}:bG P (.os D (⟨d,(.t_ m n x i),some (j,want),rs⟩::os)::aR) .normal r h Q=(gv (r.trim rs j)/\fU (took (r.trim rs j) want) (((sP m n).run (x.aV (r.trim rs)) (i.aV (r.trim rs))).isSome=true)/\d' P (some (V.opt (took (r.trim rs j) want) (((sP m n).run (x.aV (r.trim rs)) (i.aV (r.trim rs))).getD .bad))) d D os aR r h Q):=im rfl
theorem aeW {x i:aW}:bG P (.os D (⟨d,(.oj x i),none,rs⟩::os)::aR) .normal r h Q=d' P (sR.run (x.aV (r.trim rs)) (i.aV (r.trim rs))) d D os aR r h Q:=hT rfl
theorem afQ {x i:aW} {j:Nat} {want:Bool}:bG P (.os D (⟨d,(.oj x i),some (j,want),rs⟩::os)::aR) .normal r h Q=(gv (r.trim rs j)/\fU (took (r.trim rs j) want) ((sR.run (x.aV (r.trim rs)) (i.aV (r.trim rs))).isSome=true)/\d' P (some (V.opt (took (r.trim rs j) want) ((sR.run (x.aV (r.trim rs)) (i.aV (r.trim rs))).getD .bad))) d D os aR r h Q):=im rfl
theorem aeV {t:TypeId} {x i:aW}:bG P (.os D (⟨d,(.kB t x i),none,rs⟩::os)::aR) .normal r h Q=d' P ((sQ P t).run (x.aV (r.trim rs)) (i.aV (r.trim rs))) d D os aR r h Q:=hT rfl
theorem afP {t:TypeId} {x i:aW} {j:Nat} {want:Bool}:bG P (.os D (⟨d,(.kB t x i),some (j,want),rs⟩::os)::aR) .normal r h Q=(gv (r.trim rs j)/\fU (took (r.trim rs j) want) (((sQ P t).run (x.aV (r.trim rs)) (i.aV (r.trim rs))).isSome=true)/\d' P (some (V.opt (took (r.trim rs j) want) (((sQ P t).run (x.aV (r.trim rs)) (i.aV (r.trim rs))).getD .bad))) d D os aR r h Q):=im rfl
theorem ae4 {k:nO} {z:V} {ok:Bool} {x i:aW}:bG P (.os D (⟨d,(.look k z ok x i),none,rs⟩::os)::aR) .normal r h Q=d' P (kD k.eq z ok h (x.aV (r.trim rs)) (i.aV (r.trim rs))) d D os aR r h Q:=hT rfl
theorem afX {k:nO} {z:V} {ok:Bool} {x i:aW} {j:Nat} {want:Bool}:bG P (.os D (⟨d,(.look k z ok x i),some (j,want),rs⟩::os)::aR) .normal r h Q=(gv (r.trim rs j)/\fU (took (r.trim rs j) want) ((kD k.eq z ok h (x.aV (r.trim rs)) (i.aV (r.trim rs))).isSome=true)/\d' P (some (V.opt (took (r.trim rs j) want) ((kD k.eq z ok h (x.aV (r.trim rs)) (i.aV (r.trim rs))).getD .bad))) d D os aR r h Q):=im rfl
theorem aeL {x:aW} {i:Nat}:bG P (.os D (⟨d,(.ext x i),none,rs⟩::os)::aR) .normal r h Q=d' P ((x.aV (r.trim rs)).Cp none fun ai=>ai[i]?) d D os aR r h Q:=hT rfl
theorem afH {x:aW} {i:Nat} {j:Nat} {want:Bool}:bG P (.os D (⟨d,(.ext x i),some (j,want),rs⟩::os)::aR) .normal r h Q=(gv (r.trim rs j)/\fU (took (r.trim rs j) want) (((x.aV (r.trim rs)).Cp none fun ai=>ai[i]?).isSome=true)/\d' P (some (V.opt (took (r.trim rs j) want) (((x.aV (r.trim rs)).Cp none fun ai=>ai[i]?).getD .bad))) d D os aR r h Q):=im rfl
theorem ae9 {args:List aW}:bG P (.os D (⟨d,(.zf args),none,rs⟩::os)::aR) .normal r h Q=d' P (lF (fun b a=>!Int.leB a b) (aW.fC (r.trim rs) args)) d D os aR r h Q:=hT rfl
theorem af0 {args:List aW} {j:Nat} {want:Bool}:bG P (.os D (⟨d,(.zf args),some (j,want),rs⟩::os)::aR) .normal r h Q=(gv (r.trim rs j)/\fU (took (r.trim rs j) want) ((lF (fun b a=>!Int.leB a b) (aW.fC (r.trim rs) args)).isSome=true)/\d' P (some (V.opt (took (r.trim rs j) want) ((lF (fun b a=>!Int.leB a b) (aW.fC (r.trim rs) args)).getD .bad))) d D os aR r h Q):=im rfl
theorem afa {args:List aW}:bG P (.os D (⟨d,(.eZ args),none,rs⟩::os)::aR) .normal r h Q=d' P (lF (fun b a=>!Int.leB b a) (aW.fC (r.trim rs) args)) d D os aR r h Q:=hT rfl
theorem af2 {args:List aW} {j:Nat} {want:Bool}:bG P (.os D (⟨d,(.eZ args),some (j,want),rs⟩::os)::aR) .normal r h Q=(gv (r.trim rs j)/\fU (took (r.trim rs j) want) ((lF (fun b a=>!Int.leB b a) (aW.fC (r.trim rs) args)).isSome=true)/\d' P (some (V.opt (took (r.trim rs j) want) ((lF (fun b a=>!Int.leB b a) (aW.fC (r.trim rs) args)).getD .bad))) d D os aR r h Q):=im rfl
theorem aeD {k:IntKind} {x:aW}:bG P (.os D (⟨d,(.ia (.int k) x),none,rs⟩::os)::aR) .normal r h Q=d' P (DQ k (x.aV (r.trim rs))) d D os aR r h Q:=hT rfl
theorem afE {k:IntKind} {x:aW} {j:Nat} {want:Bool}:bG P (.os D (⟨d,(.ia (.int k) x),some (j,want),rs⟩::os)::aR) .normal r h Q=(gv (r.trim rs j)/\fU (took (r.trim rs j) want) ((DQ k (x.aV (r.trim rs))).isSome=true)/\d' P (some (V.opt (took (r.trim rs j) want) ((DQ k (x.aV (r.trim rs))).getD .bad))) d D os aR r h Q):=im rfl
theorem ae1 {x:aW}:bG P (.os D (⟨d,(.len .slice x),none,rs⟩::os)::aR) .normal r h Q=d' P (mb (x.aV (r.trim rs))) d D os aR r h Q:=hT rfl
theorem afV {x:aW} {j:Nat} {want:Bool}:bG P (.os D (⟨d,(.len .slice x),some (j,want),rs⟩::os)::aR) .normal r h Q=(gv (r.trim rs j)/\fU (took (r.trim rs j) want) ((mb (x.aV (r.trim rs))).isSome=true)/\d' P (some (V.opt (took (r.trim rs j) want) ((mb (x.aV (r.trim rs))).getD .bad))) d D os aR r h Q):=im rfl
theorem ae2 {x:aW}:bG P (.os D (⟨d,(.len .str x),none,rs⟩::os)::aR) .normal r h Q=d' P (EY (x.aV (r.trim rs))) d D os aR r h Q:=hT rfl
theorem afW {x:aW} {j:Nat} {want:Bool}:bG P (.os D (⟨d,(.len .str x),some (j,want),rs⟩::os)::aR) .normal r h Q=(gv (r.trim rs j)/\fU (took (r.trim rs j) want) ((EY (x.aV (r.trim rs))).isSome=true)/\d' P (some (V.opt (took (r.trim rs j) want) ((EY (x.aV (r.trim rs))).getD .bad))) d D os aR r h Q):=im rfl
theorem aeZ {n:Nat} {x:aW}:bG P (.os D (⟨d,(.len (.arr n) x),none,rs⟩::os)::aR) .normal r h Q=d' P (some (V.int .i64 n)) d D os aR r h Q:=hT rfl
theorem afT {n:Nat} {x:aW} {j:Nat} {want:Bool}:bG P (.os D (⟨d,(.len (.arr n) x),some (j,want),rs⟩::os)::aR) .normal r h Q=(gv (r.trim rs j)/\fU (took (r.trim rs j) want) ((some (V.int .i64 n)).isSome=true)/\d' P (some (V.opt (took (r.trim rs j) want) ((some (V.int .i64 n)).getD .bad))) d D os aR r h Q):=im rfl
theorem afc {z:List V}:bG P (.os D (⟨d,(.new z),none,rs⟩::os)::aR) .normal r h Q=kI P (uG (.ptr (aD h.next) 0) (gU h z)) d D os aR r h Q:=nC rfl rfl
theorem af3 {z:List V} {j:Nat} {want:Bool}:bG P (.os D (⟨d,(.new z),some (j,want),rs⟩::os)::aR) .normal r h Q=ha P (r.trim rs j) want d (.new z) rs D os aR r h Q:=l' rfl
theorem aeu {x:aW}:bG P (.os D (⟨d,(.box x),none,rs⟩::os)::aR) .normal r h Q=kI P (Mx (x.aV (r.trim rs)).fR (uG (.ptr (aD h.next) 0) (gU h (x.aV (r.trim rs)).cells))) d D os aR r h Q:=nC rfl rfl
theorem afx {x:aW} {j:Nat} {want:Bool}:bG P (.os D (⟨d,(.box x),some (j,want),rs⟩::os)::aR) .normal r h Q=ha P (r.trim rs j) want d (.box x) rs D os aR r h Q:=l' rfl
theorem aev {n m:Nat} {z:List V} {bE:List (Nat × Nat × aW)}:bG P (.os D (⟨d,(.e4 n m z bE),none,rs⟩::os)::aR) .normal r h Q=kI P (DC n h (jX (jr z n) (k_ (r.trim rs) bE))) d D os aR r h Q:=by rw [nC rfl rfl,aj3]
theorem afy {n m:Nat} {z:List V} {bE:List (Nat × Nat × aW)} {j:Nat} {want:Bool}:bG P (.os D (⟨d,(.e4 n m z bE),some (j,want),rs⟩::os)::aR) .normal r h Q=ha P (r.trim rs j) want d (.e4 n m z bE) rs D os aR r h Q:=l' rfl
theorem afp {n:Nat} {x y:aW}:bG P (.os D (⟨d,(.st n x y),none,rs⟩::os)::aR) .normal r h Q=kI P (uG .bad (r0 n h (x.aV (r.trim rs)) (y.aV (r.trim rs)))) d D os aR r h Q:=nC rfl rfl
theorem af' {n:Nat} {x y:aW} {j:Nat} {want:Bool}:bG P (.os D (⟨d,(.st n x y),some (j,want),rs⟩::os)::aR) .normal r h Q=ha P (r.trim rs j) want d (.st n x y) rs D os aR r h Q:=l' rfl
theorem ae8 {n:Nat} {z:List V} {l c:aW}:bG P (.os D (⟨d,(.ze n z l c),none,rs⟩::os)::aR) .normal r h Q=kI P (uy n z (l.aV (r.trim rs)) (c.aV (r.trim rs)) h) d D os aR r h Q:=nC rfl rfl
theorem afZ {n:Nat} {z:List V} {l c:aW} {j:Nat} {want:Bool}:bG P (.os D (⟨d,(.ze n z l c),some (j,want),rs⟩::os)::aR) .normal r h Q=ha P (r.trim rs j) want d (.ze n z l c) rs D os aR r h Q:=l' rfl
theorem afs {k:nO} {m i x:aW}:bG P (.os D (⟨d,(.CQ k m i x),none,rs⟩::os)::aR) .normal r h Q=kI P (uG .bad (pY k.eq h (m.aV (r.trim rs)) (i.aV (r.trim rs)) (x.aV (r.trim rs)))) d D os aR r h Q:=nC rfl rfl
theorem aga {k:nO} {m i x:aW} {j:Nat} {want:Bool}:bG P (.os D (⟨d,(.CQ k m i x),some (j,want),rs⟩::os)::aR) .normal r h Q=ha P (r.trim rs j) want d (.CQ k m i x) rs D os aR r h Q:=l' rfl
theorem ae7 {x:Option aW}:bG P (.os D (⟨d,(.Cc x),none,rs⟩::os)::aR) .normal r h Q=kI P (wV (aW.opt (r.trim rs) x) h) d D os aR r h Q:=nC rfl rfl
theorem afY {x:Option aW} {j:Nat} {want:Bool}:bG P (.os D (⟨d,(.Cc x),some (j,want),rs⟩::os)::aR) .normal r h Q=ha P (r.trim rs j) want d (.Cc x) rs D os aR r h Q:=l' rfl
theorem afk {x:aW}:bG P (.os D (⟨d,(.zx x),none,rs⟩::os)::aR) .normal r h Q=kI P (FX (x.aV (r.trim rs)) h) d D os aR r h Q:=(nC rfl rfl).trans (by first | rfl | (unfold FX;simp only [G.run];cases x.aV (r.trim rs)<;>rfl) | (unfold FX;cases x.aV (r.trim rs)<;>rfl))
theorem af7 {x:aW} {j:Nat} {want:Bool}:bG P (.os D (⟨d,(.zx x),some (j,want),rs⟩::os)::aR) .normal r h Q=ha P (r.trim rs j) want d (.zx x) rs D os aR r h Q:=l' rfl
theorem aff {x:aW}:bG P (.os D (⟨d,(.zk x),none,rs⟩::os)::aR) .normal r h Q=kI P (w0 (x.aV (r.trim rs)) h) d D os aR r h Q:=nC rfl rfl
theorem af5 {x:aW} {j:Nat} {want:Bool}:bG P (.os D (⟨d,(.zk x),some (j,want),rs⟩::os)::aR) .normal r h Q=ha P (r.trim rs j) want d (.zk x) rs D os aR r h Q:=l' rfl
theorem aeo {n:Nat} {s x:aW}:bG P (.os D (⟨d,(.app n s x),none,rs⟩::os)::aR) .normal r h Q=kI P (jz n (s.aV (r.trim rs)) (x.aV (r.trim rs)) h) d D os aR r h Q:=nC rfl rfl
theorem afv {n:Nat} {s x:aW} {j:Nat} {want:Bool}:bG P (.os D (⟨d,(.app n s x),some (j,want),rs⟩::os)::aR) .normal r h Q=ha P (r.trim rs j) want d (.app n s x) rs D os aR r h Q:=l' rfl
theorem aeA {n:Nat} {ni s:aW}:bG P (.os D (⟨d,(.copy n ni s),none,rs⟩::os)::aR) .normal r h Q=kI P (copyV n (ni.aV (r.trim rs)) (s.aV (r.trim rs)) h) d D os aR r h Q:=nC rfl rfl
theorem afC {n:Nat} {ni s:aW} {j:Nat} {want:Bool}:bG P (.os D (⟨d,(.copy n ni s),some (j,want),rs⟩::os)::aR) .normal r h Q=ha P (r.trim rs j) want d (.copy n ni s) rs D os aR r h Q:=l' rfl
theorem ae0 {x:aW}:bG P (.os D (⟨d,(.len .map x),none,rs⟩::os)::aR) .normal r h Q=kI P (B4 [x.aV (r.trim rs)] h) d D os aR r h Q:=nC rfl rfl
theorem afU {x:aW} {j:Nat} {want:Bool}:bG P (.os D (⟨d,(.len .map x),some (j,want),rs⟩::os)::aR) .normal r h Q=ha P (r.trim rs j) want d (.len .map x) rs D os aR r h Q:=l' rfl
theorem aeC {x:aW}:bG P (.os D (⟨d,(.ia .bytes x),none,rs⟩::os)::aR) .normal r h Q=kI P (vz.run (x.aV (r.trim rs)) h) d D os aR r h Q:=nC rfl rfl
theorem afD {x:aW} {j:Nat} {want:Bool}:bG P (.os D (⟨d,(.ia .bytes x),some (j,want),rs⟩::os)::aR) .normal r h Q=ha P (r.trim rs j) want d (.ia .bytes x) rs D os aR r h Q:=l' rfl
theorem aeF {x:aW}:bG P (.os D (⟨d,(.ia .str x),none,rs⟩::os)::aR) .normal r h Q=kI P (tD.run (x.aV (r.trim rs)) h) d D os aR r h Q:=nC rfl rfl
theorem afG {x:aW} {j:Nat} {want:Bool}:bG P (.os D (⟨d,(.ia .str x),some (j,want),rs⟩::os)::aR) .normal r h Q=ha P (r.trim rs j) want d (.ia .str x) rs D os aR r h Q:=l' rfl
theorem aeE {s ni:TypeId} {x:aW}:bG P (.os D (⟨d,(.ia (.other s ni) x),none,rs⟩::os)::aR) .normal r h Q=kI P ((q' P s ni).run (x.aV (r.trim rs)) h) d D os aR r h Q:=nC rfl rfl
theorem afF {s ni:TypeId} {x:aW} {j:Nat} {want:Bool}:bG P (.os D (⟨d,(.ia (.other s ni) x),some (j,want),rs⟩::os)::aR) .normal r h Q=ha P (r.trim rs j) want d (.ia (.other s ni) x) rs D os aR r h Q:=l' rfl
theorem afA {f:FuncId} {args:List aW} {j:Nat} {want:Bool}:bG P (.os D (⟨d,(.call f args),some (j,want),rs⟩::os)::aR) .normal r h Q=ha P (r.trim rs j) want d (.call f args) rs D os aR r h Q:=l' rfl
theorem afB {f:aW} {args:List aW} {j:Nat} {want:Bool}:bG P (.os D (⟨d,(.qc f args),some (j,want),rs⟩::os)::aR) .normal r h Q=ha P (r.trim rs j) want d (.qc f args) rs D os aR r h Q:=l' rfl
end
theorem ahO (h:ah) (ai:List V):gU h ai=if ai.length<=top then some (h.new (.a_ ai 0 false)) else none:=by
 by_cases aw:ai.length<=top
 . rw [anL aw,SS aw]
 . rw [anE aw];unfold gU;rw [show Nat.ble ai.length top=false from by rw [<-aof,anS];exact aw];rfl
theorem agG (h:ah) (n:Nat) (b:aU) (off:Nat) (y:V) (ai:List V) (cH:Nat) (st:Bool):
 B1 n h b off y (.a_ ai cH st)=if y.cells.length=n/\fi y.cells=true/\off+n<=ai.length then some (h.set b (.a_ (pR ai off y.cells) cH st)) else none:=by
 by_cases ao:y.cells.length=n/\fi y.cells=true/\off+n<=ai.length
 . rw [anL ao,agI ao.1 ao.2.1 ao.2.2]
 . rw [anE ao];unfold B1;by_cases J:y.cells.length=n
   . rw [show Nat.beq y.cells.length n=true from by rw [an6];exact J];simp only [anC,cn.a_,cn.on];by_cases ad:fi y.cells=true
     . have aC:¬off+y.cells.length<=ai.length:=fun q=>ao ⟨J,ad,by omega⟩;rw [show Nat.ble (off+y.cells.length) ai.length=false from by rw [<-aof,anS];exact aC];rfl
     . rw [show fi y.cells=false from by simpa using ad,aoO];rfl
   . rw [show Nat.beq y.cells.length n=false from by rw [<-aof,an6];exact J];rfl
theorem aaJ (cells:List V) (off size:Nat) (v:V) (rest:List (Nat × Nat × V)):
 jX cells ((off,size,v)::rest)=if v.fR=true/\v.cells.length=size/\off+size<=cells.length then jX (pR cells off v.cells) rest else none:=by
 by_cases ao:v.fR=true/\v.cells.length=size/\off+size<=cells.length
 . rw [anL ao,aaI ao.1 ao.2.1 ao.2.2]
 . rw [anE ao];simp only [jX];cases aj:(v.fR&&(Nat.beq v.cells.length size&&Nat.ble (off+v.cells.length) cells.length)) with
   | false=>rfl
   | true=>
     simp only [anu,an6,anS] at aj;exact absurd ⟨aj.1,aj.2.1,by omega⟩ ao
theorem Y_ (b:Bool):V.cells (.bool b:V)=[.bool b]:=rfl
theorem aim (b:Bool):V.one (.bool b:V)=true:=rfl
theorem abg (b:Bool):V.fR (.bool b:V)=true:=rfl
theorem Zd (k:IntKind) (n:Int):V.cells (.int k n:V)=[.int k n]:=rfl
theorem Td (k:IntKind) (n:Int):V.one (.int k n:V)=true:=rfl
theorem abk (k:IntKind) (n:Int):V.fR (.int k n:V)=true:=rfl
theorem Zn (s:List UInt8):V.cells (.str s:V)=[.str s]:=rfl
theorem aiy (s:List UInt8):V.one (.str s:V)=true:=rfl
theorem abu (s:List UInt8):V.fR (.str s:V)=true:=rfl
theorem Zi:V.cells (.mg:V)=[.mg]:=rfl
theorem aiu:V.one (.mg:V)=true:=rfl
theorem abp:V.fR (.mg:V)=true:=rfl
theorem Zk (b:aU) (o:Nat):V.cells (.ptr b o:V)=[.ptr b o]:=rfl
theorem aiw (b:aU) (o:Nat):V.one (.ptr b o:V)=true:=rfl
theorem abr (b:aU) (o:Nat):V.fR (.ptr b o:V)=true:=rfl
theorem Zm (b:aU) (o l c:Nat):V.cells (.slice b o l c:V)=[.slice b o l c]:=rfl
theorem aix (b:aU) (o l c:Nat):V.one (.slice b o l c:V)=true:=rfl
theorem abt (b:aU) (o l c:Nat):V.fR (.slice b o l c:V)=true:=rfl
theorem Zb (b:aU) (o l c:Nat):V.cells (.et b o l c:V)=[.et b o l c]:=rfl
theorem aio (b:aU) (o l c:Nat):V.one (.et b o l c:V)=true:=rfl
theorem abi (b:aU) (o l c:Nat):V.fR (.et b o l c:V)=true:=rfl
theorem Zo (b:aU) (o l c:Nat):V.cells (.gV b o l c:V)=[.gV b o l c]:=rfl
theorem aiz (b:aU) (o l c:Nat):V.one (.gV b o l c:V)=true:=rfl
theorem abv (b:aU) (o l c:Nat):V.fR (.gV b o l c:V)=true:=rfl
theorem Zj:V.cells (.cr:V)=[.cr]:=rfl
theorem aiv:V.one (.cr:V)=true:=rfl
theorem abq:V.fR (.cr:V)=true:=rfl
theorem Zh:V.cells (.lB:V)=[.lB]:=rfl
theorem ait:V.one (.lB:V)=true:=rfl
theorem abo:V.fR (.lB:V)=true:=rfl
theorem Ze (b:aU):V.cells (.map b:V)=[.map b]:=rfl
theorem aiq (b:aU):V.one (.map b:V)=true:=rfl
theorem abl (b:aU):V.fR (.map b:V)=true:=rfl
theorem Za (f:FuncId) (cs:List V):V.cells (.func f cs:V)=[.func f cs]:=rfl
theorem ain (f:FuncId) (cs:List V):V.one (.func f cs:V)=true:=rfl
theorem abh (f:FuncId) (cs:List V):V.fR (.func f cs:V)=true:=rfl
theorem Zg:V.cells (.ow:V)=[.ow]:=rfl
theorem ais:V.one (.ow:V)=true:=rfl
theorem abn:V.fR (.ow:V)=true:=rfl
theorem Zc (t:TypeId) (v:V):V.cells (.iface t v:V)=[.iface t v]:=rfl
theorem aip (t:TypeId) (v:V):V.one (.iface t v:V)=true:=rfl
theorem abj (t:TypeId) (v:V):V.fR (.iface t v:V)=true:=rfl
theorem Zf:V.cells (.nilIface:V)=[.nilIface]:=rfl
theorem air:V.one (.nilIface:V)=true:=rfl
theorem abm:V.fR (.nilIface:V)=true:=rfl
theorem Y' (cs:List V):V.cells (.agg cs)=cs:=rfl
theorem abf (cs:List V):V.fR (.agg cs)=true:=rfl
theorem abw (cs:List V):V.fR (.tuple cs)=true:=rfl
theorem Wc (n:Nat):n+1+1=n+2:=rfl
theorem Wi (n:Nat):n+2+1=n+3:=rfl
theorem Wj (n:Nat):n+3+1=n+4:=rfl
theorem Wk (n:Nat):n+4+1=n+5:=rfl
theorem Wl (n:Nat):n+5+1=n+6:=rfl
theorem Wm (n:Nat):n+6+1=n+7:=rfl
theorem Wn (n:Nat):n+7+1=n+8:=rfl
theorem Wo (n:Nat):n+8+1=n+9:=rfl
theorem Wp (n:Nat):n+9+1=n+10:=rfl
theorem Wb (n:Nat):n+10+1=n+11:=rfl
theorem Wd (n:Nat):n+11+1=n+12:=rfl
theorem We (n:Nat):n+12+1=n+13:=rfl
theorem Wf (n:Nat):n+13+1=n+14:=rfl
theorem Wg (n:Nat):n+14+1=n+15:=rfl
theorem Wh (n:Nat):n+15+1=n+16:=rfl
theorem SY (n:Nat):(n+1=n)=False:=anA (by omega)
theorem alK (n:Nat):(n=n+1)=False:=anA (by omega)
theorem Ci (n:Nat):(n+2=n)=False:=anA (by omega)
theorem alL (n:Nat):(n=n+2)=False:=anA (by omega)
theorem ah4 (n:Nat):(n+3=n)=False:=anA (by omega)
theorem alM (n:Nat):(n=n+3)=False:=anA (by omega)
theorem ah5 (n:Nat):(n+4=n)=False:=anA (by omega)
theorem alN (n:Nat):(n=n+4)=False:=anA (by omega)
theorem ah6 (n:Nat):(n+5=n)=False:=anA (by omega)
theorem alO (n:Nat):(n=n+5)=False:=anA (by omega)
theorem ah7 (n:Nat):(n+6=n)=False:=anA (by omega)
theorem alP (n:Nat):(n=n+6)=False:=anA (by omega)
theorem ah8 (n:Nat):(n+7=n)=False:=anA (by omega)
theorem alQ (n:Nat):(n=n+7)=False:=anA (by omega)
theorem ah9 (n:Nat):(n+8=n)=False:=anA (by omega)
theorem alR (n:Nat):(n=n+8)=False:=anA (by omega)
theorem abb {P:Program} {r:bA} {h:ah} {Q:en->bA->ah->Prop} {aR:List iL} {os:List bs} {D:Option jv} {d:Option Nat} {g:G} {rs:List Nat}:ha P (.bool true) true d g rs D os aR r h Q=bG P (.os D (⟨d,g,none,rs⟩::os)::aR) .normal r h Q:=by rw [Qb];simp
theorem aa' {P:Program} {r:bA} {h:ah} {Q:en->bA->ah->Prop} {aR:List iL} {os:List bs} {D:Option jv} {d:Option Nat} {g:G} {rs:List Nat}:ha P (.bool false) false d g rs D os aR r h Q=bG P (.os D (⟨d,g,none,rs⟩::os)::aR) .normal r h Q:=by rw [Qa];simp
theorem aba {P:Program} {r:bA} {h:ah} {Q:en->bA->ah->Prop} {aR:List iL} {os:List bs} {D:Option jv} {d:Option Nat} {g:G} {rs:List Nat}:ha P (.bool true) false d g rs D os aR r h Q=bG P (.os (jq D r h (.tuple [])) os::aR) .normal (r.set d (.tuple [])) h Q:=by rw [Qa];simp
theorem aa_ {P:Program} {r:bA} {h:ah} {Q:en->bA->ah->Prop} {aR:List iL} {os:List bs} {D:Option jv} {d:Option Nat} {g:G} {rs:List Nat}:ha P (.bool false) true d g rs D os aR r h Q=bG P (.os (jq D r h (.tuple [])) os::aR) .normal (r.set d (.tuple [])) h Q:=by rw [Qb];simp
theorem W3 (c:Bool) (a b:V):V.bif (!c) a (V.opt c b)=V.bif (!c) a b:=by cases c<;>rfl
theorem adS (A:Prop):(True->A)=A:=propext ⟨fun q=>q trivial,fun q _=>q⟩
theorem adR (A:Prop):(False->A)=True:=propext ⟨fun _=>trivial,fun _ q=>q.elim⟩
section
variable {P:Program}
theorem fE {b:bD} {aR:List iL} {r:bA} {h:ah} {Q:en->bA->ah->Prop} (I:bA->ah->Prop) (μ:bA->ah->Nat) (a6:I r h)
 (step:∀r h,I r h->bG P [.c b] .normal r h fun e bH ab=>e.andThen (I bH ab/\μ bH ab<μ r h) (bG P aR e bH ab Q)):E7 P b aR r h Q:=
 ⟨I,μ,a6,step⟩
theorem aa9 {b want:Bool} {d:Option Nat} {f:FuncId} {args:List aW} {rs:List Nat} {os:List bs} {D:Option jv} {aR:List iL} {r:bA} {h:ah} {Q:en->bA->ah->Prop} (v:V)
 (bB:(b == want)=true->ff P f (aW.fC (r.trim rs) args) h v h)
 (H:bG P (.os (jq D r h (V.opt (b == want) v)) os::aR) .normal (r.set d (V.opt (b == want) v)) h Q):ha P (.bool b) want d (.call f args) rs D os aR r h Q:=by
 have:=aa8 (P:=P) (c:=true) (b:=b) (want:=want) (d:=d) (f:=f) (args:=args) (rs:=rs) (D:=D) (os:=os) (aR:=aR) (r:=r) (h:=h) (Q:=Q) v;simp only [V.opt,anC,aoC] at this;exact this bB H
theorem Ea {b:Bool} {d:Option Nat} {f:FuncId} {args:List aW} {rs:List Nat} {os:List bs} {D:Option jv} {aR:List iL} {r:bA} {h:ah} {Q:en->bA->ah->Prop} (v:V)
 (bB:(!b)=true->ff P f (aW.fC (r.trim rs) args) h v h)
 (H:bG P (.os (jq D r h (V.opt (!b) v)) os::aR) .normal (r.set d (V.opt (!b) v)) h Q):ha P (.bool b) false d (.call f args) rs D os aR r h Q:=by
 refine aa9 v ?_ ?_<;>rw [beq_false]<;>assumption
def V.toN:V->Nat
 | .int _ n=>n.toNat
 | _=>0
theorem ak1 (k:IntKind) (n:Int):V.toN (.int k n)=n.toNat:=rfl
theorem ey {f:FuncId} {args:List V} {d:Option Nat} {os:List bs} {D:Option jv} {aR:List iL} {r:bA} {h:ah} {Q:en->bA->ah->Prop} {v:V}
 (c:ff P f args h v h) (H:bG P (.os (jq D r h v) os::aR) .normal (r.set d v) h Q):nW P f args d D os aR r h Q:=⟨v,h,c,H⟩
theorem bq {f:FuncId} {args:List V} {d:Option Nat} {os:List bs} {D:Option jv} {aR:List iL} {r:bA} {h:ah} {Q:en->bA->ah->Prop} {K:V->ah->Prop}
 (c:b8 P f args h K) (H:∀v ab,K v ab->bG P (.os (jq D r h v) os::aR) .normal (r.set d v) ab Q):nW P f args d D os aR r h Q:=c.mono H
structure Ext (h ab:ah):Prop where
 next:h.next<=ab.next
 get:∀b,Old h b->ab.get b=h.get b
theorem Ext.refl (h:ah):Ext h h:=⟨anD _,fun _ _=>rfl⟩
theorem Ext.cJ {h ab:ah} (e:Ext h ab) {b:aU} (aj:Old h b):Old ab b:=ao3 aj e.next
theorem Ext.trans {h ab lZ:ah} (e:Ext h ab) (dL:Ext ab lZ):Ext h lZ:=
 ⟨aol e.next dL.next,fun b aj=>(dL.get b (e.cJ aj)).trans (e.get b aj)⟩
theorem Ext.new {h ab:ah} (e:Ext h ab) (k:cn):Ext h (ab.new k):=
 ⟨Nat.le_succ_of_le e.next,fun b aj=>by rw [jC,anE (fun q=>(Kr (h:=h) aj e.next) ▸ q)];exact e.get b aj⟩
theorem Ext.set {h ab:ah} (e:Ext h ab) {i:Nat} (au:h.next<=i) (k:cn):Ext h (ab.set (aD i) k):=
 ⟨e.next,fun b aj=>by rw [fh,anE (fun q=>(Kr (h:=h) aj au) ▸ q)];exact e.get b aj⟩
theorem Ext.rd {h ab:ah} (e:Ext h ab) {b:aU} (aj:Old h b) {ai:List V} (H:nQ h b ai):nQ ab b ai:=by unfold nQ at H ⊢;rw [e.get b aj];exact H
def i_ (h:ah) (b:aU) (off:Nat) (ai:List V):Prop:=Old h b/\∃us,nQ h b us/\off+ai.length<=us.length/\(us.drop off).take ai.length=ai
theorem i_.ext {h ab:ah} (e:Ext h ab) {b:aU} {off:Nat} {ai:List V} (H:i_ h b off ai):i_ ab b off ai:=by obtain ⟨a6,us,J,ad,aC⟩:=H;exact ⟨e.cJ a6,us,e.rd a6 J,ad,aC⟩
theorem i_.ep {h:ah} {b:aU} {off:Nat} {ai:List V} (H:i_ h b off ai) {i:Nat} (au:i<ai.length):jL (h.get b) (off+i)=some ai[i]:=by
 obtain ⟨_,us,J,ad,aC⟩:=H;rw [J.ep,anv (by omega)];congr 1;have:((us.drop off).take ai.length)[i]? =ai[i]? :=by rw [aC]
 rw [aox au,aoJ,anv (by omega),anv au] at this;simpa using this
theorem i_.jM {h:ah} {b:aU} {off:Nat} {ai:List V} (H:i_ h b off ai) {i n:Nat} (au:i+n<=ai.length):o0 n (h.get b) (off+i)=some (.agg ((ai.drop i).take n)):=by
 obtain ⟨_,us,J,ad,aC⟩:=H;rw [J.jM,anL (by omega)];congr 2;have:(((us.drop off).take ai.length).drop i).take n=(ai.drop i).take n:=by rw [aC]
 rw [<-this,List.drop_take,aoK,List.take_take];congr 1;omega
def e3 (h:ah) (size:Nat) (v:V) (n:Nat) (ai:List V):Prop:=
 ai.length=n * size/\match v with
  | .cr=>n=0
  | .slice b off len _=>len=n/\i_ h b off ai
  | .et b off len _=>len=n/\i_ h b off ai
  | .gV _ _ _ _=>n=0
  | _=>False
theorem e3.ext {h ab:ah} (e:Ext h ab) {size:Nat} {v:V} {n:Nat} {ai:List V} (H:e3 h size v n ai):e3 ab size v n ai:=by refine ⟨H.1,?_⟩;have cN:=H.2;cases v<;>simp only at cN ⊢<;>first | exact cN | exact ⟨cN.1,cN.2.ext e⟩
theorem e3.len {h:ah} {size:Nat} {v:V} {n:Nat} {ai:List V} (H:e3 h size v n ai):mb v=some (.int .i64 n):=by
 have cN:=H.2;cases v<;>simp only at cN<;>first
  | (rw [<-cN.1];rfl)
  | (subst cN;rfl)
  | (exact cN.elim)
theorem e3.dj {h:ah} {size:Nat} {v:V} {n:Nat} {ai:List V} (H:e3 h size v n ai) {k:IntKind} {i:Nat} (au:i<n):
 ∃b off,iD size v (.int k i)=some (.ptr b (off+i * size))/\i_ h b off ai:=by
 have cN:=H.2;cases v<;>simp only at cN<;>first
  | omega
  | (exact cN.elim)
  | skip
 . rename_i b off len cap;obtain ⟨rfl,J⟩:=cN;refine ⟨b,off,?_,J⟩;rw [Jx,anL (by omega)];simp
 . rename_i b off len cap;obtain ⟨rfl,J⟩:=cN;refine ⟨b,off,?_,J⟩;rw [Jw,anL (by omega)];simp
end
structure Mod (M:aU->Prop) (h ab:ah):Prop where
 next:h.next<=ab.next
 get:∀b,Old h b->¬M b->ab.get b=h.get b
theorem Mod.refl (M:aU->Prop) (h:ah):Mod M h h:=⟨anD _,fun _ _ _=>rfl⟩
theorem Mod.cJ {M:aU->Prop} {h ab:ah} (e:Mod M h ab) {b:aU} (aj:Old h b):Old ab b:=ao3 aj e.next
theorem Mod.trans {M:aU->Prop} {h ab lZ:ah} (e:Mod M h ab) (dL:Mod M ab lZ):Mod M h lZ:=
 ⟨aol e.next dL.next,fun b aj hm=>(dL.get b (e.cJ aj) hm).trans (e.get b aj hm)⟩
theorem Mod.mono {M xL:aU->Prop} {h ab:ah} (e:Mod M h ab) (hm:∀b,Old h b->M b->xL b):Mod xL h ab:=
 ⟨e.next,fun b aj aX=>e.get b aj fun q=>aX (hm b aj q)⟩
theorem Mod.new {M:aU->Prop} {h ab:ah} (e:Mod M h ab) (k:cn):Mod M h (ab.new k):=
 ⟨Nat.le_succ_of_le e.next,fun b aj hm=>by rw [jC,anE (fun q=>(Kr (h:=h) aj e.next) ▸ q)];exact e.get b aj hm⟩
theorem Mod.set {M:aU->Prop} {h ab:ah} (e:Mod M h ab) {b:aU} (aj:Old h b->M b) (k:cn):Mod M h (ab.set b k):=
 ⟨e.next,fun bV gr hm=>by
   rw [fh];by_cases q:b=bV
   . subst q;exact absurd (aj gr) hm
   . rw [anE q];exact e.get bV gr hm⟩
theorem Ext.mod {h ab:ah} (e:Ext h ab) (M:aU->Prop):Mod M h ab:=⟨e.next,fun b aj _=>e.get b aj⟩
theorem Ext.me {h ab lZ:ah} (e:Ext h ab) {M:aU->Prop} (m:Mod M ab lZ) (hm:∀b,M b->h.next<=cY b):Ext h lZ:=
 ⟨aol e.next m.next,fun b aj=>by
   have l6:¬M b:=fun q=>by have:=hm b q;unfold Old at aj;omega
   exact (m.get b (e.cJ aj) l6).trans (e.get b aj)⟩
theorem Mod.at {M:aU->Prop} {h ab:ah} (e:Mod M h ab) {b:aU} {off:Nat} {ai:List V} (H:i_ h b off ai) (hm:¬M b):i_ ab b off ai:=by obtain ⟨a6,us,J,ad,aC⟩:=H;refine ⟨e.cJ a6,us,?_,ad,aC⟩;unfold nQ at J ⊢;rw [e.get b a6 hm];exact J
theorem hE {h:ah} {i:Nat} (au:i<h.next):Old h (aD i):=by unfold Old;rw [ee];exact au
theorem Ce {h:ah} {b:aU} {i:Nat} (aj:Old h b) (au:h.next<=i):(b=aD i)=False:=by apply anA;intro e;unfold Old at aj;rw [e,ee] at aj;omega
def V.bh:V->aU->Prop
 | .slice b _ _ _,bV=>bV=b
 | .et b _ _ _,bV=>bV=b
 | _,_=>False
theorem e3.one {h:ah} {size:Nat} {v:V} {n:Nat} {ai:List V} (H:e3 h size v n ai):v.one=true/\v.cells=[v]/\v.fR=true:=by have q:=H.2;cases v<;>simp only at q<;>first | exact ⟨rfl,rfl,rfl⟩ | exact q.elim
theorem e3.mod {M:aU->Prop} {h ab:ah} (e:Mod M h ab) {size:Nat} {v:V} {n:Nat} {ai:List V} (H:e3 h size v n ai) (hm:∀b,v.bh b->¬M b):e3 ab size v n ai:=by refine ⟨H.1,?_⟩;have cN:=H.2;cases v<;>simp only at cN ⊢<;>first | exact cN | exact ⟨cN.1,e.at cN.2 (hm _ rfl)⟩
theorem e3.cJ {h:ah} {size:Nat} {v:V} {n:Nat} {ai:List V} (H:e3 h size v n ai) {b:aU} (aj:v.bh b):Old h b:=by have cN:=H.2;cases v<;>simp only [V.bh] at cN aj<;>first | (exact aj.elim) | (subst aj;exact cN.2.1)
def cZ (B:Nat) (h:ah) (size:Nat) (v:V) (n:Nat) (ai:List V):Prop:=
 ai.length=n * size/\match v with
  | .cr=>n=0
  | .slice b off len cap=>len=n/\B<=cY b/\Old h b/\n<=cap/\cap<=top/\∃us cH st,h.get b=.a_ us cH st/\off+cap * size<=us.length/\(us.drop off).take ai.length=ai
  | .et b off len idx=>len=n/\B<=cY b/\Old h b/\off=0/\idx=0/\∃us st,h.get b=.a_ us size st/\ai.length<=us.length/\us.take ai.length=ai
  | _=>False
theorem cZ.v {B:Nat} {h:ah} {size:Nat} {v:V} {n:Nat} {ai:List V} (H:cZ B h size v n ai):e3 h size v n ai:=by
 obtain ⟨J,ad⟩:=H;refine ⟨J,?_⟩;cases v<;>simp only at ad ⊢<;>first | exact ad | skip
 . obtain ⟨ag,_,av,aJ,_,us,cH,st,bU,cX,ev⟩:=ad;refine ⟨ag,av,us,.inr ⟨cH,st,bU⟩,?_,ev⟩;rw [J];have:=aoj size aJ;omega
 . obtain ⟨ag,_,av,aJ,_,us,st,bU,cX,ev⟩:=ad;subst aJ;exact ⟨ag,av,us,.inr ⟨size,st,bU⟩,by omega,by simpa using ev⟩
theorem cZ.base {B:Nat} {h:ah} {size:Nat} {v:V} {n:Nat} {ai:List V} (H:cZ B h size v n ai) {b:aU} (aj:v.bh b):B<=cY b:=by have cN:=H.2;cases v<;>simp only [V.bh] at cN aj<;>first | (exact aj.elim) | (subst aj;exact cN.2.1)
theorem cZ.mono {B Ly:Nat} {h:ah} {size:Nat} {v:V} {n:Nat} {ai:List V} (H:cZ B h size v n ai) (dz:Ly<=B):cZ Ly h size v n ai:=by refine ⟨H.1,?_⟩;have cN:=H.2;cases v<;>simp only at cN ⊢<;>first | exact cN | exact ⟨cN.1,aol dz cN.2.1,cN.2.2⟩
theorem cZ.mod {M:aU->Prop} {h ab:ah} (e:Mod M h ab) {B size:Nat} {v:V} {n:Nat} {ai:List V} (H:cZ B h size v n ai) (hm:∀b,v.bh b->¬M b):cZ B ab size v n ai:=by
 refine ⟨H.1,?_⟩;have cN:=H.2;cases v<;>simp only at cN ⊢<;>first | exact cN | skip
 . obtain ⟨ag,av,aJ,bU,cX,us,cH,st,ev,hV⟩:=cN;exact ⟨ag,av,e.cJ aJ,bU,cX,us,cH,st,by rw [e.get _ aJ (hm _ rfl)];exact ev,hV⟩
 . obtain ⟨ag,av,aJ,bU,cX,us,st,ev,hV⟩:=cN;exact ⟨ag,av,e.cJ aJ,bU,cX,us,st,by rw [e.get _ aJ (hm _ rfl)];exact ev,hV⟩
theorem cZ.ext {h ab:ah} (e:Ext h ab) {B size:Nat} {v:V} {n:Nat} {ai:List V} (H:cZ B h size v n ai):cZ B ab size v n ai:=
 H.mod (e.mod fun _=>False) fun _ _ q=>q
theorem Sl {h:ah} {size:Nat} {v:V} {n:Nat} {ai:List V} (H:e3 h size v n ai):oo v=some n:=by
 have cN:=H.2;cases v<;>simp only at cN<;>first
  | (rw [<-cN.1];rfl)
  | (subst cN;rfl)
  | (exact cN.elim)
theorem xg {h:ah} {b:aU} {off size n:Nat} {ai:List V} (H:i_ h b off ai) (aw:ai.length=n * size):pT h size b off n=some ai:=by obtain ⟨_,us,J,ad,aC⟩:=H;unfold pT;rw [J.pQ,show Nat.ble (off+n * size) us.length=true from by rw [anS];omega,Ec us _ off (by omega),<-aw,aC];rfl
theorem akv {h:ah} {size:Nat} {v:V} {n:Nat} {ai:List V} (H:e3 h size v n ai):rZ h size v n=some ai:=by
 obtain ⟨J,ad⟩:=H;cases v<;>simp only at ad<;>first
  | (exact ad.elim)
  | (obtain ⟨_,aC⟩:=ad;exact xg aC J)
  | (subst ad
     have:ai=[]:=aog (by omega);subst this;rfl)
theorem cZ.grown {B:Nat} {h:ah} {size:Nat} {ai:List V} {n:Nat} {st:Bool} (aw:ai.length=n * size) (dz:B<=h.next):cZ B (h.new (.a_ ai size st)) size (.et (aD h.next) 0 n 0) n ai:=
 ⟨aw,rfl,by rw [ee];exact dz,S_,rfl,rfl,ai,st,jD _,anD _,ao8⟩
theorem Wx {h:ah} {size:Nat} {s x:V} {m:Nat} {ai:List V} (cN:e3 h size x m ai) (hm:m<=top):jz size s x h=(match s with
 | .cr=>tz size m ai h
 | .slice b off len cap=>tx size b off len cap m ai h
 | .et b off len idx=>tw size b off len idx m ai h
 | _=>.fail):=by
 unfold jz;rw [Sl cN];simp only;rw [akv cN];simp only;rw [show Nat.ble m top=true from by rw [anS];exact hm];rfl
theorem K8 (A:List V) (o:Nat) (W:List V) (h:o+W.length<=A.length) (q:Nat):(iw A o W)[q]? =if q<o then A[q]? else if q<o+W.length then W[q-o]? else A[q]? :=by
 have aw:(A.take o).length=o:=by rw [aod];omega
 unfold iw;rw [anG];by_cases bW:q<o
 . rw [anL bW,anX (by omega),aox bW]
 . rw [anE bW,anW (by omega),aw];by_cases cu:q<o+W.length
   . rw [anL cu,anX (by omega)]
   . rw [anE cu,anW (by omega),aoJ];congr 1;omega
theorem UH (A:List V) (o j:Nat) (L W:List V) (dJ:o+L.length<=A.length) (cB:(A.drop o).take L.length=L) (bI:j+W.length<=L.length):((iw A (o+j) W).drop o).take L.length=iw L j W:=by
 apply List.ext_getElem?;intro q;have aw:((A.drop o).take L.length)[q]? =L[q]? :=by rw [cB]
 rw [K8 L j W bI];by_cases aq:q<L.length
 . rw [aox aq,aoJ,K8 A (o+j) W (by omega)];rw [aox aq,aoJ] at aw;by_cases bW:q<j
   . rw [anL (by omega),anL bW,aw]
   . rw [anE (by omega),anE bW];by_cases cu:q<j+W.length
     . rw [anL (by omega),anL cu];congr 1;omega
     . rw [anE (by omega),anE cu,aw]
 . rw [List.getElem?_take_eq_none (by omega),anE (by omega),anE (by omega),an3 (by omega)]
theorem Au {B:Nat} {h:ah} {size:Nat} {s x:V} {n m:Nat} {us ai:List V} (cx:1<=size) (H1:cZ B h size s n us) (cN:e3 h size x m ai) (dz:B<=h.next) (hlen:(n+m) * size<=top) (a1:fi ai=true):
 ∃v ab,jz size s x h=.val v ab/\cZ B ab size v (n+m) (us++ai)/\Mod s.bh h ab/\∀b,v.bh b->s.bh b\/h.next<=cY b:=by
 have l6:n+m<=top:=aol (Nat.le_mul_of_pos_right _ cx) hlen;have iO:=H1.1;have kU:=cN.1;have bK:(us++ai).length=(n+m) * size:=by rw [anw,iO,kU,aor]
 rw [Wx cN (by omega)];have ad:=H1.2;cases s<;>simp only at ad ⊢<;>try (exact ad.elim)
 case cr=>
  subst ad;have:us=[]:=aog (by omega);subst this;unfold tz;by_cases hm:m=0
  . subst hm;have:ai=[]:=aog (by omega);subst this;exact ⟨.cr,h,rfl,⟨by simp,rfl⟩,Mod.refl _ _,fun b aj=>.inl aj⟩
  . rw [show Nat.beq m 0=false from by rw [<-aof,an6];exact hm];simp only [anN];rw [wY (by rw [kU];simpa using hlen) cx];refine ⟨_,_,rfl,?_,(Mod.refl _ _).new _,fun b aj=>.inr (by rw [show b=aD h.next from aj,ee];exact anD _)⟩;have:=cZ.grown (B:=B) (h:=h) (size:=size) (ai:=ai) (n:=m) (st:=false) kU dz;simpa using this
 case slice b off len cap=>
  obtain ⟨rfl,av,aJ,bU,cX,hW,cH,st,ev,hV,iW⟩:=ad;unfold tx;by_cases ao:len+m<=cap
  . rw [show Nat.ble (len+m) cap=true from by rw [anS];exact ao];simp only [anC];have fs:off+len * size+ai.length<=hW.length:=by
     have:=aoj size ao;rw [aor] at this;rw [kU];omega
    rw [Own.lay (ai:=hW) (cH:=cH) (st:=st) ev fs a1];refine ⟨_,_,rfl,⟨bK,rfl,av,aJ,ao,cX,_,cH,st,fh _ _ _ |>.trans (anL rfl),?_,?_⟩,(Mod.refl (V.bh (.slice b off len cap)) h).set (fun _=>rfl) _,fun bV aj=>.inl aj⟩
    . rw [pS _ _ _ fs];exact hV
    . rw [anw];unfold iw;have eB:off+us.length<=hW.length:=by rw [iO];omega
      have al:hW.take (off+len * size)=hW.take off++us:=by rw [<-iO,List.take_add,iW]
      rw [al,anG,anG,List.drop_append,an5 (by rw [aod];omega),anP];rw [show off - (hW.take off).length=0 from by rw [aod];omega,aok];rw [<-anG,apx (by rw [anw])]
  . rw [show Nat.ble (len+m) cap=false from by rw [<-aof,anS];exact ao];simp only [anN];rw [show (Nat.ble (len+m) top&&Nat.ble cap top)=true from by simp only [anu,anS];exact ⟨l6,cX⟩];simp only [anC];have vS:i_ h b off us:=⟨aJ,hW,.inr ⟨cH,st,ev⟩,by rw [iO];have:=aoj size bU;omega,iW⟩;rw [xg vS iO];simp only;rw [wY (by rw [bK];exact hlen) cx];exact ⟨_,_,rfl,cZ.grown bK dz,(Mod.refl _ _).new _,fun b aj=>.inr (by rw [show b=aD h.next from aj,ee];exact anD _)⟩
 case et b off len idx=>
  obtain ⟨rfl,av,aJ,rfl,rfl,hW,st,ev,hV,iW⟩:=ad;unfold tw;by_cases hm:m=0
  . subst hm;have:ai=[]:=aog (by omega);subst this;exact ⟨_,h,rfl,⟨bK,rfl,av,aJ,rfl,rfl,hW,st,ev,by simpa using hV,by simpa using iW⟩,Mod.refl _ _,fun b aj=>.inl aj⟩
  . rw [show Nat.beq m 0=false from by rw [<-aof,an6];exact hm];simp only [anN];rw [ev];simp only [cn.a_,cn.on];rw [show (Nat.beq size size&&(Nat.ble (len+m) top&&fi ai)&&Nat.beq 0 (0 * size))=true from by
     simp only [anu,an6,anS]
     exact ⟨⟨trivial,l6,a1⟩,by omega⟩]
    simp only [anC];have vS:i_ h b 0 us:=⟨aJ,hW,.inr ⟨size,st,ev⟩,by omega,by simpa using iW⟩;rw [xg vS iO];simp only;rw [wY (by rw [bK];exact hlen) cx];exact ⟨_,_,rfl,cZ.grown (h:=h.set b .dead) bK dz,((Mod.refl (V.bh (.et b 0 len 0)) h).set (fun _=>rfl) _).new _,fun bV aj=>.inr (by rw [show bV=aD h.next from aj,ee];exact anD _)⟩
theorem cZ.put {B:Nat} {h:ah} {size:Nat} {v:V} {n:Nat} {ai:List V} (H:cZ B h size v n ai) {i:Nat} (au:i<n) {k:IntKind} {y:V} (bc:y.cells.length=size) (a1:fi y.cells=true):
 ∃b off ab,iD size v (.int k i)=some (.ptr b (off+i * size))/\v.bh b/\r0 size h (.ptr b (off+i * size)) y=some ab/\cZ B ab size v n (iw ai (i * size) y.cells)/\Mod v.bh h ab:=by
 obtain ⟨J,ad⟩:=H;have aH:i * size+size<=n * size:=by have:=aoj size (show i+1<=n from au);rw [aor] at this;omega
 cases v<;>simp only at ad<;>try (first | omega | exact ad.elim)
 case slice b off len cap=>
  obtain ⟨rfl,av,aJ,bU,cX,hW,cH,st,ev,hV,iW⟩:=ad;have ao:=aoj size bU;have fs:off+i * size+y.cells.length<=hW.length:=by rw [bc];omega
  refine ⟨b,off,_,?_,rfl,Own.store (ai:=hW) (cH:=cH) (st:=st) ev bc (by rw [bc] at fs;exact fs) a1,⟨?_,rfl,av,aJ,bU,cX,_,cH,st,fh _ _ _ |>.trans (anL rfl),?_,?_⟩,(Mod.refl (V.bh (.slice b off len cap)) h).set (fun _=>rfl) _⟩
  . rw [Jx,anL (by omega)];simp
  . rw [pS _ _ _ (by rw [bc,J];omega)];exact J
  . rw [pS _ _ _ fs];exact hV
  . rw [pS _ _ _ (by rw [bc,J];omega)];exact UH hW off (i * size) ai y.cells (by rw [J];omega) iW (by rw [bc,J];omega)
 case et b off len idx=>
  obtain ⟨rfl,av,aJ,rfl,rfl,hW,st,ev,hV,iW⟩:=ad;have fs:i * size+y.cells.length<=ai.length:=by rw [bc,J];omega
  have Bz:0+i * size+y.cells.length<=hW.length:=by omega
  refine ⟨b,0,_,?_,rfl,Own.store (ai:=hW) (cH:=size) (st:=st) ev bc (by rw [bc] at Bz;exact Bz) a1,⟨?_,rfl,av,aJ,rfl,rfl,_,st,fh _ _ _ |>.trans (anL rfl),?_,?_⟩,(Mod.refl (V.bh (.et b 0 len 0)) h).set (fun _=>rfl) _⟩
  . rw [Jw,anL (by omega)];simp
  . rw [pS _ _ _ fs];exact J
  . rw [pS _ _ _ fs,pS _ _ _ Bz];exact hV
  . rw [pS _ _ _ fs];have:=UH hW 0 (i * size) ai y.cells (by omega) (by simpa using iW) fs;simpa using this
theorem aiJ (r:bA):aW.opt r none=none:=(rfl)
theorem aiK (r:bA) (x:aW):aW.opt r (some x)=some (x.aV r):=(rfl)
theorem xX {k:IntKind} {m d y:Nat} (h:m<=y):bound (some (.int k (m:Int))) d y=some m:=by simp only [bound,V.e0,pE];rw [show (decide ((0:Int)<=(m:Int))&&decide ((m:Int)<=(y:Int)))=true from by simp;omega];simp
theorem vu (d y:Nat):bound none d y=some d:=rfl
theorem e3.cut {h:ah} {size:Nat} {v:V} {n:Nat} {ai:List V} (H:e3 h size v n ai) {k bu:IntKind} {bQ au:Nat} (J:bQ<=au) (ad:au<=n) (lz lk:Option V)
 (eB:lz=some (.int k bQ)\/lz=none/\bQ=0) (ih:lk=some (.int bu au)\/lk=none/\au=n) (lf:∀b off l c,v=.slice b off l c->l<=c):
 ∃c_,gN size v lz lk none=some c_/\e3 h size c_ (au-bQ) ((ai.drop (bQ * size)).take ((au-bQ) * size))/\∀b,c_.bh b->v.bh b:=by
 obtain ⟨ag,av⟩:=H;have bK:((ai.drop (bQ * size)).take ((au-bQ) * size)).length=(au-bQ) * size:=by rw [aod,an1,ag];have al:=aoj size J;have aN:=aoj size ad;rw [Nat.sub_mul];omega
 have pd:∀y,bQ<=y->bound lz 0 y=some bQ:=by
  intro y bc;rcases eB with rfl | ⟨rfl,rfl⟩
  . exact xX bc
  . rfl
 have q8:∀d y,n=d->n<=y->bound lk d y=some au:=by
  intro d y aZ bc;rcases ih with rfl | ⟨rfl,rfl⟩
  . exact xX (by omega)
  . rw [vu,aZ]
 have piece:∀(b:aU) (off:Nat),i_ h b off ai->i_ h b (off+bQ * size) ((ai.drop (bQ * size)).take ((au-bQ) * size)):=by
  rintro b off ⟨bP,us,a2,a3,a4⟩;have al:=aoj size J;have aN:=aoj size ad;refine ⟨bP,us,a2,?_,?_⟩
  . rw [bK,Nat.sub_mul];omega
  . rw [bK,<-aoK];have:(us.drop off).drop (bQ * size)=(((us.drop off).take ai.length).drop (bQ * size))++(us.drop off).drop ai.length:=by
     rw [<-List.drop_append_of_le_length (by rw [aod,an1];omega),ao1]
    rw [this,a4,List.take_append_of_le_length (by rw [an1,ag,Nat.sub_mul];omega)]
 cases v<;>simp only at av<;>try (exact av.elim)
 case cr=>
  subst av;obtain rfl:au=0:=by omega
  obtain rfl:bQ=0:=by omega
  refine ⟨.cr,?_,⟨bK,rfl⟩,fun b aj=>aj⟩;simp only [gN,zD,q8 0 0 rfl (anD _),pd 0 (anD _)]
 case slice b off len cap=>
  obtain ⟨rfl,aJ⟩:=av;have ao:=lf b off len cap rfl;have e:gN size (.slice b off len cap) lz lk none=some (.slice b (bif Nat.beq cap bQ then off else off+bQ * size) (au-bQ) (cap-bQ)):=by simp only [gN,rY,q8 len cap rfl ao,pd au J]
  rw [e];refine ⟨_,rfl,⟨bK,rfl,?_⟩,fun bV aj=>aj⟩;cases aj:Nat.beq cap bQ with
  | false=>exact piece b off aJ
  | true=>
    rw [an6] at aj;obtain rfl:au=bQ:=by omega
    obtain ⟨bP,us,a2,a3,a4⟩:=aJ;refine ⟨bP,us,a2,?_,?_⟩<;>simp;omega
 case et b off len idx=>
  obtain ⟨rfl,aJ⟩:=av;by_cases aH:bQ<len
  . have e:gN size (.et b off len idx) lz lk none=some (.et b (off+bQ * size) (au-bQ) (idx+bQ)):=by
     simp only [gN,s_,q8 len len rfl (anD _),pd au J];rw [show Nat.blt bQ len=true from by rw [aoa];exact aH];rfl
    rw [e];exact ⟨_,rfl,⟨bK,rfl,piece b off aJ⟩,fun bV aj=>aj⟩
  . have e:gN size (.et b off len idx) lz lk none=some (.gV b off (off+bQ * size) (idx+bQ)):=by
     simp only [gN,s_,q8 len len rfl (anD _),pd au J];rw [show Nat.blt bQ len=false from by rw [<-aof,aoa];exact aH];rfl
    rw [e];exact ⟨_,rfl,⟨bK,by omega⟩,fun bV aj=>aj.elim⟩
 case gV b off mi idx=>
  subst av;obtain rfl:au=0:=by omega
  obtain rfl:bQ=0:=by omega
  refine ⟨.gV b off mi idx,?_,⟨bK,rfl⟩,fun b aj=>aj⟩;simp only [gN,zE,q8 0 0 rfl (anD _),pd 0 (anD _)]
theorem ahV (b:aU) (o:Nat):uD (.ptr b o)=some (.ptr b o):=rfl
theorem ahF (k bu:IntKind) (a b:Int):lF (fun b a=>!Int.leB a b) [.int k a,.int bu b]=some (.int k (if b<a then b else a)):=by
 simp only [lF,w4,V.e0,pE];by_cases h:b<a
 . rw [anL h];have:¬a<=b:=by omega
   simp [this]
 . rw [anE h];have:a<=b:=by omega
   simp [this]
theorem Kb (k bu:IntKind) (a b:Int):lF (fun b a=>!Int.leB b a) [.int k a,.int bu b]=some (.int k (if a<b then b else a)):=by
 simp only [lF,w4,V.e0,pE];by_cases h:a<b
 . rw [anL h];have:¬b<=a:=by omega
   simp [this]
 . rw [anE h];have:b<=a:=by omega
   simp [this]
end
section
open Go Go.RowKit
set_option linter.defProp false
variable [Lay]
end
section
open Go Go.RowKit
variable [Lay]
theorem ZA {P:Program} {aR:List iL} {r:bA} {h:ah} {Q:en->bA->ah->Prop} {a b:bD}:xZ P (.bool true) a b aR r h Q=bG P (.c a::aR) .normal r h Q:=by rw [OY];simp
theorem Zz {P:Program} {aR:List iL} {r:bA} {h:ah} {Q:en->bA->ah->Prop} {a b:bD}:xZ P (.bool false) a b aR r h Q=bG P (.c b::aR) .normal r h Q:=by rw [OY];simp
theorem Hk (a b:List UInt8):pc a b=decide (a=b):=by rw [vs,aon];simp
theorem Hl (k:IntKind) (b:Int) (d y:Nat):bound (some (.int k b)) d y=if 0<=b/\b<=(y:Int) then some b.toNat else none:=by simp only [bound,V.e0,pE];by_cases J:0<=b<;>by_cases ad:b<=(y:Int)<;>simp [J,ad]
theorem ako (s:List UInt8) (k:IntKind) (b:Int):mV (.str s) none (some (.int k b)) none=if 0<=b/\b<=(s.length:Int) then some (.str (s.take b.toNat)) else none:=by
 simp only [mV,Hl];by_cases h:0<=b/\b<=(s.length:Int)
 . simp only [h,apl,an7,bound,aok,apF]
 . simp only [h,an4]
theorem akp (s:List UInt8) (k:IntKind) (a:Int):mV (.str s) (some (.int k a)) none none=if 0<=a/\a<=(s.length:Int) then some (.str (s.drop a.toNat)) else none:=by
 simp only [mV,vu,Hl];by_cases h:0<=a/\a<=(s.length:Int)
 . simp only [h,apl,an7];rw [aos (by rw [an1];omega)]
 . simp only [h,an4]
theorem UD (s:List UInt8) (k bu:IntKind) (a b:Int):mV (.str s) (some (.int k a)) (some (.int bu b)) none=if 0<=a/\a<=b/\b<=(s.length:Int) then some (.str ((s.drop a.toNat).take (b.toNat-a.toNat))) else none:=by
 simp only [mV,Hl];by_cases h:0<=b/\b<=(s.length:Int)
 . simp only [h,apl,an7];by_cases ad:0<=a/\a<=b
   . have:0<=a/\a<=((b.toNat:Nat):Int):=by omega
     simp only [this,apl,an7,ad,h]
   . have aC:¬(0<=a/\a<=((b.toNat:Nat):Int)):=by omega
     have bn:¬(0<=a/\a<=b/\b<=(s.length:Int)):=by omega
     have b0:¬(0<=a/\a<=b/\True):=fun q=>ad ⟨q.1,q.2.1⟩;rw [anE b0,anE aC]
 . have bn:¬(0<=a/\a<=b/\b<=(s.length:Int)):=by omega
   simp only [h,bn,an4]
theorem akn (s:List UInt8):mV (.str s) none none none=some (.str s):=by simp only [mV,vu,aok,apF,ao8]
section
variable {P:Program}
theorem aj' (a b:List UInt8):(dV.str .eql).run P (.str a) (.str b)=some (.bool (decide (a=b))):=by simp only [dV.run,tc,r1,Hk]
theorem aj9 (a b:List UInt8):(dV.str .add).run P (.str a) (.str b)=if a.length+b.length<=top then some (.str (a++b)) else none:=by
 simp only [dV.run,tc,Gb];by_cases h:a.length+b.length<=top
 . rw [anL h,show Nat.ble (a.length+b.length) top=true from by rw [anS];exact h];rfl
 . rw [anE h,show Nat.ble (a.length+b.length) top=false from by rw [<-aof,anS];exact h];rfl
theorem aj_ (s:List UInt8) (k:IntKind) (i:Int):sR.run (.str s) (.int k i)=if 0<=i/\i < (s.length:Int) then some (.int .u8 (((s[i.toNat]?).getD 0).toNat:Int)) else none:=by
 simp only [sR,V.e0,pE];by_cases J:0<=i
 . simp only [J,apk,anC,api];by_cases ad:i < (s.length:Int)
   . rw [anL ad,anv (by omega)];rfl
   . rw [anE ad,an3 (by omega)]
 . simp only [J,apo,anN,apK,an4]
theorem aka (a b:List UInt8):(dV.str .neq).run P (.str a) (.str b)=some (.bool (!decide (a=b))):=by simp only [dV.run,tc,r1,Hk]
end
end
section
open Go Go.RowKit
set_option linter.defProp false
def aly:=
 And.intro @afd<|And.intro @aer<|And.intro @afl<|And.intro @aes<|And.intro @afi<|And.intro @afm<|And.intro @afj<|And.intro @aeK<|And.intro @aeB<|And.intro @aey<|And.intro @aez<|And.intro @ae5<|And.intro @aeI<|And.intro @afg<|And.intro @ae_<|And.intro @af1<|And.intro @afh<|And.intro @af6<|And.intro @aew<|And.intro @afz<|And.intro @aeX<|And.intro @afR<|And.intro @aeY<|And.intro @afS<|And.intro @afe<|And.intro @af4<|And.intro @aeq<|And.intro @afw<|And.intro @afr<|And.intro @af_<|And.intro @aeP<|And.intro @afL<|And.intro @aeU<|And.intro @afO<|And.intro @afo<|And.intro @af9<|And.intro @afn<|And.intro @af8<|And.intro @aeM<|@afI
def alz:=
 And.intro @aeN<|And.intro @afJ<|And.intro @aeO<|And.intro @afK<|And.intro @aeS<|And.intro @afM<|And.intro @aeT<|And.intro @afN<|And.intro @aeW<|And.intro @afQ<|And.intro @aeV<|And.intro @afP<|And.intro @ae4<|And.intro @afX<|And.intro @aeL<|And.intro @afH<|And.intro @ae9<|And.intro @af0<|And.intro @afa<|And.intro @af2<|And.intro @aeD<|And.intro @afE<|And.intro @ae1<|And.intro @afV<|And.intro @ae2<|And.intro @afW<|And.intro @aeZ<|And.intro @afT<|And.intro @afc<|And.intro @af3<|And.intro @aeu<|And.intro @afx<|And.intro @aev<|And.intro @afy<|And.intro @afp<|And.intro @af'<|And.intro @ae8<|And.intro @afZ<|And.intro @afs<|@aga
def alA:=
 And.intro @ae7<|And.intro @afY<|And.intro @afk<|And.intro @af7<|And.intro @aff<|And.intro @af5<|And.intro @aeo<|And.intro @afv<|And.intro @aeA<|And.intro @afC<|And.intro @ae0<|And.intro @afU<|And.intro @aeC<|And.intro @afD<|And.intro @aeF<|And.intro @afG<|And.intro @aeE<|And.intro @afF<|And.intro @afA<|And.intro @afB<|And.intro @RR<|And.intro @aex<|@aeH
def alB:=
 And.intro @akG<|And.intro @aks<|And.intro @ZA<|And.intro @Zz<|And.intro @Y5<|And.intro @ajO<|And.intro @Xb<|And.intro @Xa<|And.intro @aiM<|And.intro @aaK<|And.intro @aaJ<|And.intro @Xd<|And.intro @aaw<|And.intro @aav<|And.intro @ai1<|And.intro @aaF<|And.intro @aik<|And.intro @aij<|And.intro @ag3<|And.intro @ag1<|And.intro @ag4<|And.intro @ag2<|And.intro @ag5<|And.intro @Jx<|And.intro @Jw<|And.intro @ZS<|And.intro @aay<|And.intro @aax<|And.intro @ak5<|And.intro @akc<|And.intro @akd<|And.intro @aia<|And.intro @aib<|And.intro @aiL<|And.intro @aiI<|And.intro @alk<|And.intro @alj<|And.intro @W1<|And.intro @W2<|@W3
def alC:=
 And.intro @W4<|And.intro @W0<|And.intro @VL<|And.intro @VN<|And.intro @VM<|And.intro @ak2<|And.intro @ak4<|And.intro @ak3<|And.intro @ad5<|And.intro @ad7<|And.intro @ad6<|And.intro @aen<|And.intro @afq<|And.intro @ae'<|And.intro @aeJ<|And.intro @afb<|And.intro @ae6<|And.intro @ae3<|And.intro @aeR<|And.intro @aeQ<|And.intro @aep<|And.intro @aet<|And.intro @alg<|And.intro @alf<|And.intro @ahg<|And.intro @ahi<|And.intro @Sa<|And.intro @Sb<|And.intro @Se<|And.intro @Sf<|And.intro @akB<|And.intro @agG<|And.intro @jD<|And.intro @jC<|And.intro @fh<|And.intro @s3<|And.intro @gI<|And.intro @o3<|And.intro @ahO<|@Y_
def alD:=
 And.intro @aim<|And.intro @abg<|And.intro @Zd<|And.intro @Td<|And.intro @abk<|And.intro @Zn<|And.intro @aiy<|And.intro @abu<|And.intro @Zi<|And.intro @aiu<|And.intro @abp<|And.intro @Zk<|And.intro @aiw<|And.intro @abr<|And.intro @Zm<|And.intro @aix<|And.intro @abt<|And.intro @Zb<|And.intro @aio<|And.intro @abi<|And.intro @Zo<|And.intro @aiz<|And.intro @abv<|And.intro @Zj<|And.intro @aiv<|And.intro @abq<|And.intro @Zh<|And.intro @ait<|And.intro @abo<|And.intro @Ze<|And.intro @aiq<|And.intro @abl<|And.intro @Za<|And.intro @ain<|And.intro @abh<|And.intro @Zg<|And.intro @ais<|And.intro @abn<|And.intro @Zc<|@aip
def alE:=
 And.intro @abj<|And.intro @Zf<|And.intro @air<|And.intro @abm<|And.intro @Y'<|And.intro @abf<|And.intro @abw<|And.intro @agX<|And.intro @agY<|And.intro @agW<|And.intro @beq_true<|And.intro @beq_false<|And.intro @Bool.not_true<|And.intro @Bool.not_false<|And.intro @aoC<|And.intro @aoz<|And.intro @aop<|And.intro @aoO<|And.intro @Bool.not_not<|And.intro @V.bool.injEq<|And.intro @an8<|And.intro @ao7<|And.intro @akY<|And.intro @akZ<|And.intro @akW<|And.intro @Bool.true_eq_false<|And.intro @anV<|And.intro @ak1<|And.intro @ai9<|And.intro @ai'<|And.intro @WM<|And.intro @WL<|And.intro @WI<|And.intro @WE<|And.intro @ach<|And.intro @acj<|And.intro @aci<|And.intro @WG<|And.intro @WH<|@WJ
def alF:=
 And.intro @WK<|And.intro @SY<|And.intro @alK<|And.intro @Ci<|And.intro @alL<|And.intro @ah4<|And.intro @alM<|And.intro @ah5<|And.intro @alN<|And.intro @ah6<|And.intro @alO<|And.intro @ah7<|And.intro @alP<|And.intro @ah8<|And.intro @alQ<|And.intro @ah9<|And.intro @alR<|And.intro @abb<|And.intro @aa'<|And.intro @aba<|And.intro @aa_<|And.intro @abc<|And.intro @Bool.or_false<|And.intro @apd<|And.intro @Bool.or_true<|And.intro @Bool.true_or<|And.intro @ahV<|And.intro @ahF<|And.intro @Kb<|And.intro @aiJ<|And.intro @aiK<|And.intro @Wc<|And.intro @Wi<|And.intro @Wj<|And.intro @Wk<|And.intro @Wl<|And.intro @Wm<|And.intro @Wn<|And.intro @Wo<|@Wp
def alG:=
 And.intro @Wb<|And.intro @Wd<|And.intro @We<|And.intro @Wf<|And.intro @Wg<|And.intro @Wh<|And.intro @ako<|And.intro @akp<|And.intro @UD<|And.intro @akn<|And.intro @aj'<|And.intro @aka<|And.intro @aj9<|@aj_
end
section
open Go Go.RowKit
variable [Lay]
theorem xT {B:Nat} {h:ah} {size:Nat} {s:V} {n:Nat} {us cs:List V} (cx:1<=size) (H1:cZ B h size s n us) (dz:B<=h.next) (hlen:(n+1) * size<=top) (hc:cs.length=size) (a1:fi cs=true):
 ∃v ab,jz size s (.slice (aD h.next) 0 1 1) (h.new (.a_ cs 0 false))=.val v ab/\cZ B ab size v (n+1) (us++cs)/\Mod s.bh h ab/\h.next+1<=ab.next/\∀b,v.bh b->s.bh b\/h.next<cY b:=by
 have ar:Ext h (h.new (.a_ cs 0 false)):=(Ext.refl h).new _;have bB:e3 (h.new (.a_ cs 0 false)) size (.slice (aD h.next) 0 1 1) 1 cs:=by refine ⟨by rw [hc];omega,rfl,hE (by rw [gI];omega),cs,.inr ⟨0,false,by rw [jD]⟩,by omega,by simp⟩
 obtain ⟨v,ab,ag,av,aJ,bU⟩:=Au cx (H1.ext ar) bB (by rw [gI];omega) hlen a1;refine ⟨v,ab,ag,av,(ar.mod _).trans aJ,by have:=aJ.next;rw [gI] at this;exact this,fun b aj=>?_⟩;rcases bU b aj with q | q
 . exact .inl q
 . exact .inr (by rw [gI] at q;omega)
theorem U6:∀l:List UInt8,o8 (ea l)=some l
 | []=>rfl
 | c::l=>by have bC:=U6 l;simp only [ea,o8,bC];simp
theorem oQ:∀l:List UInt8,(ea l).length=l.length
 | []=>rfl
 | c::l=>by simp only [ea,anz,oQ l]
theorem vw:∀l m:List UInt8,ea (l++m)=ea l++ea m
 | [],m=>rfl
 | c::l,m=>by simp only [ea,anO,vw l m]
theorem DI:∀l:List UInt8,fi (ea l)=true
 | []=>rfl
 | c::l=>by have bC:=DI l;simp only [ea,fi,bC,Td,aoz]
theorem UM {h:ah} {b:aU} {us:List V} {cH:Nat} {st:Bool} {off:Nat} {l:List UInt8} (an:h.get b=.a_ us cH st) (aw:off+l.length<=us.length) (hu:(us.drop off).take l.length=ea l):uW b off l.length h=.val (.str l) h:=by unfold uW;rw [an];simp only [cn.pQ,cn.a_];rw [show Nat.ble (off+l.length) us.length=true from by rw [anS];exact aw];simp only [anC];rw [Ec us l.length off aw,hu,U6]
theorem AS {B:Nat} {h:ah} {v:V} {n:Nat} {l:List UInt8} (H:cZ B h 1 v n (ea l)):tD.run v h=.val (.str l) h:=by
 have J:=H.1;rw [oQ,ao4] at J;have ad:=H.2;cases v<;>simp only at ad<;>try (exact ad.elim)
 case cr=>
  subst ad;rw [ape] at J;subst J;rfl
 case slice=>
  obtain ⟨ag,av,aJ,bU,cX,us,cH,st,ev,hV,iW⟩:=ad;rw [oQ] at iW;simp only [tD];rw [ag,<-J];exact UM ev (by omega) iW
 case et=>
  obtain ⟨ag,av,aJ,bU,cX,us,st,ev,hV,iW⟩:=ad;rw [oQ] at iW hV;simp only [tD];rw [ag,bU,<-J];exact UM ev (by omega) (by simpa using iW)
def G6 (size:Nat) (s:V) (m:Nat) (ai:List V) (h:ah):a8:=match s with
 | .cr=>tz size m ai h
 | .slice b off len cap=>tx size b off len cap m ai h
 | .et b off len idx=>tw size b off len idx m ai h
 | _=>.fail
theorem WA {B:Nat} {h:ah} {size:Nat} {s x:V} {n m:Nat} {us ai:List V} (cx:1<=size) (H1:cZ B h size s n us) (kU:ai.length=m * size) (abL:jz size s x h=G6 size s m ai h) (dz:B<=h.next) (hlen:(n+m) * size<=top) (a1:fi ai=true):
 ∃v ab,jz size s x h=.val v ab/\cZ B ab size v (n+m) (us++ai)/\Mod s.bh h ab/\∀b,v.bh b->s.bh b\/h.next<=cY b:=by
 have l6:n+m<=top:=aol (Nat.le_mul_of_pos_right _ cx) hlen;have iO:=H1.1;have bK:(us++ai).length=(n+m) * size:=by rw [anw,iO,kU,aor]
 rw [abL];unfold G6;have ad:=H1.2;cases s<;>simp only at ad ⊢<;>try (exact ad.elim)
 case cr=>
  subst ad;have:us=[]:=aog (by omega);subst this;unfold tz;by_cases hm:m=0
  . subst hm;have:ai=[]:=aog (by omega);subst this;exact ⟨.cr,h,rfl,⟨by simp,rfl⟩,Mod.refl _ _,fun b aj=>.inl aj⟩
  . rw [show Nat.beq m 0=false from by rw [<-aof,an6];exact hm];simp only [anN];rw [wY (by rw [kU];simpa using hlen) cx];refine ⟨_,_,rfl,?_,(Mod.refl _ _).new _,fun b aj=>.inr (by rw [show b=aD h.next from aj,ee];exact anD _)⟩;have:=cZ.grown (B:=B) (h:=h) (size:=size) (ai:=ai) (n:=m) (st:=false) kU dz;simpa using this
 case slice b off len cap=>
  obtain ⟨rfl,av,aJ,bU,cX,hW,cH,st,ev,hV,iW⟩:=ad;unfold tx;by_cases ao:len+m<=cap
  . rw [show Nat.ble (len+m) cap=true from by rw [anS];exact ao];simp only [anC];have fs:off+len * size+ai.length<=hW.length:=by
     have:=aoj size ao;rw [aor] at this;rw [kU];omega
    rw [Own.lay (ai:=hW) (cH:=cH) (st:=st) ev fs a1];refine ⟨_,_,rfl,⟨bK,rfl,av,aJ,ao,cX,_,cH,st,fh _ _ _ |>.trans (anL rfl),?_,?_⟩,(Mod.refl (V.bh (.slice b off len cap)) h).set (fun _=>rfl) _,fun bV aj=>.inl aj⟩
    . rw [pS _ _ _ fs];exact hV
    . rw [anw];unfold iw;have eB:off+us.length<=hW.length:=by rw [iO];omega
      have al:hW.take (off+len * size)=hW.take off++us:=by rw [<-iO,List.take_add,iW]
      rw [al,anG,anG,List.drop_append,an5 (by rw [aod];omega),anP];rw [show off - (hW.take off).length=0 from by rw [aod];omega,aok];rw [<-anG,apx (by rw [anw])]
  . rw [show Nat.ble (len+m) cap=false from by rw [<-aof,anS];exact ao];simp only [anN];rw [show (Nat.ble (len+m) top&&Nat.ble cap top)=true from by simp only [anu,anS];exact ⟨l6,cX⟩];simp only [anC];have vS:i_ h b off us:=⟨aJ,hW,.inr ⟨cH,st,ev⟩,by rw [iO];have:=aoj size bU;omega,iW⟩;rw [xg vS iO];simp only;rw [wY (by rw [bK];exact hlen) cx];exact ⟨_,_,rfl,cZ.grown bK dz,(Mod.refl _ _).new _,fun b aj=>.inr (by rw [show b=aD h.next from aj,ee];exact anD _)⟩
 case et b off len idx=>
  obtain ⟨rfl,av,aJ,rfl,rfl,hW,st,ev,hV,iW⟩:=ad;unfold tw;by_cases hm:m=0
  . subst hm;have:ai=[]:=aog (by omega);subst this;exact ⟨_,h,rfl,⟨bK,rfl,av,aJ,rfl,rfl,hW,st,ev,by simpa using hV,by simpa using iW⟩,Mod.refl _ _,fun b aj=>.inl aj⟩
  . rw [show Nat.beq m 0=false from by rw [<-aof,an6];exact hm];simp only [anN];rw [ev];simp only [cn.a_,cn.on];rw [show (Nat.beq size size&&(Nat.ble (len+m) top&&fi ai)&&Nat.beq 0 (0 * size))=true from by
     simp only [anu,an6,anS]
     exact ⟨⟨trivial,l6,a1⟩,by omega⟩]
    simp only [anC];have vS:i_ h b 0 us:=⟨aJ,hW,.inr ⟨size,st,ev⟩,by omega,by simpa using iW⟩;rw [xg vS iO];simp only;rw [wY (by rw [bK];exact hlen) cx];exact ⟨_,_,rfl,cZ.grown (h:=h.set b .dead) bK dz,((Mod.refl (V.bh (.et b 0 len 0)) h).set (fun _=>rfl) _).new _,fun bV aj=>.inr (by rw [show bV=aD h.next from aj,ee];exact anD _)⟩
theorem WB {B:Nat} {h:ah} {s:V} {n:Nat} {us:List V} (t:List UInt8) (H1:cZ B h 1 s n us) (dz:B<=h.next) (hlen:n+t.length<=top):
 ∃v ab,jz 1 s (.str t) h=.val v ab/\cZ B ab 1 v (n+t.length) (us++ea t)/\Mod s.bh h ab/\∀b,v.bh b->s.bh b\/h.next<=cY b:=by
 refine WA (by omega) H1 (by rw [oQ,ao4]) ?_ dz (by omega) (DI t);have aX:Nat.ble t.length top=true:=by rw [anS];omega
 have jZ:rZ h 1 (.str t) t.length=some (ea t):=by simp only [rZ];rw [show Nat.ble t.length t.length=true from by rw [anS];exact anD _,ao8];rfl
 unfold jz G6;simp only [oo];rw [jZ];simp only [aX];rfl
theorem Mod.self {b:aU} {h ab:ah} (e:Mod (fun q=>q=b) h ab) (k:cn):Mod (fun q=>q=b) h (ab.set b k):=e.set (fun _=>rfl) k
theorem Mod.fresh {M:aU->Prop} {h ab:ah} (e:Mod M h ab) {i:Nat} (au:h.next<=i) (k:cn):Mod M h (ab.set (aD i) k):=
 e.set (fun q=>absurd (show cY (aD i)<h.next from q) (by rw [ee];omega)) k
theorem Mod.akX {M N:aU->Prop} {h ad aC:ah} (e:Mod M h ad) (q:Mod N ad aC) (aX:∀b,N b->h.next<=cY b):Mod M h aC:=
 ⟨aol e.next q.next,fun b a1 aj=>by rw [q.get b (e.cJ a1) (fun k=>absurd (show cY b<h.next from a1) (by have:=aX b k;omega)),e.get b a1 aj]⟩
end
section
open Go Go.RowKit
set_option linter.defProp false
variable [Lay]
def aa:=And.intro @aly<|And.intro @alz @alA
def alm:=And.intro @alB<|And.intro @alC<|And.intro @alD<|And.intro @alE<|And.intro @alF @alG
def aln:=And.intro @Option.isSome_some.{0}<|And.intro @aoZ.{0}<|And.intro @an7.{1}<|And.intro @an4.{1}<|And.intro @api<|And.intro @apI<|And.intro @anR.{0}<|And.intro @aov.{0}<|And.intro @anz.{0}<|And.intro @anH.{0}<|
 And.intro @aok.{0}<|And.intro @aoM.{0}<|And.intro @aoL.{0}<|And.intro @List.take_zero.{0}<|And.intro @anO.{0}<|And.intro @anP.{0}<|And.intro @ant.{0}<|And.intro @exists_eq_left'.{1}<|And.intro @aoY.{0}<|
 And.intro @Nat.succ_ne_zero<|And.intro @adS<|And.intro @adR<|And.intro @List.getElem?_nil.{0}<|And.intro @apk<|And.intro @apo<|And.intro @eq_self.{1}<|And.intro @not_true_eq_false<|And.intro @not_false_eq_true<|And.intro @ite_true.{1} @ite_false.{1}
def cm:=And.intro alm (And.intro aln (And.intro @jr.eq_1 (And.intro @jr.eq_2 (And.intro @aW.fC.eq_1 (And.intro @aW.fC.eq_2 (And.intro @pR.eq_1 (And.intro @pR.eq_2 (And.intro @pR.eq_3 (And.intro @over.eq_1 (And.intro @over.eq_2 (And.intro @over.eq_3 (And.intro @fi.eq_1 (@fi.eq_2)))))))))))))
def ae:=And.intro cm (And.intro @en.ends.eq_1 (And.intro @en.ends.eq_2 (And.intro @kt.eq_1 (And.intro @kt.eq_2 (And.intro @kt.eq_3 (And.intro @kt.eq_4 (And.intro @oneOf.eq_1 (And.intro @oneOf.eq_2 top.eq_1))))))))
end
section
open Go Go.RowKit
variable [Lay]
theorem Zs {P:Program} {f:FuncId} (bc:Nat.beq f dy=false) {v:V} (bB:∀E x,x=.bool true->Rel E v x) (ig:∃fn,P.funcs[f]? =some fn/\fn.body.isSome=true) (H:∀w,Lay.ok w->Calls P f #[] w fun e w'=>e=.returned (.bool true)/\Below w.heap.size w w') (h:ah):
 ff P f [] h v h:=by
 refine ⟨fun e=>by subst e;simp at bc,.inl ⟨ig,fun aB E w xs ar s=>?_⟩⟩;simp only [bm] at ar;subst ar;refine (H w (Lay.gw s.laid s.frame)).mono fun e w' q=>?_;obtain ⟨rfl,aj⟩:=q;exact ⟨E,_,rfl,fun _ _ q=>q,bB E _ rfl,s.below aj⟩
def r3 (E:Env) (h:ah) (p:jb):Env:=fun b=>if b=aD h.next then some p else E b
theorem Ve (E:Env) (h:ah) (p:jb):r3 E h p (aD h.next)=some p:=anL rfl
theorem Ll {aB:Fr} {E:Env} {h:ah} {w:World} (s:bd aB E h w) (p:jb):E.le (r3 E h p):=fun b q aq=>by unfold r3;rw [anE (fun e=>by rw [e,s.fresh _ (anD _)] at aq;cases aq)];exact aq
theorem akk {W:World} {E:Env} {h:ah} (s:bd ⟨W,fun _=>none⟩ E h W) (p:jb) (k:cn) (a1:k.own=false) (ay:hl W.heap.size (r3 E h p) W (aD h.next) k):
 bd ⟨W,fun _=>none⟩ (r3 E h p) (h.new k) W:=by
 refine ⟨fun b _=>?_,fun _ _ h=>(by cases h),fun b bV q fH J ad al aN aq=>?_,fun i au=>?_,s.frame,s.laid,fun b q n cs st J al=>by
  rw [jC] at J;by_cases bW:aD h.next=b
  . rw [anL bW] at J;rw [J] at a1;cases a1
  . rw [anE bW] at J;unfold r3 at al;rw [anE (fun e=>bW e.symm)] at al;exact s.base _ _ _ _ _ J al⟩
 . rw [jC];by_cases e:aD h.next=b
   . subst e;rw [anL rfl];exact ay
   . rw [anE e];exact (s.bh b rfl).mono (Ll s p)
 . rw [jC] at J ad;by_cases bW:aD h.next=b
   . rw [anL bW,a1] at J;cases J
   . by_cases cu:aD h.next=bV
     . rw [anL cu,a1] at ad;cases ad
     . rw [anE bW] at J;rw [anE cu] at ad;unfold r3 at al aN;rw [anE (fun e=>bW e.symm)] at al;rw [anE (fun e=>cu e.symm)] at aN;exact s.inj b bV q fH J ad al aN aq
 . rw [gI] at au;unfold r3;rw [anE (fun e=>by have:=lE e;omega)];exact s.fresh i (by omega)
theorem akl {W:World} {E:Env} {h:ah} (s:bd ⟨W,fun _=>none⟩ E h W) {k base cap:Nat} {c:Array Value} {el:TypeId} {b5:Nat × Nat} (ay:W.heap[k]? =some (.cells c el b5)) {ai:List V}
 (ao:base+ai.length<=c.size) (aK:∀i v y,ai[i]? =some v->c[base+i]? =some y->Rel E v y):
 bd ⟨W,fun _=>none⟩ (r3 E h ⟨k,base,cap⟩) (h.new (.ro ai)) W:=by
 refine akk s _ _ rfl ?_;have aH:k<W.heap.size:=by
  by_cases aH:k<W.heap.size
  . exact aH
  . rw [aoX (by omega)] at ay;cases ay
 refine ⟨trivial,⟨k,base,cap⟩,c,el,b5,Ve _ _ _,aH,ay,ao,fun i y au bc=>?_⟩;have:T.get .bad (aD i) (gz .e 0 ai)=ai[i]:=by have:=A3 ai 0 i .e;rw [an8] at this;rw [this,anL au,anv au];rfl
 rw [this];exact Rel.mono (Ll s _) _ _ (aK i _ y (anv au) bc)
end
end Go.Proofs.YtefceblncmdkhaaGreatDoor.bb
