/- The abstract machine and its walks (a verified interpreter of the model's code: plain definitions and lemmas, no condition). Printed by a program from longer texts: names made short. -/
import Derived.Test.YtahfljfikfkpnaaGreatDoorM3
import Derived.IntWalk
set_option linter.unusedSectionVars false
set_option linter.unusedSimpArgs false
set_option linter.unusedVariables false
set_option maxHeartbeats 64000000
noncomputable section
namespace Go.Proofs.YtahfljfikfkpnaaGreatDoor.bf
section
open Go Go.RowKit
variable [Lay]
inductive aW where
 | t (n:Nat)
 | c (v:V)
abbrev a7:=Nat->V
def aW.aS (r:a7):aW->V
 | .t n=>r n
 | .c v=>v
def aW.gh (r:a7):List aW->List V
 | []=>[]
 | x::xs=>x.aS r::aW.gh r xs
def rx:Operand->aW
 | .tmp t=>bif Nat.ble t top then .t t else .c .bad
 | .const v=>.c (iJ v)
 | .func f=>bif Nat.beq f dx then .c .bad else .c (.func f [])
 | .global _=>.c .bad
def l':List Operand->List aW
 | []=>[]
 | x::xs=>rx x::l' xs
def aW.opt (r:a7):Option aW->Option V
 | none=>none
 | some x=>some (x.aS r)
def t_:Option Operand->Option aW
 | none=>none
 | some x=>some (rx x)
inductive fK where
 | int (op:BinOp)
 | str (op:BinOp)
 | shl
 | shr
 | BC (neg:Bool)
 | kP (neg:Bool) (k:Nat)
 | other (op:BinOp) (t:TypeId)
def fK.run (P:Program):fK->V->V->Option V
 | .int op=>(nR op).run
 | .str op=>(ug op).run
 | .shl=>(ys true).run
 | .shr=>(ys false).run
 | .BC neg=>(kz neg rY).run
 | .kP neg k=>(kz neg (ir k)).run
 | .other op t=>(s_ P op t).run
inductive uA where
 | int (k:IntKind)
 | bytes
 | str
 | other (s d:TypeId)
def uA.run (P:Program):uA->V->ae->a8
 | .int k=>fun x h=>x.fg .fail fun _ n=>.val (.int k (k.wrap n)) h
 | .bytes=>Bs.run
 | .str=>uU.run
 | .other s d=>(rV P s d).run
inductive od where
 | int | str | bool
def od.eq:od->eK
 | .int=>kO
 | .str=>w2
 | .bool=>rY
inductive DS where
 | arr (n:Nat)
 | str
 | slice
 | map
inductive G where
 | bad
 | fz (x:aW)
 | pick (c a b:aW)
 | new (z:List V)
 | box (x:aW)
 | build (z:List V) (bC:List (Nat × Nat × aW))
 | kx (len size:Nat) (z:List V) (bC:List (Nat × Nat × aW))
 | hc (x:aW)
 | iH (size:Nat) (x:aW)
 | st (size:Nat) (x y:aW)
 | vE (x:aW)
 | bin (k:fK) (x y:aW)
 | un (op:UnOp) (x:aW)
 | j' (k:uA) (x:aW)
 | fn (f:FuncId) (ff:List aW)
 | CM (f:FuncId) (first:List aW)
 | yZ (t:TypeId) (z:Option V) (ok:Bool) (x:aW)
 | si (t:TypeId) (x:aW)
 | xV (size:Nat) (z:List V) (l c:aW)
 | sz (x:aW) (aZ aG e4:Option aW)
 | e6 (size:Nat) (x:aW) (aZ aG e4:Option aW)
 | hI (off:Nat) (x:aW)
 | qS (off:Nat) (x:aW)
 | w7 (off size:Nat) (x:aW)
 | fy (size:Nat) (x i:aW)
 | vk (n size:Nat) (x i:aW)
 | oI (x i:aW)
 | kV (t:TypeId) (x i:aW)
 | look (k:od) (z:V) (ok:Bool) (x i:aW)
 | qy (k:od) (m i x:aW)
 | zW (x:Option aW)
 | Aj (x:aW)
 | z8 (x:aW)
 | ext (x:aW) (i:Nat)
 | call (f:FuncId) (args:List aW)
 | o7 (f:aW) (args:List aW)
 | len (k:DS) (x:aW)
 | app (size:Nat) (s x:aW)
 | copy (size:Nat) (d s:aW)
 | zX (args:List aW)
 | e4 (args:List aW)
 | RN (z:List V) (x:aW)
 | Ec (x:aW)
 | PO (size:Nat) (z:List V) (s x:aW)
 | F7 (z:V) (ok:Bool) (x i:aW)
 | looks (k:TypeId) (z:V) (ok:Bool) (x i:aW)
 | Xf (m i x:aW)
 | Xg (k:TypeId) (m i x:aW)
 | U3 (z:V) (m i:aW)
 | U4 (k:TypeId) (z:V) (m i:aW)
 | Sx (m s x:aW)
 | Wo (x:aW)
 | Vi (x:aW)
 | Sp (x:aW)
 | C4 (neg:Bool) (x y:aW)
 | gg (f:aW) (args:List aW)
 | cB (x:aW)
abbrev cd:Nat:=17179869185
abbrev h7:Nat:=17179869186
def lJ (r:a7):List (Nat × Nat × aW)->List (Nat × Nat × V)
 | []=>[]
 | (o,s,x)::bC=>(o,s,x.aS r)::lJ r bC
def j_:List V->List (Nat × Nat × V)->Option (List V)
 | cells,[]=>some cells
 | cells,(off,size,v)::rest=>bif v.hK&&(Nat.beq v.cells.length size&&Nat.ble (off+v.cells.length) cells.length) then j_ (th cells off v.cells) rest else none
def DS.run:DS->V->ae->a8
 | .arr n=>fun _ h=>.val (.int .i64 n) h
 | .str=>fun x h=>a8.of h ((qe .string).run x)
 | .slice=>fun x h=>a8.of h ((qe (.slice 0)).run x)
 | .map=>fun x h=>CA [x] h
def Np (neg:Bool) (h:ae) (x y:V):Option V:=
 match mO h x y with
 | some b=>some (.bool (bif neg then !b else b))
 | none=>none
def G.run (P:Program) (g:G) (call:eF) (r:a7) (h:ae):a8:=
 match g with
 | .bad=>.fail
 | .fz x=>.val (x.aS r) h
 | .pick c a b=>match c.aS r with
   | .bool t=>.val (bif t then a.aS r else b.aS r) h
   | _=>.fail
 | .new z=>ig (.ptr (aE h.next) 0) (hB h z)
 | .box x=>bif (x.aS r).hK then ig (.ptr (aE h.next) 0) (hB h (x.aS r).cells) else .fail
 | .build z bC=>(match j_ z (lJ r bC) with
   | some cs=>.val (.agg cs) h
   | none=>.fail)
 | .kx n _ z bC=>match j_ (jR z n) (lJ r bC) with
   | some cs=>(match hB h cs with
     | some ab=>.val (.slice (aE h.next) 0 n n) ab
     | none=>.fail)
   | none=>.fail
 | .hc x=>a8.of h (oL h (x.aS r))
 | .iH n x=>a8.of h (oK n h (x.aS r))
 | .st n x y=>ig .bad (qv n h (x.aS r) (y.aS r))
 | .vE x=>a8.of h (vD (x.aS r))
 | .bin k x y=>a8.of h (k.run P (x.aS r) (y.aS r))
 | .un op x=>a8.of h (sD op (x.aS r))
 | .j' k x=>k.run P (x.aS r) h
 | .fn f ff=>.val (.func f (aW.gh r ff)) h
 | .CM f first=>.val (.nW f (aW.gh r first)) h
 | .yZ t z ok x=>a8.of h (wO t z ok (x.aS r))
 | .si t x=>.val (.iface t (x.aS r)) h
 | .xV n z l c=>vz n z (l.aS r) (c.aS r) h
 | .sz x aZ aG m3=>a8.of h (n9 (x.aS r) (aW.opt r aZ) (aW.opt r aG) (aW.opt r m3))
 | .e6 n x aZ aG m3=>a8.of h (match x.aS r with
   | .cn=>Hb (aW.opt r aZ) (aW.opt r aG) (aW.opt r m3)
   | .slice b off xR cap=>vY n b off xR cap (aW.opt r aZ) (aW.opt r aG) (aW.opt r m3)
   | .fp b off xR idx=>Aq n b off xR idx (aW.opt r aZ) (aW.opt r aG) (aW.opt r m3)
   | .iy b off nq idx=>Hc b off nq idx (aW.opt r aZ) (aW.opt r aG) (aW.opt r m3)
   | _=>none)
 | .hI off x=>a8.of h ((x.aS r).kg none fun b o=>some (.ptr b (o+off)))
 | .qS off x=>a8.of h (match x.aS r with
   | .agg cs=>cs[off]?
   | _=>none)
 | .w7 off n x=>a8.of h (match x.aS r with
   | .agg cs=>some (.agg ((cs.drop off).take n))
   | _=>none)
 | .fy n x i=>a8.of h ((xM n).run (x.aS r) (i.aS r))
 | .vk n s x i=>a8.of h ((tE n s).run (x.aS r) (i.aS r))
 | .oI x i=>a8.of h (tG.run (x.aS r) (i.aS r))
 | .kV t x i=>a8.of h ((tF P t).run (x.aS r) (i.aS r))
 | .look k z ok x i=>a8.of h (ln k.eq z ok h (x.aS r) (i.aS r))
 | .qy k m i x=>ig .bad (oT k.eq h (m.aS r) (i.aS r) (x.aS r))
 | .zW x=>vy (aW.opt r x) h
 | .Aj x=>(match x.aS r with
   | .str s=>.val (.ptr (aE h.next) 0) (h.new (.iter s 0))
   | _=>.fail)
 | .z8 x=>xZ (x.aS r) h
 | .ext x i=>(match x.aS r with
   | .tuple af=>a8.of h af[i]?
   | _=>.fail)
 | .call f args=>call f (aW.gh r args) h
 | .o7 f args=>(f.aS r).x8 (aW.gh r args) fun g xs=>call g xs h
 | .len k x=>k.run (x.aS r) h
 | .app n s x=>ml n (s.aS r) (x.aS r) h
 | .copy n d s=>copyV n (d.aS r) (s.aS r) h
 | .zX args=>a8.of h (l6 (fun b a=>!Int.leB a b) (aW.gh r args))
 | .e4 args=>a8.of h (l6 (fun b a=>!Int.leB b a) (aW.gh r args))
 | .RN z x=>Ee z (x.aS r) h
 | .Ec x=>a8.of h (Bp (x.aS r))
 | .PO n z s x=>Io n z (s.aS r) (x.aS r) h
 | .F7 z ok x i=>a8.of h (nV ⟨mO h⟩ z ok h (x.aS r) (i.aS r))
 | .looks k z ok x i=>a8.of h (bif sk P k (i.aS r) then nV (structEq P k) z ok h (x.aS r) (i.aS r) else none)
 | .Xf m i x=>ig .bad (oT ⟨mO h⟩ h (m.aS r) (i.aS r) (x.aS r))
 | .Xg k m i x=>ig .bad (bif sk P k (i.aS r) then oT (structEq P k) h (m.aS r) (i.aS r) (x.aS r) else none)
 | .U3 z m i=>JA z (m.aS r) (i.aS r) h
 | .U4 k z m i=>JB P k z (m.aS r) (i.aS r) h
 | .Sx m s x=>ig .bad (By h (m.aS r) (s.aS r) (x.aS r))
 | .Wo x=>rangeMap (x.aS r) h
 | .Vi x=>hd (x.aS r) h
 | .Sp x=>Ev (x.aS r) h
 | .C4 neg x y=>a8.of h (Np neg h (x.aS r) (y.aS r))
 | .gg f args=>(match f.aS r with
   | .func g cs=>bif Nat.beq g dx then .fail else .val (.tuple (.func g (aW.gh r args++cs)::(r cd).list)) h
   | _=>.fail)
 | .cB x=>Aa (x.aS r) h
def NA (P:Program) (op:BinOp) (t:TypeId):fK:=
 match op with
 | .shl=>.shl
 | .shr=>.shr
 | op=>match bj P t with
   | none=>.other op t
   | some aP=>match aP.bq with
     | .int _=>.int op
     | .string=>.str op
     | .bool=>(match op with
       | .eql=>.BC false
       | .neq=>.BC true
       | _=>.other op t)
     | .pointer _=>(match op with
       | .eql=>.kP false 1
       | .neq=>.kP true 1
       | _=>.other op t)
     | .slice _=>(match op with
       | .eql=>.kP false 2
       | .neq=>.kP true 2
       | _=>.other op t)
     | .map _ _=>(match op with
       | .eql=>.kP false 3
       | .neq=>.kP true 3
       | _=>.other op t)
     | .func _ _ _=>(match op with
       | .eql=>.kP false 4
       | .neq=>.kP true 4
       | _=>.other op t)
     | _=>.other op t
def NH (P:Program) (op:BinOp) (t:TypeId) (lit:Bool):fK:=
 bif lit then (match bj P t with
  | some aP=>match aP.bq with
    | .interface _=>match op with
      | .eql=>.kP false 5
      | .neq=>.kP true 5
      | _=>.kP false 99
    | _=>.kP false 99
  | none=>.kP false 99) else NA P op t
def ND (P:Program) (s d:TypeId):uA:=
 match bj P s,bj P d with
 | some vX,some pP=>match pP.bq with
   | .int k=>.int k
   | .string=>match vX.bq with
     | .slice e=>match bj P e with
       | some bl=>match bl.bq with
         | .int .u8=>.str
         | _=>.other s d
       | none=>.other s d
     | _=>.other s d
   | .slice e=>match bj P e with
     | some bl=>match bl.bq with
       | .int .u8=>.bytes
       | _=>.other s d
     | none=>.other s d
   | _=>.other s d
 | _,_=>.other s d
def rp (place:Nat->Option (Nat × Nat)):List (Nat × Operand)->Option (List (Nat × Nat × aW))
 | []=>some []
 | (i,x)::bC=>match place i with
   | none=>none
   | some (off,size)=>match rp place bC with
     | none=>none
     | some l=>some ((off,size,rx x)::l)
def NB (P:Program) (t:TypeId) (bC:List (Nat × Operand)):G:=
 match bj P t with
 | some aP=>match aP.zero with
   | some z=>match aP.bq with
     | .struct cG=>bif EI P cG.toList then (match rp (zd P cG) bC with
       | some l=>.build z.cells l
       | none=>.bad) else .bad
     | .array _ e=>match bj P e with
       | some bl=>(match rp (fun i=>some (i * bl.size,bl.size)) bC with
         | some l=>.build z.cells l
         | none=>.bad)
       | none=>.bad
     | _=>.bad
   | none=>.bad
 | none=>.bad
def NI (P:Program) (t:TypeId) (len:Nat) (bC:List (Nat × Operand)):G:=
 match bj P t with
 | some aP=>match aP.bq with
   | .slice e=>match bj P e with
     | some bl=>match bl.zero with
       | some z=>bif Nat.ble (len * bl.size) 1000000&&Nat.beq z.cells.length bl.size then
          (match rp (fun i=>some (i * bl.size,bl.size)) bC with
          | some l=>.kx len bl.size z.cells l
          | none=>.bad) else .bad
       | none=>.bad
     | none=>.bad
   | _=>.bad
 | none=>.bad
def xO:TypeDesc->Option od
 | .int _=>some .int
 | .string=>some .str
 | .bool=>some .bool
 | _=>none
def I5 (P:Program) (t:TypeId):Option (List V):=
 match bj P t with
 | some aP=>match aP.bq with
   | .slice e=>match bj P e with
     | some bl=>match bl.zero with
       | some z=>some z.cells
       | none=>none
     | none=>none
   | _=>none
 | none=>none
theorem abD (P:Program) (t:TypeId):Br P t=I5 P t:=rfl
def Ah (P:Program) (c:Call):G:=
 match c.callee with
 | .value (.func f)=>bif Nat.beq f dx then .bad else .call f (l' c.args.toList)
 | .value x=>.o7 (rx x) (l' c.args.toList)
 | .invoke _ _=>.bad
 | .builtin b=>match b with
   | .len=>match c.argTypes.toList,c.args.toList with
     | [t],[x]=>(match bj P t with
       | some aP=>(match aP.bq with
         | .map _ _=>.len .map (rx x)
         | .array n _=>.len (.arr n) (rx x)
         | .string=>.len .str (rx x)
         | .slice _=>.len .slice (rx x)
         | _=>.bad)
       | none=>.bad)
     | _,_=>.bad
   | .append=>match c.argTypes.toList,c.args.toList with
     | [t,u],[s,x]=>(match bj P t,bj P u with
       | some aP,some ur=>(match ur.bq with
         | .int _=>(match aP.bq with
           | .slice e=>(match bj P e with
             | none=>.bad
             | some bl=>match bl.zero with
               | none=>.bad
               | some z=>bif Nat.ble 1 bl.size&&Nat.ble bl.bytes 4096&&Nat.beq z.cells.length bl.size then .PO bl.size z.cells (rx s) (rx x) else .bad)
           | _=>.bad)
         | _=>match aP.bq with
           | .slice e=>(match bj P e with
             | none=>.bad
             | some bl=>match bl.zero with
               | none=>.bad
               | some z=>bif Nat.ble 1 bl.size&&Nat.ble bl.bytes 4096&&Nat.beq z.cells.length bl.size then .app bl.size (rx s) (rx x) else .bad)
           | _=>.bad)
       | _,_=>.bad)
     | _,_=>.bad
   | .copy=>match c.argTypes.toList,c.args.toList with
     | t::_,[d,s]=>(match bj P t with
       | some aP=>(match aP.bq with
         | .slice e=>(match bj P e with
           | some bl=>.copy bl.size (rx d) (rx s)
           | none=>.bad)
         | _=>.bad)
       | none=>.bad)
     | _,_=>.bad
   | .min=>.zX (l' c.args.toList)
   | .max=>.e4 (l' c.args.toList)
   | .clear=>match c.argTypes.toList,c.args.toList with
     | [t],[x]=>(match I5 P t with
       | some z=>.RN z (rx x)
       | none=>.bad)
     | _,_=>.bad
   | .cap=>match c.argTypes.toList,c.args.toList with
     | [t],[x]=>(match bj P t with
       | some aP=>bif Cs aP.bq then .Ec (rx x) else .bad
       | none=>.bad)
     | _,_=>.bad
   | _=>.bad
def qp (P:Program) (op:Op):G:=
 match op with
 | .move x=>.fz (rx x)
 | .assign x=>.fz (rx x)
 | .pick c a b=>.pick (rx c) (rx a) (rx b)
 | .alloc t=>(match bj P t with
   | some aP=>(match aP.zero with
     | some z=>.new z.cells
     | none=>.bad)
   | none=>.bad)
 | .box _ x=>.box (rx x)
 | .build t bC=>NB P t bC.toList
 | .buildSlice t n bC=>NI P t n bC.toList
 | .load t x=>(match bj P t with
   | none=>.bad
   | some aP=>bif aP.agg then .iH aP.size (rx x) else bif Nat.beq aP.size 1 then .hc (rx x) else .bad)
 | .store t x y=>(match bj P t with
   | none=>.bad
   | some aP=>.st aP.size (rx x) (rx y))
 | .nilCheck x=>.vE (rx x)
 | .binOp op t x y _=>.bin (NH P op t (so x||so y)) (rx x) (rx y)
 | .unOp op _ x=>.un op (rx x)
 | .convert s d x=>.j' (ND P s d) (rx x)
 | .makeFunc (.func f) first ff=>bif first.isEmpty&&!Nat.beq f dx then .fn f (l' ff.toList) else bif ff.isEmpty&&!Nat.beq f dx then .CM f (l' first.toList) else .bad
 | .makeInterface t x=>(match bj P t with
   | some aP=>bif Nat.beq (fW aP.bq) 5 then .bad else .si t (rx x)
   | none=>.bad)
 | .makeSlice t l c=>(match bj P t with
   | some aP=>(match aP.bq with
     | .slice e=>(match bj P e with
       | some bl=>(match bl.zero with
         | some z=>bif Nat.ble bl.bytes 4096 then .xV bl.size z.cells (rx l) (rx c) else .bad
         | none=>.bad)
       | none=>.bad)
     | _=>.bad)
   | none=>.bad)
 | .slice t x aZ aG e4=>(match bj P t with
   | none=>.bad
   | some aP=>match aP.bq with
     | .string=>.sz (rx x) (t_ aZ) (t_ aG) (t_ e4)
     | .slice e=>(match bj P e with
       | none=>.bad
       | some bl=>.e6 bl.size (rx x) (t_ aZ) (t_ aG) (t_ e4))
     | _=>.bad)
 | .fieldAddr t x i=>(match r1 P t i with
   | none=>.bad
   | some f=>match bj P f.type with
     | none=>.bad
     | some lK=>bif Nat.beq lK.size 0 then .bad else .hI f.offset (rx x))
 | .field t x i=>(match r1 P t i with
   | none=>.bad
   | some f=>match bj P f.type with
     | none=>.bad
     | some aP=>bif aP.agg then .w7 f.offset aP.size (rx x) else .qS f.offset (rx x))
 | .indexAddr t x i=>(match bj P t with
   | none=>.bad
   | some aP=>match aP.bq with
     | .slice e=>(match bj P e with
       | none=>.bad
       | some bl=>.fy bl.size (rx x) (rx i))
     | .array n e=>(match bj P e with
       | none=>.bad
       | some bl=>.vk n bl.size (rx x) (rx i))
     | _=>.bad)
 | .index t x i=>(match bj P t with
   | none=>.bad
   | some aP=>match aP.bq with
     | .string=>.oI (rx x) (rx i)
     | _=>.kV t (rx x) (rx i))
 | .range t x=>(match bj P t with
   | some aP=>(match aP.bq with
     | .string=>.Aj (rx x)
     | .map _ _=>.Wo (rx x)
     | _=>.bad)
   | none=>.bad)
 | .next it s=>bif s then .z8 (rx it) else .Vi (rx it)
 | .entry it=>.Sp (rx it)
 | .lookup t x k ok=>(match bj P t with
   | some aP=>(match aP.bq with
     | .map bG e=>(match bj P bG with
       | some hP=>(match bj P e with
         | some bl=>(match bl.zero with
           | some z=>(match xO hP.bq with
             | some dL=>.look dL z ok (rx x) (rx k)
             | none=>bif lY hP.bq then .bad else bif kj P bG then .F7 z ok (rx x) (rx k) else bif nx P bG then .looks bG z ok (rx x) (rx k) else .bad)
           | none=>.bad)
         | none=>.bad)
       | none=>.bad)
     | _=>.bad)
   | none=>.bad)
 | .mapUpdate t m k x | .insert t m k x=>(match bj P t with
   | some aP=>(match aP.bq with
     | .map bG _=>(match bj P bG with
       | some hP=>(match xO hP.bq with
         | some dL=>.qy dL (rx m) (rx k) (rx x)
         | none=>bif lY hP.bq then .bad else bif kj P bG then .Xf (rx m) (rx k) (rx x) else bif nx P bG then .Xg bG (rx m) (rx k) (rx x) else .bad)
       | none=>.bad)
     | _=>.bad)
   | none=>.bad)
 | .mapEntry t m k=>(match bj P t with
   | some aP=>(match aP.bq with
     | .map bG e=>(match bj P e with
       | some bl=>(match bl.zero with
         | some z=>bif kj P bG then .U3 z (rx m) (rx k) else bif nx P bG then .U4 bG z (rx m) (rx k) else .bad
         | none=>.bad)
       | none=>.bad)
     | _=>.bad)
   | none=>.bad)
 | .entryStore _ m st x=>.Sx (rx m) (rx st) (rx x)
 | .makeMap t x=>(match bj P t with
   | some aP=>bif Nat.beq (fW aP.bq) 3 then .zW (t_ x) else .bad
   | none=>.bad)
 | .extract x i=>.ext (rx x) i
 | .typeAssert x _ t ok=>(match bj P t with
   | some aP=>bif Nat.beq (fW aP.bq) 5 then .bad else .yZ t aP.zero ok (rx x)
   | none=>.bad)
 | .call c=>Ah P c
 | .panic x=>.cB (rx x)
 | _=>.bad
def et (cS:bQ):a7:=fun t=>T.get .bad (aE t) cS
theorem fo (cS:bQ) (x:Operand):(b9 x).run cS=(rx x).aS (et cS):=by
 cases x with
 | tmp t=>
   simp only [b9,rx];cases Nat.ble t top<;>rfl
 | const v=>rfl
 | func f=>
   simp only [b9,rx];cases Nat.beq f dx<;>rfl
 | global g=>rfl
theorem uX (cS:bQ):∀xs:List Operand,(qP xs).run cS=aW.gh (et cS) (l' xs)
 | []=>rfl
 | x::xs=>by simp only [qP,l',aW.gh,fo,uX cS xs]
theorem MG (cS:bQ) (x:Option Operand):(sw x).run cS=aW.opt (et cS) (t_ x):=by
 cases x with
 | none=>rfl
 | some x=>simp only [sw,t_,aW.opt,fo]
theorem EJ (cS:bQ) {place:Nat->Option (Nat × Nat)}:∀{bC:List (Nat × Operand)} {l:List (Nat × Nat × aW)},rp place bC=some l->∀cells,ot place cells ((vK bC).run cS)=j_ cells (lJ (et cS) l)
 | [],l,h,cells=>by simp only [rp,aqj] at h;subst h;rfl
 | (i,x)::bC,l,h,cells=>by
   simp only [rp] at h;cases ai:place i with
   | none=>rw [ai] at h;cases h
   | some os=>
     obtain ⟨off,size⟩:=os;rw [ai] at h;simp only at h;cases aD:rp place bC with
     | none=>rw [aD] at h;cases h
     | some ed=>
       rw [aD] at h;simp only [aqj] at h;subst h;simp only [vK,ot,ai,lJ,j_,fo];cases ((rx x).aS (et cS)).hK&&(Nat.beq ((rx x).aS (et cS)).cells.length size&&Nat.ble (off + ((rx x).aS (et cS)).cells.length) cells.length) with
       | false=>rfl
       | true=>exact EJ cS aD _
section
variable {P:Program}
theorem ami (op:BinOp) (t:TypeId):(NA P op t).run P=(s_ P op t).run:=by
 unfold NA s_;cases op<;>first | rfl | skip
 all_goals
  cases aB:bj P t with
  | none=>simp only [fK.run];unfold s_;rw [aB]
  | some aP=>
    simp only;cases hu:aP.bq<;>first | rfl | (simp only [fK.run];unfold s_;rw [aB];simp only [hu];done) | (simp only [fK.run];unfold qN iR;simp only [aB,hu];first | done | rfl)
theorem aml (op:BinOp) (t:TypeId) (lit:Bool):(NH P op t lit).run P=(Bg P op t lit).run:=by
 unfold NH Bg;cases lit with
 | false=>simp only [aqt];exact ami op t
 | true=>
   simp only [aqo];cases bj P t with
   | none=>rfl
   | some aP=>
     simp only;cases aP.bq<;>first | rfl | (cases op<;>rfl)
theorem amk (s d:TypeId):(ND P s d).run P=(rV P s d).run:=by
 unfold ND
 split
 . rename_i vX pP az aY
   split
   . rename_i k hu;simp only [uA.run];unfold rV;rw [az,aY];simp only [hu]
   . rename_i hu
     split
     . rename_i e bE
       split
       . rename_i bl he
         split
         . rename_i hw;simp only [uA.run];unfold rV;rw [az,aY];simp only [hu,bE,he,hw]
         . rfl
       . rfl
     . rfl
   . rename_i e hu
     split
     . rename_i bl he
       split
       . rename_i hw;simp only [uA.run];unfold rV;rw [az,aY];simp only [hu,he,hw]
       . rfl
     . rfl
   . rfl
 . rfl
theorem LG {d:TypeDesc} {dL:od} (h:xO d=some dL):lY d=true/\mG d=dL.eq:=by cases d<;>simp only [xO] at h<;>first | (cases h;done) | (cases h;exact ⟨rfl,rfl⟩)
theorem amj {c:Call} {call:eF} {cS:bQ} {h ab:ae} {v:V} (he:(Ah P c).run P call (et cS) h=.val v ab):(rT P c).run call cS h=.val v ab:=by
 unfold Ah at he;unfold rT
 split at he
 . rename_i f aq;rw [aq];cases bg:Nat.beq f dx with
   | true=>rw [bg] at he;cases he
   | false=>
     rw [bg] at he;simp only [aqt,G.run] at he;simpa only [b9,bg,aqt,qO,V.x8,uX,aqI] using he
 . rename_i x ay aq;rw [aq];simp only [G.run] at he;simpa only [fo,uX] using he
 . cases he
 . rename_i b aq;rw [aq];simp only [uX];cases b<;>simp only at he<;>try (cases he;done)
   case len=>
    split at he
    . rename_i t x aB ay;cases mD:bj P t with
      | none=>rw [mD] at he;cases he
      | some aP=>
        rw [mD] at he;simp only at he;simp only [rS,aB,mD,ay,l',aW.gh];cases hu:aP.bq<;>rw [hu] at he<;>first | (cases he;done) | (simpa only [vo,aqo,aqt,G.run,DS.run,qe,a8.of] using he)
    . cases he
   case append=>
    split at he
    . rename_i t u s x aB ay
      split at he
      . rename_i aP ur mD zH;simp only [rS,aB,ay,l',aW.gh,D0,mD,zH]
        split at he
        . rename_i k afR
          split at he
          . rename_i e cY;cases fH:bj P e with
            | none=>rw [fH] at he;cases he
            | some bl=>
              rw [fH] at he;simp only at he;cases bK:bl.zero with
              | none=>rw [bK] at he;cases he
              | some z=>
                rw [bK] at he;simp only at he;cases ah:(Nat.ble 1 bl.size&&Nat.ble bl.bytes 4096&&Nat.beq z.cells.length bl.size) with
                | false=>rw [ah] at he;cases he
                | true=>
                  rw [ah] at he;simp only [aqo,G.run] at he;simp only [afR,cY,fH,bK,ah,aqo];exact he
          . cases he
        . rename_i dK
          split at he
          . rename_i e cY;cases fH:bj P e with
            | none=>rw [fH] at he;cases he
            | some bl=>
              rw [fH] at he;simp only at he;cases bK:bl.zero with
              | none=>rw [bK] at he;cases he
              | some z=>
                rw [bK] at he;simp only at he;cases ah:(Nat.ble 1 bl.size&&Nat.ble bl.bytes 4096&&Nat.beq z.cells.length bl.size) with
                | false=>rw [ah] at he;cases he
                | true=>
                  rw [ah] at he;simp only [aqo,G.run] at he;cases Lf:ur.bq<;>first
                   | (exact absurd Lf (dK _))
                   | (simp only [cY,fH,bK,ah,aqo];exact he)
          . cases he
      . cases he
    . cases he
   case copy=>
    split at he
    . rename_i t dp d s aB ay;cases mD:bj P t with
      | none=>rw [mD] at he;cases he
      | some aP=>
        rw [mD] at he;simp only at he
        split at he
        . rename_i e cY;cases fH:bj P e with
          | none=>rw [fH] at he;cases he
          | some bl=>
            rw [fH] at he;simp only [G.run] at he;simp only [rS,aB,ay,l',aW.gh,Ef,mD,cY,fH];exact he
        . cases he
    . cases he
   case min=>exact he
   case max=>exact he
   case clear=>
    split at he
    . rename_i t x aB ay;cases aq:I5 P t with
      | none=>rw [aq] at he;cases he
      | some z=>
        rw [aq] at he;simp only [G.run] at he;simp only [rS,aB,ay,l',aW.gh,abD,aq];exact he
    . cases he
   case cap=>
    split at he
    . rename_i t x aB ay;cases mD:bj P t with
      | none=>rw [mD] at he;cases he
      | some aP=>
        rw [mD] at he;simp only at he;cases ah:Cs aP.bq with
        | false=>rw [ah] at he;cases he
        | true=>
          rw [ah] at he;simp only [aqo,G.run] at he;simp only [rS,aB,ay,l',aW.gh,mD,ah,aqo];exact he
    . cases he
theorem Wl {o:Oper} {call:eF} {cS:bQ} {h ab:ae} {v:V} (he:(qp P o.op).run P call (et cS) h=.val v ab):(fU P o).run call cS h=.val v ab:=by
 obtain ⟨dst,op,type,pos,after,guard⟩:=o;cases op<;>simp only [qp] at he<;>try (cases he;done)
 all_goals simp only [fU]
 case move x=>simpa only [fo,G.run] using he
 case assign x=>simpa only [fo,G.run] using he
 case pick c a b=>
  simp only [fo,G.run] at he ⊢;generalize (rx c).aS (et cS)=q at he ⊢;cases q<;>exact he
 case alloc t=>
  cases aB:bj P t with
  | none=>rw [aB] at he;cases he
  | some aP=>
    rw [aB] at he;simp only at he ⊢;cases bK:aP.zero with
    | none=>rw [bK] at he;cases he
    | some z=>rw [bK] at he;exact he
 case box t x=>simpa only [fo,G.run] using he
 case build t bC=>
  unfold NB at he;unfold D8;cases aB:bj P t with
  | none=>rw [aB] at he;cases he
  | some aP=>
    rw [aB] at he;simp only at he ⊢;cases bK:aP.zero with
    | none=>rw [bK] at he;cases he
    | some z=>
      rw [bK] at he;simp only at he ⊢;cases hu:aP.bq<;>rw [hu] at he<;>simp only at he ⊢<;>try (cases he;done)
      . rename_i n e;cases fH:bj P e with
        | none=>rw [fH] at he;cases he
        | some bl=>
          rw [fH] at he;simp only at he ⊢;cases ai:rp (fun i=>some (i * bl.size,bl.size)) bC.toList with
          | none=>rw [ai] at he;cases he
          | some l=>
            rw [ai] at he;simp only [G.run] at he;rw [EJ cS ai];cases aA:j_ z.cells (lJ (et cS) l) with
            | none=>rw [aA] at he;cases he
            | some cs=>rw [aA] at he;exact he
      . rename_i cG;cases ar:EI P cG.toList with
        | false=>rw [ar] at he;cases he
        | true=>
          rw [ar] at he;simp only [aqo] at he ⊢;cases ai:rp (zd P cG) bC.toList with
          | none=>rw [ai] at he;cases he
          | some l=>
            rw [ai] at he;simp only [G.run] at he;rw [EJ cS ai];cases aA:j_ z.cells (lJ (et cS) l) with
            | none=>rw [aA] at he;cases he
            | some cs=>rw [aA] at he;exact he
 case buildSlice t n bC=>
  unfold NI at he;unfold wT;cases aB:bj P t with
  | none=>rw [aB] at he;cases he
  | some aP=>
    rw [aB] at he;simp only at he ⊢;cases hu:aP.bq<;>rw [hu] at he<;>simp only at he ⊢<;>try (cases he;done)
    rename_i e;cases fH:bj P e with
    | none=>rw [fH] at he;cases he
    | some bl=>
      rw [fH] at he;simp only at he ⊢;cases bK:bl.zero with
      | none=>rw [bK] at he;cases he
      | some z=>
        rw [bK] at he;simp only at he ⊢;cases ah:(Nat.ble (n * bl.size) 1000000&&Nat.beq z.cells.length bl.size) with
        | false=>rw [ah] at he;cases he
        | true=>
          rw [ah] at he;simp only [aqo] at he ⊢;cases ai:rp (fun i=>some (i * bl.size,bl.size)) bC.toList with
          | none=>rw [ai] at he;cases he
          | some l=>
            rw [ai] at he;simp only [G.run] at he;rw [EJ cS ai];exact he
 case load t x=>
  unfold rh;cases aB:bj P t with
  | none=>rw [aB] at he;cases he
  | some aP=>
    rw [aB] at he;simp only at he ⊢;cases a_:aP.agg with
    | true=>rw [a_] at he;simpa only [aqo,fo,G.run] using he
    | false=>
      rw [a_] at he;simp only [aqt] at he ⊢;cases az:Nat.beq aP.size 1 with
      | true=>rw [az] at he;simpa only [aqo,fo,G.run] using he
      | false=>rw [az] at he;cases he
 case store t x y=>
  unfold uf;cases aB:bj P t with
  | none=>rw [aB] at he;cases he
  | some aP=>rw [aB] at he;simpa only [fo,G.run] using he
 case nilCheck x=>simpa only [fo,G.run] using he
 case binOp op t x y t2=>simpa only [fo,G.run,aml] using he
 case unOp op t x=>simpa only [fo,G.run] using he
 case convert s d x=>simpa only [fo,G.run,amk] using he
 case makeFunc fn first ff=>
  cases fn<;>simp only at he<;>try (cases he;done)
  simp only;cases aA:(first.isEmpty&&!Nat.beq _ dx) with
  | true=>rw [aA] at he;simpa only [aqo,uX,G.run] using he
  | false=>
    rw [aA] at he;simp only [aqt] at he ⊢;cases kB:(ff.isEmpty&&!Nat.beq _ dx) with
    | true=>rw [kB] at he;simpa only [aqo,uX,G.run] using he
    | false=>rw [kB] at he;cases he
 case typeAssert x wh t ok=>
  cases aB:bj P t with
  | none=>rw [aB] at he;cases he
  | some aP=>
    rw [aB] at he;simp only at he ⊢;cases ah:Nat.beq (fW aP.bq) 5 with
    | true=>rw [ah] at he;cases he
    | false=>rw [ah] at he;simpa only [aqt,fo,G.run] using he
 case makeInterface t x=>
  cases aB:bj P t with
  | none=>rw [aB] at he;cases he
  | some aP=>
    rw [aB] at he;simp only at he ⊢;cases ah:Nat.beq (fW aP.bq) 5 with
    | true=>rw [ah] at he;cases he
    | false=>rw [ah] at he;simpa only [aqt,fo,G.run] using he
 case makeSlice t l c=>
  unfold xU;cases aB:bj P t with
  | none=>rw [aB] at he;cases he
  | some aP=>
    rw [aB] at he;simp only at he ⊢;cases hu:aP.bq<;>rw [hu] at he<;>simp only at he ⊢<;>try (cases he;done)
    rename_i e;cases fH:bj P e with
    | none=>rw [fH] at he;cases he
    | some bl=>
      rw [fH] at he;simp only at he ⊢;cases bK:bl.zero with
      | none=>rw [bK] at he;cases he
      | some z=>
        rw [bK] at he;simp only at he ⊢;cases ah:Nat.ble bl.bytes 4096 with
        | false=>rw [ah] at he;cases he
        | true=>rw [ah] at he;simpa only [aqo,fo,G.run] using he
 case slice t x aZ aG m3=>
  unfold Ha;cases aB:bj P t with
  | none=>rw [aB] at he;cases he
  | some aP=>
    rw [aB] at he;simp only at he ⊢;cases hu:aP.bq<;>rw [hu] at he<;>simp only at he ⊢<;>try (cases he;done)
    . simpa only [fo,MG,G.run] using he
    . rename_i e;cases fH:bj P e with
      | none=>rw [fH] at he;cases he
      | some bl=>
        rw [fH] at he;simp only [fo,MG,G.run] at he ⊢;generalize (rx x).aS (et cS)=q at he ⊢;cases q<;>exact he
 case fieldAddr t x i=>
  unfold EF;cases aA:r1 P t i with
  | none=>rw [aA] at he;cases he
  | some f=>
    rw [aA] at he;simp only at he ⊢;cases aB:bj P f.type with
    | none=>rw [aB] at he;cases he
    | some lK=>
      rw [aB] at he;simp only at he ⊢;cases ah:Nat.beq lK.size 0 with
      | true=>rw [ah] at he;cases he
      | false=>rw [ah] at he;simpa only [aqt,fo,G.run] using he
 case field t x i=>
  unfold EG;cases aA:r1 P t i with
  | none=>rw [aA] at he;cases he
  | some f=>
    rw [aA] at he;simp only [rn] at he ⊢;cases aB:bj P f.type with
    | none=>rw [aB] at he;cases he
    | some lK=>
      rw [aB] at he;simp only at he ⊢;cases ah:lK.agg with
      | true=>
        rw [ah] at he;simp only [aqo,fo,G.run] at he ⊢;generalize (rx x).aS (et cS)=q at he ⊢;cases q<;>exact he
      | false=>
        rw [ah] at he;simp only [aqt,fo,G.run] at he ⊢;generalize (rx x).aS (et cS)=q at he ⊢;cases q<;>exact he
 case indexAddr t x i=>
  unfold FA;cases aB:bj P t with
  | none=>rw [aB] at he;cases he
  | some aP=>
    rw [aB] at he;simp only at he ⊢;cases hu:aP.bq<;>rw [hu] at he<;>simp only at he ⊢<;>try (cases he;done)
    all_goals
     rename_i e;cases fH:bj P e with
     | none=>rw [fH] at he;cases he
     | some bl=>rw [fH] at he;simpa only [fo,G.run] using he
 case index t x i=>
  cases aB:bj P t with
  | none=>rw [aB] at he;cases he
  | some aP=>
    rw [aB] at he;simp only at he;cases hu:aP.bq<;>rw [hu] at he<;>simp only [G.run] at he
    case string=>
     unfold tF;rw [aB];simp only [hu];simpa only [fo] using he
    all_goals simpa only [fo] using he
 case range t x=>
  unfold GW;cases aB:bj P t with
  | none=>rw [aB] at he;cases he
  | some aP=>
    rw [aB] at he;simp only at he ⊢;cases hu:aP.bq<;>rw [hu] at he<;>simp only at he ⊢<;>try (cases he;done)
    all_goals simp only [fo,G.run] at he ⊢
    all_goals first
     | exact he
     | (generalize (rx x).aS (et cS)=q at he ⊢
        cases q<;>exact he)
 case next it b=>
  cases b<;>simpa only [aqo,aqt,fo,G.run] using he
 case entry it=>simpa only [fo,G.run] using he
 case mapEntry t m k=>
  unfold F_;cases aB:bj P t with
  | none=>rw [aB] at he;cases he
  | some aP=>
    rw [aB] at he;simp only at he ⊢;cases hu:aP.bq<;>rw [hu] at he<;>simp only at he ⊢<;>try (cases he;done)
    rename_i bG e;cases fH:bj P e with
    | none=>rw [fH] at he;cases he
    | some bl=>
      rw [fH] at he;simp only at he ⊢;cases bK:bl.zero with
      | none=>rw [bK] at he;cases he
      | some z=>
        rw [bK] at he;simp only at he ⊢;cases ai:kj P bG with
        | true=>rw [ai] at he;simpa only [aqo,fo,G.run] using he
        | false=>
          rw [ai] at he;simp only [aqt] at he ⊢;cases az:nx P bG with
          | true=>rw [az] at he;simpa only [aqo,fo,G.run] using he
          | false=>rw [az] at he;cases he
 case entryStore t m st x=>simpa only [fo,G.run] using he
 case lookup t x k ok=>
  unfold F8;cases aB:bj P t with
  | none=>rw [aB] at he;cases he
  | some aP=>
    rw [aB] at he;simp only at he ⊢;cases hu:aP.bq<;>rw [hu] at he<;>simp only at he ⊢<;>try (cases he;done)
    rename_i bG e;cases ar:bj P bG with
    | none=>rw [ar] at he;cases he
    | some hP=>
      rw [ar] at he;simp only at he ⊢;cases fH:bj P e with
      | none=>rw [fH] at he;cases he
      | some bl=>
        rw [fH] at he;simp only at he ⊢;cases bK:bl.zero with
        | none=>rw [bK] at he;cases he
        | some z=>
          rw [bK] at he;simp only at he ⊢;cases lg:xO hP.bq with
          | none=>
            rw [lg] at he;simp only at he ⊢;cases aA:lY hP.bq with
            | true=>rw [aA] at he;cases he
            | false=>
              rw [aA] at he;simp only [aqt] at he ⊢;cases ai:kj P bG with
              | true=>rw [ai] at he;simpa only [aqo,fo,G.run] using he
              | false=>
                rw [ai] at he;simp only [aqt] at he ⊢;cases az:nx P bG with
                | true=>rw [az] at he;simpa only [aqo,fo,G.run] using he
                | false=>rw [az] at he;cases he
          | some dL=>
            rw [lg] at he;obtain ⟨an,av⟩:=LG lg;simp only [an,av,aqo];simpa only [fo,G.run] using he
 case mapUpdate t m k x=>
  unfold qz;cases aB:bj P t with
  | none=>rw [aB] at he;cases he
  | some aP=>
    rw [aB] at he;simp only at he ⊢;cases hu:aP.bq<;>rw [hu] at he<;>simp only at he ⊢<;>try (cases he;done)
    rename_i bG e;cases ar:bj P bG with
    | none=>rw [ar] at he;cases he
    | some hP=>
      rw [ar] at he;simp only at he ⊢;cases lg:xO hP.bq with
      | none=>
        rw [lg] at he;simp only at he ⊢;cases aA:lY hP.bq with
        | true=>rw [aA] at he;cases he
        | false=>
          rw [aA] at he;simp only [aqt] at he ⊢;cases ai:kj P bG with
          | true=>rw [ai] at he;simpa only [aqo,fo,G.run] using he
          | false=>
            rw [ai] at he;simp only [aqt] at he ⊢;cases az:nx P bG with
            | true=>rw [az] at he;simpa only [aqo,fo,G.run] using he
            | false=>rw [az] at he;cases he
      | some dL=>
        rw [lg] at he;obtain ⟨an,av⟩:=LG lg;simp only [an,av,aqo];simpa only [fo,G.run] using he
 case insert t m k x=>
  unfold qz;cases aB:bj P t with
  | none=>rw [aB] at he;cases he
  | some aP=>
    rw [aB] at he;simp only at he ⊢;cases hu:aP.bq<;>rw [hu] at he<;>simp only at he ⊢<;>try (cases he;done)
    rename_i bG e;cases ar:bj P bG with
    | none=>rw [ar] at he;cases he
    | some hP=>
      rw [ar] at he;simp only at he ⊢;cases lg:xO hP.bq with
      | none=>
        rw [lg] at he;simp only at he ⊢;cases aA:lY hP.bq with
        | true=>rw [aA] at he;cases he
        | false=>
          rw [aA] at he;simp only [aqt] at he ⊢;cases ai:kj P bG with
          | true=>rw [ai] at he;simpa only [aqo,fo,G.run] using he
          | false=>
            rw [ai] at he;simp only [aqt] at he ⊢;cases az:nx P bG with
            | true=>rw [az] at he;simpa only [aqo,fo,G.run] using he
            | false=>rw [az] at he;cases he
      | some dL=>
        rw [lg] at he;obtain ⟨an,av⟩:=LG lg;simp only [an,av,aqo];simpa only [fo,G.run] using he
 case makeMap t x=>
  unfold zU;cases aB:bj P t with
  | none=>rw [aB] at he;cases he
  | some aP=>
    rw [aB] at he;simp only at he ⊢;cases ah:Nat.beq (fW aP.bq) 3 with
    | false=>rw [ah] at he;cases he
    | true=>rw [ah] at he;simpa only [aqo,MG,G.run] using he
 case extract x i=>
  simp only [fo,G.run] at he ⊢;generalize (rx x).aS (et cS)=q at he ⊢;cases q<;>exact he
 case call c=>exact amj he
 case panic x=>
  simp only [G.run] at he;unfold Aa at he
  split at he<;>cases he
def G.mn:G->Bool
 | .call _ _=>true
 | .o7 _ _=>true
 | .cB _=>true
 | _=>false
theorem IW (b:Bool) (x y:G):(bif b then x else y).mn=(bif b then x.mn else y.mn):=by cases b<;>rfl
theorem Wj {c:Call} (aq:(Ah P c).mn=true):∃x,c.callee=.value x:=by
 unfold Ah at aq
 split at aq
 . exact ⟨_,by assumption⟩
 . exact ⟨_,by assumption⟩
 . cases aq
 . exfalso;revert aq
   split<;>(repeat' split)<;>(try simp only [IW])<;>simp [G.mn]
theorem NG {op:Op} (aq:(qp P op).mn=true):j5 op=true:=by
 cases op<;>simp only [qp] at aq<;>try (cases aq;done)
 case call c=>
  obtain ⟨x,ay⟩:=Wj aq;simp only [j5,ay]
 case panic x=>rfl
 case makeFunc fn first ff=>
  exfalso;revert aq;cases fn<;>simp only [qp,IW]<;>simp [G.mn]
 all_goals
  exfalso;revert aq
  try unfold NB
  try unfold NI
  try (repeat' split)
  all_goals (try simp only [IW])
  all_goals simp [G.mn]
theorem Wk {o:Oper} {call:eF} {cS:bQ} {h ab:ae} {v:V} (aq:(qp P o.op).mn=true) (he:(qp P o.op).run P call (et cS) h=.cB v ab):(fU P o).run call cS h=.cB v ab:=by
 have hm:=NG aq;obtain ⟨dst,op,type,pos,after,guard⟩:=o;cases op<;>simp only [j5] at hm<;>try (cases hm;done)
 case panic x=>simpa only [fU,qp,fo,G.run] using he
 case call c=>
  simp only [qp] at he aq;simp only [fU];obtain ⟨x,ay⟩:=Wj aq;unfold Ah at he;unfold rT
  split at he
  . rename_i f Kc;rw [Kc];cases bg:Nat.beq f dx with
    | true=>rw [bg] at he;cases he
    | false=>
      rw [bg] at he;simp only [aqt,G.run] at he;simpa only [b9,bg,aqt,qO,V.x8,uX,aqI] using he
  . rename_i y bg Kc;rw [Kc];simp only [G.run] at he;simpa only [fo,uX] using he
  . cases he
  . rename_i b ah;rw [ay] at ah;cases ah
end
end
section
open Go Go.RowKit
variable [Lay]
def gm (P:Program) (f:FuncId) (args:List V) (h:ae) (v:V) (ab:ae):Prop:=
 f≠dx/\(((∃fn,P.funcs[f]? =some fn/\fn.body.isSome=true)/\∀(al:Fr) E w xs,bm E args xs->a6 al E h w->
  Calls P f xs.toArray w fun e w'=>∃aw x,e=.returned x/\E.le aw/\Rel aw v x/\a6 al aw ab w')\/
 ∀(al:Fr) E w xs,bm E args xs->a6 al E h w->∃aw x w',(callFunc f xs.toArray).run P w=.ok (.value x) w'/\E.le aw/\Rel aw v x/\a6 al aw ab w')
def Py (P:Program) (args:List V) (b:aN) (h:ae) (v:V) (ab:ae):Prop:=
 ∀(al:Fr) E w xs p,bm E args xs->a6 al E h w->E b=some p->
  ∃f tmps assign body,(Instr.yield p.bd xs.toArray).run P w=.ok (.round p.bd f tmps assign body) w/\
   RoundIn (aK none) 0 P p.bd f tmps assign body w fun e w'=>∃aw x,e=.returned x/\E.le aw/\Rel aw v x/\a6 al aw ab w'
theorem gm.calls {P:Program} (bO:eO P) {f:FuncId} {args:List V} {h ab:ae} {v:V} (H:gm P f args h v ab) (ah:∃fn,P.funcs[f]? =some fn/\fn.body.isSome=true) (al:Fr) (E:Env) (w:World) (xs:List Value) (ay:bm E args xs) (s:a6 al E h w):
 Calls P f xs.toArray w fun e w'=>∃aw x,e=.returned x/\E.le aw/\Rel aw v x/\a6 al aw ab w':=by
 rcases H.2 with ⟨_,H⟩ | H
 . exact H al E w xs ay s
 . obtain ⟨aw,x,w',aa,_⟩:=H al E w xs ay s;obtain ⟨fn,U,ad⟩:=ah;rw [t' bO U ad] at aa;cases aa
def e9 (P:Program) (f:FuncId) (args:List V) (h:ae) (K:V->ae->Prop):Prop:=∃v ab,gm P f args h v ab/\K v ab
def YK (P:Program) (args:List V) (b:aN) (h:ae) (K:V->ae->Prop):Prop:=∃v ab,Py P args b h v ab/\K v ab
def Pz (P:Program) (xs:List V) (h:ae) (K:V->ae->Prop):Prop:=∃de b,xs=de++[.ptr b 0]/\YK P de b h K
def Po (P:Program) (f:FuncId) (args:List V) (h:ae) (v:V) (ab:ae):Prop:=
 f≠dx/\(∃fn,P.funcs[f]? =some fn/\fn.body.isSome=true)/\∀(al:Fr) E w xs,bm E args xs->a6 al E h w->
  Calls P f xs.toArray w fun e w'=>∃aw x,e=.panicked (l3 x)/\E.le aw/\Rel aw v x/\a6 al aw ab w'
def jB (P:Program) (f:FuncId) (args:List V) (h:ae) (K X:V->ae->Prop):Prop:=e9 P f args h K\/∃v ab,Po P f args h v ab/\X v ab
def OW (P:Program) (g:FuncId) (xs:List V) (h:ae) (K X:V->ae->Prop):Prop:=if g=dx then Pz P xs h K else jB P g xs h K X
abbrev kZ:Nat:=4294967297
def V.target (v:V) (args:List V):Option (FuncId × List V):=
 match v with
 | .func g cs=>some (g,args++cs)
 | .nW g cs=>some (g,cs++args)
 | _=>none
theorem Mw {v:V} {args xs:List V} {g:FuncId} (h:v.target args=some (g,xs)) (F:FuncId->List V->a8):v.x8 args F=F g xs:=by
 cases v<;>simp only [V.target] at h<;>try (cases h;done)
 all_goals (simp only [aqj,aru] at h;obtain ⟨rfl,rfl⟩:=h;rfl)
theorem e9.mono {P:Program} {f:FuncId} {args:List V} {h:ae} {K k7:V->ae->Prop} (c:e9 P f args h K) (ar:∀v ab,K v ab->k7 v ab):e9 P f args h k7:=by obtain ⟨v,ab,an,av⟩:=c;exact ⟨v,ab,an,ar v ab av⟩
theorem jB.mono {P:Program} {f:FuncId} {args:List V} {h:ae} {K k7 X A7:V->ae->Prop} (c:jB P f args h K X) (ar:∀v ab,K v ab->k7 v ab) (ay:∀v ab,X v ab->A7 v ab):jB P f args h k7 A7:=by
 rcases c with c | ⟨v,ab,an,av⟩
 . exact .inl (c.mono ar)
 . exact .inr ⟨v,ab,an,ay v ab av⟩
def jw:eF:=fun _ _ _=>.fail
theorem tM (P:Program):gu P jw/\gB P jw:=
 ⟨⟨fun _ f args h v ab _ he=>by simp [jw] at he,fun _ f args h v ab _ he=>by simp [jw] at he,fun _ args b h v ab he=>by simp [jw] at he,fun args h v ab he=>by simp [jw] at he⟩,fun f args h v ab he=>by simp [jw] at he⟩
open Classical in
def oR (f:FuncId) (args:List V) (h:ae) (v:V) (ab:ae):eF:=
 fun f1 b7 U=>if f1=f/\b7=args/\U=h then .val v ab else .fail
theorem VC {P:Program} {f:FuncId} {args:List V} {h ab:ae} {v:V} (H:gm P f args h v ab):gu P (oR f args h v ab)/\gB P (oR f args h v ab):=by
 refine ⟨⟨fun al f1 b7 U v1 jZ _ he=>?_,fun al f1 b7 U v1 jZ _ he=>?_,fun al b7 b U v1 jZ he=>?_,fun b7 U v1 jZ he=>?_⟩,fun f1 b7 U v1 jZ he=>?_⟩
 . unfold oR at he
   split at he
   . rename_i aq;obtain ⟨rfl,rfl,rfl⟩:=aq;simp only [a8.val.injEq] at he;obtain ⟨rfl,rfl⟩:=he;intro E w xs ay s;rcases H.2 with H | H
     . exact .inl ⟨H.1,H.2 al E w xs ay s⟩
     . exact .inr (H al E w xs ay s)
   . cases he
 . unfold oR at he
   split at he<;>cases he
 . unfold oR at he
   split at he
   . rename_i aq;exact absurd aq.1.symm H.1
   . cases he
 . unfold oR at he
   split at he<;>cases he
 . trivial
open Classical in
def vG (f:FuncId) (args:List V) (h:ae) (v:V) (ab:ae):eF:=
 fun f1 b7 U=>if f1=f/\b7=args/\U=h then .cB v ab else .fail
theorem VA {P:Program} {f:FuncId} {args:List V} {h ab:ae} {v:V} (H:Po P f args h v ab):gu P (vG f args h v ab)/\gB P (vG f args h v ab):=by
 refine ⟨⟨fun al f1 b7 U v1 jZ _ he=>?_,fun al f1 b7 U v1 jZ _ he=>?_,fun al b7 b U v1 jZ he=>?_,fun b7 U v1 jZ he=>?_⟩,fun f1 b7 U v1 jZ he=>?_⟩
 . unfold vG at he
   split at he<;>cases he
 . unfold vG at he
   split at he
   . rename_i aq;obtain ⟨rfl,rfl,rfl⟩:=aq;simp only [a8.cB.injEq] at he;obtain ⟨rfl,rfl⟩:=he;exact fun E w xs ay s=>⟨H.2.1,H.2.2 al E w xs ay s⟩
   . cases he
 . unfold vG at he
   split at he<;>cases he
 . unfold vG at he
   split at he
   . rename_i aq;exact absurd aq.1.symm H.1
   . cases he
 . trivial
theorem VB {f:FuncId} {args:List V} {h ab:ae} {v:V}:vG f args h v ab f args h=.cB v ab:=by unfold vG;rw [aqw ⟨rfl,rfl,rfl⟩]
theorem am5 {xs de:List V} {x y:V} (h:xs++[x]=de++[y]):xs=de/\x=y:=by have:=List.append_inj' h rfl;exact ⟨this.1,by simpa using this.2⟩
theorem ak0 {P:Program} {args:List V} {b:aN} {h ab:ae} {v:V} (H:Py P args b h v ab):gu P (oR dx (args++[.ptr b 0]) h v ab)/\gB P (oR dx (args++[.ptr b 0]) h v ab):=by
 refine ⟨⟨fun al f1 b7 U v1 jZ dK he=>?_,fun al f1 b7 U v1 jZ _ he=>?_,fun al b7 ct U v1 jZ he=>?_,fun b7 U v1 jZ he=>?_⟩,fun f1 b7 U v1 jZ he=>?_⟩
 . unfold oR at he
   split at he
   . rename_i aq;exact absurd aq.1 dK
   . cases he
 . unfold oR at he
   split at he<;>cases he
 . unfold oR at he
   split at he
   . rename_i aq;obtain ⟨_,aq,rfl⟩:=aq;obtain ⟨rfl,ah⟩:=am5 aq;simp only [V.ptr.injEq,and_true] at ah;subst ah;simp only [a8.val.injEq] at he;obtain ⟨rfl,rfl⟩:=he;exact fun E w xs p ay s ai=>H al E w xs p ay s ai
   . cases he
 . unfold oR at he
   split at he<;>cases he
 . trivial
theorem MH {f:FuncId} {args:List V} {h ab:ae} {v:V}:oR f args h v ab f args h=.val v ab:=by unfold oR;rw [aqw ⟨rfl,rfl,rfl⟩]
def a7.set (r:a7) (d:Option Nat) (v:V):a7:=
 match d with
 | none=>r
 | some d=>fun t=>if t=d then v else r t
def a7.trim (r:a7):List Nat->a7
 | [],_=>.bad
 | u::us,t=>if t=u then r t else a7.trim r us t
def a7.bz:List V->a7
 | [],_=>.bad
 | v::af,t=>if t=0 then v else a7.bz af (t-1)
def Dq (r:a7):List Nat->bQ
 | []=>.e
 | t::dp=>T.put .bad (r t) (aE t) (Dq r dp)
theorem W4 (r:a7):∀dp:List Nat,et (Dq r dp)=a7.trim r dp
 | []=>by funext t;simp [et,Dq,a7.trim]
 | u::dp=>by
   funext t;have aT:=congrFun (W4 r dp) t;simp only [et] at aT;simp only [et,Dq,a7.trim,T.ja];by_cases h:t=u
   . subst h;simp
   . rw [aqr (fun e=>h (lv e).symm),aqr h];exact aT
theorem uk (cS:bQ):∀dp:List Nat,et (ei cS dp)=a7.trim (et cS) dp
 | []=>by funext t;simp [et,ei,a7.trim]
 | u::dp=>by
   funext t;have aT:=congrFun (uk cS dp) t;simp only [et] at aT;simp only [et,ei,a7.trim,T.ja];by_cases h:t=u
   . subst h;simp
   . rw [aqr (fun e=>h (lv e).symm),aqr h];exact aT
theorem Oe {r:a7}:∀{dp:List Nat} {t:Nat},t ∈ dp->a7.trim r dp t=r t
 | [],t,h=>by simp at h
 | u::dp,t,h=>by
   simp only [a7.trim];by_cases hu:t=u
   . rw [aqw hu]
   . rw [aqr hu];simp only [aqN] at h;exact Oe (h.resolve_left hu)
theorem W5 {r:a7}:∀{dp:List Nat} {t:Nat},t ∉ dp->a7.trim r dp t=.bad
 | [],t,_=>rfl
 | u::dp,t,h=>by simp only [aqN,not_or] at h;simp only [a7.trim];rw [aqr h.1];exact W5 h.2
theorem Nr (d:Option Nat) (cS:bQ) (v:V):et ((gl d).run cS v)=(et cS).set d v:=by
 cases d with
 | none=>rfl
 | some d=>
   funext t;simp only [et,gl,a7.set,T.ja];by_cases h:t=d
   . subst h;simp
   . rw [aqr (fun e=>h (lv e).symm),aqr h]
def Out (au:Nat) (r:a7):Prop:=∀t,au<=t->t≠cd->r t=.bad
theorem uY {au:Nat} {r:a7} (aU:Out au r):∃cS,et cS=r:=by
 refine ⟨Dq r (cd::List.range au),?_⟩;rw [W4];funext t;by_cases h:t<au
 . exact Oe (aq2 _ (arQ.2 h))
 . by_cases ad:t=cd
   . exact Oe (by rw [ad];exact aq8)
   . rw [W5 (by simp only [aqN,arQ,not_or];exact ⟨ad,h⟩),aU t (by omega) ad]
theorem Out.set {au:Nat} {r:a7} (aU:Out au r) {d:Option Nat} (aY:fm au d=true) (v:V):Out au (r.set d v):=by
 intro t aB az;cases d with
 | none=>exact aU t aB az
 | some d=>
   simp only [fm,aqi,aqS] at aY;simp only [a7.set];rw [aqr (by omega)];exact aU t aB az
theorem Ao {au:Nat} {r:a7} {d:Option Nat} (aY:fm au d=true) (v:V):r.set d v cd=r cd:=by
 cases d with
 | none=>rfl
 | some d=>
   simp only [fm,aqi,aqS,aqE] at aY;simp only [a7.set];rw [aqr (by have:=aY.2;unfold top at this;unfold cd;omega)]
theorem G_ (r:a7) (v:V):r.set (some h7) v cd=r cd:=by simp only [a7.set];rw [aqr (by decide)]
structure h' (E:Env) (au:Nat) (r:a7) (a:Act):Prop where
 size:a.tmps.size=au
 defers:lD E (r cd) a.defers
 ax:∀t,t≠cd->Rel E (r t) (a.tmps.getD t undef)
theorem mI {t:Nat} (h:t<=top):t≠cd:=by unfold top at h;unfold cd;omega
theorem h'.mono {E aw:Env} (h:E.le aw) {au:Nat} {r:a7} {a:Act} (k:h' E au r a):h' aw au r a:=
 ⟨k.size,k.defers.mono h,fun t aB=>Rel.mono h _ _ (k.ax t aB)⟩
theorem h'.put {E aw:Env} (h:E.le aw) {au:Nat} {r:a7} {a:Act} (k:h' E au r a) {d:Option Nat} (aY:fm au d=true) {v:V} {x:Value} (ay:Rel aw v x):h' aw au (r.set d v) (a.put d x):=by
 cases d with
 | none=>exact k.mono h
 | some d=>
   have az:=Ao (r:=r) aY v;simp only [fm,aqi,aqS] at aY;refine ⟨by simp [Act.put,k.size],by rw [az];exact k.defers.mono h,fun t fV=>?_⟩;simp only [a7.set,Act.put];rw [aqM,aqF];by_cases aB:t=d
   . subst aB;rw [aqw rfl,aqw rfl,aqw (by rw [k.size];exact aY.1)];exact ay
   . rw [aqr aB,aqr (fun e=>aB e.symm),<-Array.getD_eq_getD_getElem?];exact Rel.mono h _ _ (k.ax t fV)
def G.wp (P:Program) (g:G) (r:a7) (h:ae) (K X:V->ae->Prop):Prop:=
 match g with
 | .call f args=>jB P f (aW.gh r args) h K X
 | .o7 f args=>∃g xs,(f.aS r).target (aW.gh r args)=some (g,xs)/\OW P g xs h K X
 | .cB x=>∃t v,x.aS r=.iface t v/\X (.iface t v) h
 | g=>∃v ab,g.run P jw r h=.val v ab/\K v ab
theorem G.yE {P:Program} {g:G} {r:a7} {h:ae} {K X:V->ae->Prop} (H:g.wp P r h K X):
 (∃call v ab,((gu P call/\gB P call)/\(g.mn=false->call=jw))/\g.run P call r h=.val v ab/\K v ab)\/(∃call v ab,(gu P call/\gB P call)/\g.mn=true/\g.run P call r h=.cB v ab/\X v ab):=by
 cases g
 case call f args=>
  rcases H with ⟨v,ab,an,av⟩ | ⟨v,ab,an,av⟩
  . exact .inl ⟨_,v,ab,⟨VC an,fun e=>by cases e⟩,MH,av⟩
  . exact .inr ⟨_,v,ab,VA an,rfl,VB,av⟩
 case o7 f args=>
  obtain ⟨g,xs,aA,H⟩:=H;unfold OW at H
  split at H
  rotate_left
  . rcases H with ⟨v,ab,an,av⟩ | ⟨v,ab,an,av⟩
    . refine .inl ⟨_,v,ab,⟨VC an,fun e=>by cases e⟩,?_,av⟩;simp only [G.run];rw [Mw aA];exact MH
    . refine .inr ⟨_,v,ab,VA an,rfl,?_,av⟩;simp only [G.run];rw [Mw aA];exact VB
  . rename_i aJ;subst aJ;obtain ⟨de,b,rfl,v,ab,an,av⟩:=H;refine .inl ⟨_,v,ab,⟨ak0 an,fun e=>by cases e⟩,?_,av⟩;simp only [G.run];rw [Mw aA];exact MH
 case cB x=>
  obtain ⟨t,v,an,av⟩:=H;exact .inr ⟨jw,_,h,tM P,rfl,by simp only [G.run,an,Aa],av⟩
 all_goals
  obtain ⟨v,ab,an,av⟩:=H;exact .inl ⟨jw,v,ab,⟨tM P,fun _=>rfl⟩,an,av⟩
structure bJ where
 dst:Option Nat
 g:G
 JW:Option (Nat × Bool)
 rs:List Nat
def bJ.bad:bJ:=⟨none,.bad,none,[]⟩
def gate (v:V) (want:Bool) (A B:Prop):Prop:=
 match v with
 | .bool b=>(b=want->A)/\(b=!want->B)
 | .tuple _=>B
 | _=>False
def bJ.wp (P:Program) (o:bJ) (r:a7) (h:ae) (K:a7->V->ae->Prop) (X:V->ae->Prop):Prop:=
 match o.JW with
 | none=>o.g.wp P (r.trim o.rs) h (fun v ab=>K (r.set o.dst v) v ab) X
 | some (d,want)=>gate (r.trim o.rs d) want (o.g.wp P (r.trim o.rs) h (fun v ab=>K (r.set o.dst v) v ab) X) (K (r.set o.dst (.tuple [])) (.tuple []) h)
def lz (P:Program) (au:Nat) (all:Array Oper) (o:Oper):bJ:=
 bif fm au o.dst&&jk (b8 all o) then
  match o.guard with
  | none=>⟨o.dst,qp P o.op,none,b8 all o⟩
  | some (j,want)=>match all[j]? with
    | some g=>match g.dst with
      | some d=>bif Nat.blt d au&&Nat.ble d top then ⟨o.dst,qp P o.op,some (d,want),b8 all o⟩ else bJ.bad
      | none=>bJ.bad
    | none=>bJ.bad
 else bJ.bad
def k0 (P:Program) (au:Nat) (all:Array Oper):List Oper->List bJ
 | []=>[]
 | o::os=>lz P au all o::k0 P au all os
theorem yo (P:Program) (au:Nat) (all:Array Oper):∀l:List Oper,k0 P au all l=l.map (lz P au all)
 | []=>rfl
 | o::os=>by simp [k0,yo P au all os]
def aW.isNil:aW->Bool
 | .c .mK=>true
 | _=>false
def tW (P:Program) (au:Nat) (all:Array Oper) (o:Oper):bJ:=
 match o.op,o.guard with
 | .binOp op t x y _,none=>match yi P op t with
   | some neg=>bif !((rx x).isNil||(rx y).isNil)&&(fm au o.dst&&jk (b8 all o)) then ⟨o.dst,.C4 neg (rx x) (rx y),none,b8 all o⟩ else lz P au all o
   | none=>lz P au all o
 | .defer c,none=>match c.callee with
   | .value f=>bif o.dst.isNone&&jk (b8 all o) then ⟨some cd,.gg (rx f) (l' c.args.toList),none,cd::b8 all o⟩ else bJ.bad
   | _=>bJ.bad
 | _,_=>lz P au all o
def bJ.Gj (o:bJ):Bool:=
 match o.g with
 | .gg _ _=>false
 | _=>true
def vR (P:Program) (au:Nat) (all:Array Oper):List Oper->List bJ
 | []=>[]
 | o::os=>tW P au all o::vR P au all os
theorem bJ.Bd {P:Program} {r:a7} {h:ae} {K:a7->V->ae->Prop} {X:V->ae->Prop}:¬bJ.bad.wp P r h K X:=by rintro ⟨v,ab,q,_⟩;cases q
theorem bJ.yE {P:Program} {au:Nat} {all:Array Oper} {o:Oper} {r:a7} {h:ae} {K:a7->V->ae->Prop} {X:V->ae->Prop} (H:(lz P au all o).wp P r h K X):
 (∃call v ab,((gu P call/\gB P call)/\((lz P au all o).g.mn=false->call=jw))/\fm au o.dst=true/\K (r.set o.dst v) v ab/\∀cS,et cS=r->(cQ P au all o).run call cS h=.val v ab)\/
 (∃call v ab,(gu P call/\gB P call)/\j5 o.op=true/\X v ab/\∀cS,et cS=r->(cQ P au all o).run call cS h=.cB v ab):=by
 unfold lz at H ⊢;cases aq:(fm au o.dst&&jk (b8 all o)) with
 | false=>rw [aq] at H;exact absurd H bJ.Bd
 | true=>
   have aY:fm au o.dst=true:=by simp only [aqi] at aq;exact aq.1
   rw [aq] at H;simp only [aqo] at H ⊢;cases aJ:o.guard with
   | none=>
     rw [aJ] at H;rcases G.yE H with ⟨call,v,ab,an,av,aH⟩ | ⟨call,v,ab,an,tU,av,aH⟩
     . refine .inl ⟨call,v,ab,an,aY,aH,fun cS d_=>?_⟩;unfold cQ;rw [aq];simp only [aqo,aJ,jF];refine Wl ?_;rw [uk,d_];exact av
     . refine .inr ⟨call,v,ab,an,NG tU,aH,fun cS d_=>?_⟩;unfold cQ;rw [aq];simp only [aqo,aJ,jF];refine Wk tU ?_;rw [uk,d_];exact av
   | some rb=>
     obtain ⟨j,want⟩:=rb;rw [aJ] at H;simp only at H ⊢;cases bU:all[j]? with
     | none=>rw [bU] at H;exact absurd H bJ.Bd
     | some g=>
       rw [bU] at H;simp only at H ⊢;cases lO:g.dst with
       | none=>rw [lO] at H;exact absurd H bJ.Bd
       | some d=>
         rw [lO] at H;simp only at H ⊢;cases ah:(Nat.blt d au&&Nat.ble d top) with
         | false=>rw [ah] at H;exact absurd H bJ.Bd
         | true=>
           rw [ah] at H;simp only [aqo,bJ.wp] at H;simp only [aqo];have key:cQ P au all o=⟨jF (some (pT (aE d),want)) (fU P o) (b8 all o)⟩:=by unfold cQ;rw [aq];simp only [aqo,aJ,bU,lO,ah]
           have zs:∀cS,et cS=r->(pT (aE d)).run (ei cS (b8 all o))=r.trim (b8 all o) d:=by intro cS d_;rw [<-d_,<-uk];rfl
           cases bE:r.trim (b8 all o) d<;>rw [bE] at H<;>simp only [gate] at H
           case bool b=>
            by_cases Tj:b=want
            . have Ti:(bif want then b else !b)=true:=by subst Tj;cases b<;>rfl
              rcases G.yE (H.1 Tj) with ⟨call,v,ab,an,av,aH⟩ | ⟨call,v,ab,an,tU,av,aH⟩
              . refine .inl ⟨call,v,ab,an,aY,aH,fun cS d_=>?_⟩;rw [key];simp only [jF,zs cS d_,bE];rw [Ti];simp only [aqo];refine Wl ?_;rw [uk,d_];exact av
              . refine .inr ⟨call,v,ab,an,NG tU,aH,fun cS d_=>?_⟩;rw [key];simp only [jF,zs cS d_,bE];rw [Ti];simp only [aqo];refine Wk tU ?_;rw [uk,d_];exact av
            . have E5:b=!want:=by cases b<;>cases want<;>simp_all
              refine .inl ⟨jw,.tuple [],h,⟨tM P,fun _=>rfl⟩,aY,H.2 E5,fun cS d_=>?_⟩;rw [key];simp only [jF,zs cS d_,bE];rw [show (bif want then b else !b)=false from by subst E5;cases want<;>rfl];rfl
           case tuple af=>
            refine .inl ⟨jw,.tuple [],h,⟨tM P,fun _=>rfl⟩,aY,H,fun cS d_=>?_⟩;rw [key];simp only [jF,zs cS d_,bE]
def uw (P:Program):List bJ->a7->ae->(a7->ae->Prop)->(a7->V->ae->Prop)->Prop
 | [],r,h,K,_=>K r h
 | o::os,r,h,K,X=>o.wp P r h (fun bu _ ab=>uw P os bu ab K X) (X r)
structure fL where
 r:a7
 h:ae
 v:V
def k3 (P:Program):List bJ->a7->ae->(List fL->a7->ae->Prop)->(List fL->a7->ae->V->ae->Prop)->Prop
 | [],r,h,K,_=>K [] r h
 | o::os,r,h,K,X=>o.wp P r h (fun bu v ab=>k3 P os bu ab (fun es db aA=>K (⟨r,h,v⟩::es) db aA) (fun es ca U x ad=>X (⟨r,h,v⟩::es) ca U x ad)) (fun x ab=>X [] r h x ab)
def va (es:List fL) (aA:ae) (i:Nat):ae:=
 match es[i]? with
 | some e=>e.h
 | none=>aA
def s7 (P:Program) (o:Option bJ) (e:Option fL) (es:List fL) (aA:ae):List Nat->Prop
 | []=>True
 | s::dW=>(match o,e with
   | some o,some e=>o.wp P e.r (va es aA s) (fun _ ej _=>ej=e.v) (fun _ _=>False)
   | _,none=>True
   | none,some _=>False)/\s7 P o e es aA dW
def mX (P:Program) (ops:List bJ) (es:List fL) (aA:ae):List (Nat × List Nat)->Prop
 | []=>True
 | (p,dW)::rest=>s7 P ops[p]? es[p]? es aA dW/\mX P ops es aA rest
inductive bL where
 | bad
 | skip
 | ax (ops:List bJ)
 | draw (ops:List bJ) (asks:List (Nat × List Nat)) (jP wl:List Nat)
 | Bv (ops:List bJ) (asks:List (Nat × List Nat))
 | seq (a b:bL)
 | cond (c:aW) (a b:bL)
 | block (id:Nat) (b:bL)
 | loop (b:bL)
 | exit (id:Nat)
 | ret
 | range (f:aW) (bC:List Nat) (au:Nat) (a b:bL)
def rQ (P:Program) (ops:List Oper) (eS aF e7:List Nat):Nat->List Oper->List (Nat × List Nat)
 | _,[]=>[]
 | i,o::os=>bif looks o.op&&!fr P o.op then
    (posOf aF i,e7.filter (ri P eS ops aF i ((eS[i]?).getD 0)))::rQ P ops eS aF e7 (i+1) os
   else rQ P ops eS aF e7 (i+1) os
def C2 (ops:Array Oper) (order aF:List Nat):Nat->List Oper->List Nat
 | _,[]=>[]
 | i,o::os=>bif j5 o.op&&vJ ops order aF i then i::C2 ops order aF (i+1) os else C2 ops order aF (i+1) os
def xK (n:Nat):List Nat->Bool
 | []=>false
 | m::ms=>bif Nat.beq m n then true else xK n ms
theorem MX {ops:Array Oper} {order aF:List Nat} {n:Nat}:∀{l:List Oper} {i:Nat},xK n (C2 ops order aF i l)=true->vJ ops order aF n=true
 | [],i,h=>by cases h
 | o::os,i,h=>by
   unfold C2 at h;cases aq:(j5 o.op&&vJ ops order aF i) with
   | false=>rw [aq] at h;exact MX h
   | true=>
     rw [aq] at h;simp only [aqo,xK] at h;cases ah:Nat.beq i n with
     | false=>rw [ah] at h;exact MX h
     | true=>
       rw [aqT] at ah;subst ah;simp only [aqi] at aq;exact aq.2
def te:List Oper->List Nat
 | []=>[]
 | o::os=>match o.dst with
   | some d=>bif Nat.ble d top then d::te os else te os
   | none=>te os
def bL.U5 (ops:List bJ) (asks:List (Nat × List Nat)) (jP wl:List Nat):bL:=
 match jP with
 | []=>.draw ops asks [] []
 | p::bC=>.draw ops asks (p::bC) wl
def NF (P:Program) (au:Nat) (ops:Array Oper) (order aF:List Nat):bL:=
 bif lx ops.size order aF&&y8 P ops aF then
  bL.U5 (k0 P au ops (fA ops order)) (bif o6 P ops.toList then rQ P ops.toList (eQ [] ops.toList) aF (gR P aF 0 ops.toList) 0 ops.toList else []) (C2 ops order aF 0 (fA ops order)) (te ops.toList)
 else bif lx ops.size order aF&&(uj P ops order aF&&(k0 P au ops (fA ops order)).all fun o=>!o.g.mn) then
  .Bv (k0 P au ops (fA ops order)) (rQ P ops.toList (eQ [] ops.toList) aF (gR P aF 0 ops.toList) 0 ops.toList)
 else .bad
def v7 (ops:List bJ) (es:List fL) (p:Nat):V:=
 match ops[p]? with
 | some o=>(match es[p]? with
   | some e=>(match o.g with
     | .st _ x _=>x.aS (e.r.trim o.rs)
     | _=>.bad)
   | none=>.bad)
 | none=>.bad
def PH (x y:V):Prop:=
 match x with
 | .ptr b _=>(match y with
   | .ptr c _=>b≠c
   | _=>False)
 | _=>False
def D2 (P:Program) (ops:List bJ) (es:List fL) (aA:ae) (asks:List (Nat × List Nat)):Prop:=
 PH (v7 ops es (ops.length-3+1)) (v7 ops es (ops.length-3+2))/\mX P ops (es.take (ops.length-3)) (va es aA (ops.length-3)) asks
def a7.sF (r:a7):List Nat->a7
 | []=>r
 | d::ds=>(a7.sF r ds).set (some d) .bad
def BE (es:List fL) (r:a7):a7:=
 match es with
 | []=>r
 | e::_=>e.r
def fI (P:Program) (au:Nat):Code->bL
 | .skip=>.skip
 | .label _=>.skip
 | .region _ ops draw=>bif draw then NF P au ops (CX P ops) (GK (CX P ops) 0 ops.toList) else .ax (vR P au ops ops.toList)
 | .seq a b=>.seq (fI P au a) (fI P au b)
 | .cond c a b=>.cond (rx c) (fI P au a) (fI P au b)
 | .block id b=>bif Nat.beq id kZ then .bad else .block id (fI P au b)
 | .loop b=>.loop (fI P au b)
 | .exit id=>.exit id
 | .ret=>.ret
 | .scope b=>fI P au b
 | .rangeFunc f bC a b=>bif vM au bC.toList&&(noMark a&&noMark b) then .range (rx f) bC.toList au (fI P au a) (fI P au b) else .bad
 | _=>.bad
structure Yj (P:Program) (l:AY) (au:Nat) (r:a7) (bC:List Nat) (Nw ame:bL):Prop where
 aL:l.au=au
 aa:et l.r=r
 ai:l.bC=bC
 a_:fI P au l.assign=Nw
 ah:fI P au l.body=ame
 ov:vM au bC=true
 apB:noMark l.assign=true
 apC:noMark l.body=true
 out:Out au r
def bV.andThen:bV->Prop->Prop->Prop
 | .normal,A,_=>A
 | _,_,B=>B
def bV.leave (id:Nat):bV->bV
 | .exit i=>if i=id then .normal else .exit i
 | e=>e
def fZ (P:Program):bL->a7->ae->(bV->a7->ae->Prop)->Prop
 | .bad,_,_,_=>False
 | .skip,r,h,Q=>Q .normal r h
 | .ax ops,r,h,Q=>uw P ops r h (Q .normal) fun bu x ab=>Q (.exit kZ) (bu.set (some h7) x) ab
 | .draw ops asks jP wl,r,h,Q=>k3 P ops r h (fun es db aA=>mX P ops es aA asks/\Q .normal db aA) fun es ca U x ad=>(xK es.length jP=true/\mX P ops es U asks)/\Q (.exit kZ) ((a7.sF (BE es ca) wl).set (some h7) x) ad
 | .Bv ops asks,r,h,Q=>k3 P ops r h (fun es db aA=>D2 P ops es aA asks/\Q .normal db aA) fun _ _ _ _ _=>False
 | .seq a b,r,h,Q=>fZ P a r h fun e bu ab=>e.andThen (fZ P b bu ab Q) (Q e bu ab)
 | .cond c a b,r,h,Q=>match c.aS r with
   | .bool t=>(t=true->fZ P a r h Q)/\(t=false->fZ P b r h Q)
   | _=>False
 | .block id b,r,h,Q=>fZ P b r h fun e bu ab=>Q (e.leave id) bu ab
 | .loop b,r,h,Q=>∃(I:a7->ae->Prop) (μ:a7->ae->Nat),I r h/\∀r h,I r h->fZ P b r h fun e bu ab=>e.andThen (I bu ab/\μ bu ab<μ r h) (Q e bu ab)
 | .exit id,r,h,Q=>Q (.exit id) r h
 | .ret,r,h,Q=>Q .ret r h
 | .range f bC au a b,r,h,Q=>∃g cs,f.aS r=.func g cs/\g≠dx/\(∃fn,P.funcs[g]? =some fn/\fn.body.isSome=true)/\∀l,Yj P l au r bC a b->l.st=0->l.iK=none->
    e9 P g (.func dx [.ptr (aE (h.next+1)) 0]::cs) ((h.new .gg).new (.e2 l)) fun _ ab=>
     ∃ed,ab.get (aE (h.next+1))=.e2 ed/\ed.st≠1/\Q (ed.iK.getD .normal) (r.set (some cd) (.tuple (.ptr (aE h.next) 0::(r cd).list))) (ab.set (aE (h.next+1)) .dead)
def bL.plain:bL->Bool
 | .seq a b=>a.plain&&b.plain
 | .cond _ a b=>a.plain&&b.plain
 | .block _ b=>b.plain
 | .loop b=>b.plain
 | .range _ _ _ _ _=>false
 | .ax ops=>ops.all bJ.Gj
 | _=>true
def XR (P:Program) (au:Nat) (c:Code) (r:a7) (h:ae) (e:bV) (bu:a7) (ab:ae):Prop:=
 ∀(rd:Option Nat) (al:Fr) E a w,(rd=none\/noMark c=true)->h' E au r a->a6 al E h w->∀Q:Exit->Act->World->Prop,
  (∀aw a1 w',E.le aw->h' aw au bu a1->a6 al aw ab w'->Q (toExit e) a1 w')->Dv rd P c Q a w
def XQ (P:Program) (au:Nat) (c:Code) (r:a7) (h:ae) (x:V) (bu:a7) (ab:ae):Prop:=
 ∀(rd:Option Nat) (al:Fr) E a w,(rd=none\/noMark c=true)->h' E au r a->a6 al E h w->∀Q:Exit->Act->World->Prop,
  (∀aw a1 w' y,E.le aw->h' aw au bu a1->Rel aw x y->a6 al aw ab w'->Q (.panic (l3 y)) a1 w')->Dv rd P c Q a w
def AH (P:Program) (au:Nat) (c:Code) (pl:Bool) (r:a7) (h:ae) (Q:bV->a7->ae->Prop):Prop:=
 (∃e bu ab,Q e bu ab/\(Out au bu/\(pl=true->bu cd=r cd))/\XR P au c r h e bu ab)\/
 (∃x bu ab,Q (.exit kZ) (bu.set (some h7) x) ab/\(Out au bu/\(pl=true->bu cd=r cd))/\XQ P au c r h x bu ab)
section
variable {P:Program} {au:Nat}
theorem amm (P:Program) (au:Nat) (all:Array Oper) (o:Oper):tW P au all o=lz P au all o\/(∃op t x y u neg,o.op=.binOp op t x y u/\o.guard=none/\yi P op t=some neg/\fm au o.dst=true/\jk (b8 all o)=true/\tW P au all o=⟨o.dst,.C4 neg (rx x) (rx y),none,b8 all o⟩)\/
 (∃f args types,o.op=.defer ⟨.value f,args,types⟩/\o.guard=none/\o.dst=none/\jk (b8 all o)=true/\tW P au all o=⟨some cd,.gg (rx f) (l' args.toList),none,cd::b8 all o⟩)\/tW P au all o=bJ.bad:=by
 obtain ⟨dst,op,type,pos,after,guard⟩:=o;cases op<;>try (exact .inl rfl)
 . rename_i op t x y u;cases guard with
   | some g=>exact .inl rfl
   | none=>
     simp only [tW];cases ai:yi P op t with
     | none=>exact .inl rfl
     | some neg=>
       simp only;cases aq:(!((rx x).isNil||(rx y).isNil)&&(fm au dst&&jk (b8 all ⟨dst,.binOp op t x y u,type,pos,after,none⟩))) with
       | false=>exact .inl rfl
       | true=>
         simp only [aqi] at aq;exact .inr (.inl ⟨op,t,x,y,u,neg,by first | rfl | trivial,by first | rfl | trivial,ai,by first | exact aq.2.1 | trivial,by first | exact aq.2.2 | trivial,by first | rfl | trivial⟩)
 . rename_i c;cases guard with
   | some g=>exact .inl rfl
   | none=>
     obtain ⟨callee,args,types⟩:=c;cases callee with
     | value f=>
       simp only [tW];cases aq:(dst.isNone&&jk (b8 all ⟨dst,.defer ⟨.value f,args,types⟩,type,pos,after,none⟩)) with
       | false=>exact .inr (.inr (.inr rfl))
       | true=>
         simp only [aqi,Option.isNone_iff_eq_none] at aq;exact .inr (.inr (.inl ⟨f,args,types,by first | rfl | trivial,by first | rfl | trivial,by first | exact aq.1 | trivial,by first | exact aq.2 | trivial,by first | rfl | trivial⟩))
     | _=>exact .inr (.inr (.inr rfl))
theorem bJ.an' (bO:eO P) {all:Array Oper} {o:Oper} {i:Nat} (aG:all[i]? =some o) {r:a7} {h:ae} {K:a7->V->ae->Prop} {X:V->ae->Prop} (aU:Out au r) (H:(tW P au all o).wp P r h K X):
 (∃bu v ab,K bu v ab/\Out au bu/\((tW P au all o).Gj=true->bu cd=r cd)/\∀(rd:Option Nat) (al:Fr) E a w,(rd=none\/z6 o=true)->h' E au r a->a6 al E h w->∀(Q:Exit->Act->World->Prop) (C:Act->World->Prop),
   (∀aw a1 w',E.le aw->h' aw au bu a1->a6 al aw ab w'->C a1 w')->wpOpIn (aK rd) 0 P all Q i C a w)\/
 (∃x ab,X x ab/\∀(rd:Option Nat) (al:Fr) E a w,h' E au r a->a6 al E h w->∀(Q:Exit->Act->World->Prop) (C:Act->World->Prop),
   (∀aw a1 w' y,E.le aw->h' aw au r a1->Rel aw x y->a6 al aw ab w'->Q (.panic (l3 y)) a1 w')->wpOpIn (aK rd) 0 P all Q i C a w):=by
 obtain ⟨cS,d_⟩:=uY aU;rcases amm P au all o with e | ⟨op,t,x,y,u,neg,aM,bh,cu,dA,eY,gE⟩ | ⟨f,args,types,aM,bh,dA,eY,gE⟩ | e
 . rw [e] at H;rcases bJ.yE H with ⟨call,v,U,⟨aq,_⟩,aY,H1,da⟩ | ⟨call,v,U,aq,hm,H1,da⟩
   . refine .inl ⟨_,v,U,H1,aU.set aY v,fun _=>Ao aY v,fun rd al E a w _ k s Q C BK=>?_⟩;refine rW bO aq.1 aq.2 aG (da cS d_) k.size (fun t aB=>?_) s fun aw x w' an av aH=>BK aw _ w' an (k.put an aY av) aH;have:=congrFun d_ t;simp only [et] at this;rw [this];exact k.ax t (mI (aqQ (aqR.1 (lG (da cS d_)).2 t aB)))
   . refine .inr ⟨v,U,H1,fun rd al E a w k s Q C cR=>?_⟩;refine R_ bO aq.1 aq.2 aG (da cS d_) hm k.size (fun t aB=>?_) s fun aw x w' an av aH=>cR aw _ w' _ an (k.mono an) av aH;have:=congrFun d_ t;simp only [et] at this;rw [this];exact k.ax t (mI (aqQ (aqR.1 (Jo (da cS d_)).2 t aB)))
 . rw [gE] at H;simp only [bJ.wp,G.wp,G.run] at H;obtain ⟨v,ab,bE,ep⟩:=H;unfold Np at bE;cases aI:mO h ((rx x).aS (r.trim (b8 all o))) ((rx y).aS (r.trim (b8 all o))) with
   | none=>rw [aI] at bE;cases bE
   | some b=>
     rw [aI] at bE;simp only [a8.of,a8.val.injEq] at bE;obtain ⟨rfl,rfl⟩:=bE;refine .inl ⟨_,_,h,ep,aU.set dA _,fun _=>Ao dA _,fun rd al E a w _ k s Q C BK=>?_⟩
     have dE:RegRel0 E au (ei cS (b8 all o)) a:=⟨k.size,fun t aB=>by
      rw [Hm eY aB];by_cases hm:t ∈ b8 all o
      . rw [aqw hm];have:=congrFun d_ t;simp only [et] at this;rw [this];exact k.ax t (mI aB)
      . rw [aqr hm];simp [Rel]⟩
     have ex:∀z:Operand,(b9 z).run (ei cS (b8 all o))=(rx z).aS (r.trim (b8 all o)):=fun z=>by rw [fo,uk,d_]
     rw [<-ex,<-ex] at aI;obtain ⟨dst,akM,type,pos,after,guard⟩:=o;subst aM bh;obtain ⟨Z,gG,c_⟩:=VW (P:=P) (kh:=x) (ki:=y) s cu aI (ez dE x) (ez dE y);simp only [wpOpIn,aG,Region.wanted,aqu];exact hD rfl (eb.plain s gG c_) fun aw v w' an av aH=>BK aw _ w' an (k.put an dA av) aH
 . rw [gE] at H;simp only [bJ.wp,G.wp,G.run] at H;obtain ⟨v,ab,bE,ep⟩:=H;have TV:∀t ∈ b8 all o,t≠cd:=fun t aB=>mI (aqQ (aqR.1 eY t aB));have T0:∀z:Operand,(rx z).aS (r.trim (cd::b8 all o))=(b9 z).run (ei cS (b8 all o)):=fun z=>by
    rw [fo,uk,d_];cases z with
    | tmp t=>
      simp only [rx];cases ah:Nat.ble t top with
      | false=>rfl
      | true=>
        simp only [aqo,aW.aS,a7.trim];rw [aqr (mI (aqQ ah))]
    | const v=>rfl
    | func f=>simp only [rx];cases Nat.beq f dx<;>rfl
    | global g=>rfl
   have afM:∀l:List Operand,aW.gh (r.trim (cd::b8 all o)) (l' l)=(qP l).run (ei cS (b8 all o)):=fun l=>by
    induction l with
    | nil=>rfl
    | cons z l aT=>simp only [l',aW.gh,T0,aT];rfl
   have Lc:r.trim (cd::b8 all o) cd=r cd:=by simp [a7.trim]
   rw [T0,afM,Lc] at bE;cases r7:(b9 f).run (ei cS (b8 all o))<;>rw [r7] at bE<;>simp only at bE<;>try (cases bE;done)
   rename_i g cs;cases bg:Nat.beq g dx with
   | true=>rw [bg] at bE;cases bE
   | false=>
     rw [bg] at bE;simp only [aqt,a8.val.injEq] at bE;obtain ⟨rfl,rfl⟩:=bE;have BT:g≠dx:=fun e=>by rw [e] at bg;exact absurd bg (by decide)
     refine .inl ⟨_,_,h,ep,fun t U ad=>by simp only [a7.set];rw [aqr ad];exact aU t U ad,fun z=>by (rw [gE] at z;cases z),fun rd al E a w aa k s Q C BK=>?_⟩;obtain ⟨dst,akM,type,pos,after,guard⟩:=o;subst aM bh dA;rcases aa with rfl | aa
     case inr=>cases aa
     have dE:RegRel0 E au (ei cS (b8 all ⟨none,.defer ⟨.value f,args,types⟩,type,pos,after,none⟩)) a:=⟨k.size,fun t aB=>by
      rw [Hm eY aB];by_cases hm:t ∈ b8 all ⟨none,.defer ⟨.value f,args,types⟩,type,pos,after,none⟩
      . rw [aqw hm];have:=congrFun d_ t;simp only [et] at this;rw [this];exact k.ax t (mI aB)
      . rw [aqr hm];simp [Rel]⟩
     have aA:=ez dE f;rw [r7] at aA;simp only [Rel] at aA;rcases aA with ⟨_,ff,dD,aD⟩ | ⟨aJ,_⟩
     case inr=>exact absurd aJ BT
     simp only [wpOpIn,aG,Region.wanted,aqu];refine ⟨fun _ _=>trivial,?_⟩;have hex:((Oper.mk none (.defer ⟨.value f,args,types⟩) type pos after none).semAt (aK none).round a.eval).run P w=.ok (.defer {target:=.fn (.func g) ff,args:=#[]++args.map a.eval}) w:=by simp only [Oper.semAt_none,execOp,resolve,dD,Deferred.ofValue,pure_bind];rfl
     rw [hex];refine BK E _ w (Env.le.refl E) ?_ s;refine ⟨by simpa [Act.put] using k.size,?_,fun t aB=>?_⟩
     . simp only [a7.set,aqu,lD,mS];refine ⟨_,_,rfl,⟨BT,ff,rfl,?_⟩,k.defers.list⟩;have:=(qQ dE args.toList).append aD;simpa using this
     . simp only [a7.set];rw [aqr aB];exact k.ax t aB
 . rw [e] at H;exact absurd H bJ.Bd
theorem Xt (bO:eO P) {all:Array Oper}:∀(l:List Oper) (i:Nat),(∀j,l[j]? =all[i+j]?)->∀(r:a7) (h:ae) (K:a7->ae->Prop) (X:a7->V->ae->Prop),Out au r->uw P (vR P au all l) r h K X->
 (∃bu ab,K bu ab/\(Out au bu/\((vR P au all l).all bJ.Gj=true->bu cd=r cd))/\∀(rd:Option Nat) (al:Fr) E a w,(rd=none\/∀o ∈ l,z6 o=true)->h' E au r a->a6 al E h w->∀Q:Exit->Act->World->Prop,
   (∀aw a1 w',E.le aw->h' aw au bu a1->a6 al aw ab w'->Q .normal a1 w')->wpOpsIn (aK rd) 0 P all Q (List.range' i l.length) a w)\/
 (∃x bu ab,X bu x ab/\(Out au bu/\((vR P au all l).all bJ.Gj=true->bu cd=r cd))/\∀(rd:Option Nat) (al:Fr) E a w,(rd=none\/∀o ∈ l,z6 o=true)->h' E au r a->a6 al E h w->∀Q:Exit->Act->World->Prop,
   (∀aw a1 w' y,E.le aw->h' aw au bu a1->Rel aw x y->a6 al aw ab w'->Q (.panic (l3 y)) a1 w')->wpOpsIn (aK rd) 0 P all Q (List.range' i l.length) a w)
 | [],i,_,r,h,K,X,aU,H=>by refine .inl ⟨r,h,H,⟨aU,fun _=>rfl⟩,fun rd al E a w _ k s Q cR=>?_⟩;simp only [aqB,List.range'_zero,wpOpsIn];exact cR E a w (Env.le.refl E) k s
 | o::os,i,aD,r,h,K,X,aU,H=>by
   have aG:all[i]? =some o:=by have:=aD 0;simpa using this.symm
   simp only [vR,uw] at H;rcases bJ.an' bO aG aU H with ⟨ca,v,U,H1,lj,gk,da⟩ | ⟨x,U,H1,da⟩
   . have rest:=Xt bO os (i+1) (fun j=>by
      have:=aD (j+1);simp only [aq6] at this;rw [this];congr 1;omega) _ U K X lj H1
     rcases rest with ⟨b5,ad,an,av,aH⟩ | ⟨x,b5,ad,an,av,aH⟩
     . refine .inl ⟨b5,ad,an,⟨av.1,fun z=>by simp only [vR,arG,aqi] at z;exact (av.2 z.2).trans (gk z.1)⟩,fun rd al E a w aa k s Q cR=>?_⟩;rw [aqp,List.range'_succ,wpOpsIn_cons];refine da rd al E a w (aa.imp id fun z=>z o aq8) k s _ _ fun aw a1 w' cc cy eD=>?_;exact aH rd al aw a1 w' (aa.imp id fun z cm hz=>z cm (aq2 _ hz)) cy eD Q fun b1 a2 bn cp z2 z3=>cR b1 a2 bn (cc.trans cp) z2 z3
     . refine .inr ⟨x,b5,ad,an,⟨av.1,fun z=>by simp only [vR,arG,aqi] at z;exact (av.2 z.2).trans (gk z.1)⟩,fun rd al E a w aa k s Q cR=>?_⟩;rw [aqp,List.range'_succ,wpOpsIn_cons];refine da rd al E a w (aa.imp id fun z=>z o aq8) k s _ _ fun aw a1 w' cc cy eD=>?_;exact aH rd al aw a1 w' (aa.imp id fun z cm hz=>z cm (aq2 _ hz)) cy eD Q fun b1 a2 bn y cp z2 z3=>cR b1 a2 bn y (cc.trans cp) z2 z3
   . refine .inr ⟨x,r,U,H1,⟨aU,fun _=>rfl⟩,fun rd al E a w aa k s Q cR=>?_⟩;rw [aqp,List.range'_succ,wpOpsIn_cons];exact da rd al E a w k s _ _ cR
def toF (e:fj):fL:=⟨et e.r,e.h,e.v⟩
theorem Ki (es:List fj) (aA:ae) (i:Nat):va (es.map toF) aA i=cw es aA i:=by unfold va cw;rw [aq3];cases es[i]? <;>rfl
theorem OG {all:Array Oper}:∀(l:List Oper) (hn:bQ) (h:ae) (K:List fL->a7->ae->Prop) (X:List fL->a7->ae->V->ae->Prop),k3 P (k0 P au all l) (et hn) h K X->Out au (et hn)->
 (∃es h_ aA,K (es.map toF) (et h_) aA/\(Out au (et h_)/\et h_ cd=et hn cd)/\es.length=l.length/\cw es aA 0=h/\eN es h_ 0=hn/\
   ∀j o,l[j]? =some o->∃e call,es[j]? =some e/\((gu P call/\gB P call)/\((lz P au all o).g.mn=false->call=jw))/\(cQ P au all o).run call e.r e.h=.val e.v (cw es aA (j+1))/\eN es h_ (j+1)=(gl o.dst).run e.r e.v)\/
 (∃es h_ aA x ad,X (es.map toF) (et h_) aA x ad/\cw es aA 0=h/\eN es h_ 0=hn/\
   (∀j o,j<es.length->l[j]? =some o->∃e call,es[j]? =some e/\((gu P call/\gB P call)/\((lz P au all o).g.mn=false->call=jw))/\(cQ P au all o).run call e.r e.h=.val e.v (cw es aA (j+1))/\eN es h_ (j+1)=(gl o.dst).run e.r e.v)/\
   ∃o call,l[es.length]? =some o/\j5 o.op=true/\(gu P call/\gB P call)/\(cQ P au all o).run call h_ aA=.cB x ad)
 | [],hn,h,K,X,H,aU=>.inl ⟨[],hn,h,H,⟨aU,rfl⟩,rfl,rfl,rfl,fun j o bU=>by simp at bU⟩
 | o::os,hn,h,K,X,H,aU=>by
   simp only [k0,k3] at H;rcases bJ.yE H with ⟨call,v,U,aq,aY,H1,da⟩ | ⟨call,v,U,aq,hm,H1,da⟩
   . rw [<-Nr] at H1;rcases OG os _ U _ _ H1 (by rw [Nr];exact aU.set aY v) with ⟨es,h_,aA,an,av,aH,bP,cE,dG⟩ | ⟨es,h_,aA,x,ad,an,bP,cE,dG,fX⟩
     . refine .inl ⟨⟨hn,h,v⟩::es,h_,aA,an,⟨av.1,av.2.trans (by rw [Nr];exact Ao aY v)⟩,by simp [aH],by simp [cw],by simp [eN],fun j cm bU=>?_⟩;cases j with
       | zero=>
         simp only [aqz,aqj] at bU;subst bU;exact ⟨⟨hn,h,v⟩,call,rfl,aq,by rw [u_,bP];exact da hn rfl,by rw [vQ,cE]⟩
       | succ j=>
         obtain ⟨e,c,cc,cy,eD,jN⟩:=dG j cm (by simpa using bU);exact ⟨e,c,by simpa using cc,cy,by rw [u_];exact eD,by rw [vQ];exact jN⟩
     . obtain ⟨bb,bS,cp,z2,z3,z4⟩:=fX;refine .inr ⟨⟨hn,h,v⟩::es,h_,aA,x,ad,an,by simp [cw],by simp [eN],fun j cm aD bU=>?_,bb,bS,by simpa using cp,z2,z3,z4⟩;cases j with
       | zero=>
         simp only [aqz,aqj] at bU;subst bU;exact ⟨⟨hn,h,v⟩,call,rfl,aq,by rw [u_,bP];exact da hn rfl,by rw [vQ,cE]⟩
       | succ j=>
         obtain ⟨e,c,cc,cy,eD,jN⟩:=dG j cm (by simpa using aD) (by simpa using bU);exact ⟨e,c,by simpa using cc,cy,by rw [u_];exact eD,by rw [vQ];exact jN⟩
   . exact .inr ⟨[],hn,h,v,U,H1,rfl,rfl,fun j cm aD bU=>by simp at aD,o,call,rfl,hm,aq,da hn rfl⟩
theorem Is {o:Option bJ} {e:fL} {es:List fL} {aA:ae}:∀{dW:List Nat},s7 P o (some e) es aA dW->∀s ∈ dW,∃cm,o=some cm/\cm.wp P e.r (va es aA s) (fun _ ej _=>ej=e.v) (fun _ _=>False)
 | [],_,s,h=>by simp at h
 | iL::dW,H,s,hm=>by
   simp only [s7] at H;simp only [aqN] at hm;rcases hm with rfl | hm
   . cases o with
     | none=>exact H.1.elim
     | some o=>exact ⟨o,rfl,H.1⟩
   . exact Is H.2 s hm
theorem Iw {ops:List Oper} {eS aF e7:List Nat} {gs:List bJ} {es:List fL} {aA:ae}:∀{l:List Oper} {i:Nat},mX P gs es aA (rQ P ops eS aF e7 i l)->∀j o,l[j]? =some o->looks o.op=true->fr P o.op=false->
 s7 P gs[posOf aF (i+j)]? es[posOf aF (i+j)]? es aA (e7.filter (ri P eS ops aF (i+j) ((eS[i+j]?).getD 0)))
 | [],i,_,j,o,h,_,_=>by simp at h
 | cm::os,i,H,j,o,h,U,ad=>by
   simp only [rQ] at H;cases j with
   | zero=>
     simp only [aqz,aqj] at h;subst h;rw [U,ad] at H;simp only [Bool.not_false,arz,aqo,mX] at H;exact H.1
   | succ j=>
     have jC:mX P gs es aA (rQ P ops eS aF e7 (i+1) os):=by
      cases aq:(looks cm.op&&!fr P cm.op) with
      | true=>rw [aq] at H;simp only [aqo,mX] at H;exact H.2
      | false=>rw [aq] at H;exact H
     have:=Iw jC j o (by simpa using h) U ad;rw [show i+1+j=i + (j+1) from by omega] at this;exact this
theorem OB {au:Nat} {r:a7} (aU:Out au r):∀ds:List Nat,Out au (a7.sF r ds)
 | []=>aU
 | d::ds=>fun t U ad=>by
   simp only [a7.sF,a7.set]
   split
   . rfl
   . exact OB aU ds t U ad
theorem Dt {r:a7}:∀l:List Oper,a7.sF r (te l) cd=r cd
 | []=>rfl
 | o::os=>by
   simp only [te];cases o.dst with
   | none=>exact Dt os
   | some d=>
     cases ah:Nat.ble d top with
     | false=>simp only [ah,aqt];exact Dt os
     | true=>
       simp only [ah,aqo,a7.sF,a7.set];rw [aqr (fun e=>by rw [aqE] at ah;exact mI ah e.symm)];exact Dt os
theorem Ho {hn:bQ} {t:Nat} (aB:t<=top):∀l:List Oper,T.get .bad (aE t) (nC hn l)=a7.sF (et hn) (te l) t
 | []=>rfl
 | o::os=>by
   simp only [nC,te];cases o.dst with
   | none=>exact Ho aB os
   | some d=>
     cases ah:Nat.ble d top with
     | false=>simp only [ah,aqt];exact Ho aB os
     | true=>
       simp only [ah,aqo,a7.sF,a7.set,T.ja];by_cases e:t=d
       . subst e;simp
       . rw [aqr (fun q=>e (lv q).symm),aqr e];exact Ho aB os
theorem Sh {rd:Option Nat} (dt:P.follows .mixedOrders=true) (bO:eO P) {id:Nat} {ops:Array Oper} {order aF e7:List Nat} {al:Fr} {E:Env} {h:ae} {w:World} {a:Act} {calls:Nat->eF} {es:List fj} {hn h_:bQ} {ba:ae} {N:Nat}
 (oA:∀i,gu P (calls i)/\gB P (calls i)) (C:Cert P au ops calls es hn h h_ ba e7 order aF N ops.size false) (ar:RegRel0 E au hn a) (s:a6 al E h w) {Q:Exit->Act->World->Prop}
 (cR:N=ops.size->∀aw a1 w',E.le aw->RegRel0 aw au h_ a1->a1.defers=a.defers->a6 al aw ba w'->Q .normal a1 w')
 (ha:∀aw a1 w' x v ab,E.le aw->N<ops.size->ops.size<=ops.size->(∃i0 bp,ops[i0]? =some bp/\posOf aF i0=N/\(cQ P au ops bp).run (calls i0) h_ ba=.cB v ab)->RegRel0 aw au (nC hn ops.toList) a1->a1.defers=a.defers->Rel aw v x->a6 al aw ab w'->Q (.panic (l3 x)) a1 w'):
 (Code.region id ops true).wpIn (aK rd) 0 P Q a w:=by
 have eC:∀k,¬(Array.replicate ops.size false).getD k false=true:=by
  intro k;rw [u1,Array.getElem?_replicate]
  split<;>simp
 have lf:Holds al al es ba aF (k5 ops es ba aF (Array.replicate ops.size false) 0):=
  ⟨rfl,fun _ _=>rfl,fun k ar=>(by obtain ⟨_,_,_,_,aV⟩:=ar;omega),fun k bG ar=>(by obtain ⟨_,_,_,_,aV⟩:=ar;omega)⟩
 obtain ⟨iL,ew,g1,g2,g3,g4,g5,g6⟩:=C.advance N 0 (by omega) (fun k o _ _ _=>eC k) al lf (E:=E) (w:={w with drawn:=w.drawn}) (by rw [C.aV];exact s.same rfl rfl rfl rfl);refine Xr dt (Sg bO (fun i=>(oA i).1) (fun i=>(oA i).2) C (jo:=E) (D:=a.defers) cR ha (fun h=>absurd h (arv _)) ops.size _ a _ ?_ ?_)
 . exact aqn ar6 (by simp)
 . refine ⟨by simp,ar.size,rfl,fun bG ar=>absurd ar (eC bG),fun bG o e ar=>absurd ar (eC bG),E,iL,ew,Env.le.refl E,g1,g3,fun bG o U ad=>⟨fun h=>absurd h (eC bG),fun h=>by have:=g4 bG o U ad (aqZ _);omega⟩,
    fun bG o _ _ h=>absurd h (eC bG),g5,?_,fun t aB=>.inr ⟨fun bG o ar=>absurd ar (eC bG),ar.ax t aB⟩⟩
   exact g6.same rfl rfl rfl rfl
theorem anb {ops:Array Oper} {order:List Nat} {es:List fj} {p:Nat} {b:aN} {off:Nat} (h:v7 (k0 P au ops (fA ops order)) (es.map toF) p=.ptr b off) (lR:∀p i:Nat,order[p]? =some i->i<ops.size):Au ops order es p=some b\/∃i o e,order[p]? =some i/\ops[i]? =some o/\es[p]? =some e/\rv o=none:=by
 unfold v7 at h;rw [yo,aq3] at h;cases aG:order[p]? with
 | none=>
   have:(fA ops order)[p]? =none:=aqL (by rw [n1];exact List.getElem?_eq_none_iff.1 aG);rw [this] at h;cases h
 | some i=>
   have E8:=lR p i aG;have cL:ops[i]? =some ops[i]:=aqA E8;rw [lu aG cL] at h;simp only [arj,aq3] at h;cases he:es[p]? with
   | none=>rw [he] at h;cases h
   | some e=>
     rw [he] at h;simp only [arj] at h;cases az:rv ops[i] with
     | none=>exact .inr ⟨i,_,e,rfl,cL,rfl,az⟩
     | some x=>
       left;obtain ⟨t,y,aU,aY,aJ⟩:=Hi az;unfold Au;simp only [aG,cL,he,az]
       have aa:(lz P au ops ops[i]).g=(match bj P t with
        | none=>.bad
        | some aP=>.st aP.size (rx x) (rx y))\/(lz P au ops ops[i]).g=.bad:=by
        unfold lz;cases (fm au ops[i].dst&&jk (b8 ops ops[i])) with
        | false=>exact .inr rfl
        | true=>left;simp only [aqo,aJ,aU,qp]<;>rfl
       have TT:(lz P au ops ops[i]).g≠.bad->(lz P au ops ops[i]).rs=b8 ops ops[i]:=by
        unfold lz;cases (fm au ops[i].dst&&jk (b8 ops ops[i])) with
        | false=>intro h;exact absurd rfl h
        | true=>intro _;simp only [aqo,aJ]
       rcases aa with aa | aa
       . cases aB:bj P t with
         | none=>rw [aB] at aa;simp only at aa;rw [aa] at h;cases h
         | some aP=>
           rw [aB] at aa;simp only at aa;rw [aa] at h;simp only [toF] at h;rw [TT (by rw [aa];intro q;cases q),<-uk,<-fo] at h;rw [h]
       . rw [aa] at h;cases h
theorem acs (eZ:au<=top) (dt:P.follows .mixedOrders=true) (bO:eO P) {id:Nat} {ops:Array Oper} {order aF:List Nat} {r:a7} {h:ae} {Q:bV->a7->ae->Prop} (h3:lx ops.size order aF=true) (gi:uj P ops order aF=true)
 (Fc:((k0 P au ops (fA ops order)).all fun o=>!o.g.mn)=true) (aU:Out au r)
 (H:fZ P (.Bv (k0 P au ops (fA ops order)) (rQ P ops.toList (eQ [] ops.toList) aF (gR P aF 0 ops.toList) 0 ops.toList)) r h Q):AH P au (.region id ops true) true r h Q:=by
 simp only [fZ] at H;obtain ⟨lj,gX,jM⟩:=C6 h3;obtain ⟨aC,Cg⟩:=WW gi;have aeT:(k0 P au ops (fA ops order)).length=ops.size:=by rw [yo,aqJ,n1,lj]
 obtain ⟨hn,qW⟩:=uY aU;rw [<-qW] at H aU;rcases OG _ hn h _ _ H aU with ⟨es,h_,ba,⟨⟨pY,nE⟩,cR⟩,⟨h2,Fm⟩,an,av,aH,bP⟩ | ⟨_,_,_,_,_,dD,_⟩
 case inr=>exact dD.elim
 rw [aeT] at pY nE;have hlen:es.length=ops.size:=by rw [an,n1,lj]
 have ak2:∀p i,order[p]? =some i->i<ops.size:=fun p i aG=>by
  have ai:p<ops.size:=by have:=(aqD.1 aG).1;omega
  obtain ⟨j,sj,ra⟩:=jM p ai;have:=(gX j sj).2;rw [ra,aG] at this;cases this;exact sj
 have step:∀j o,(fA ops order)[j]? =some o->∃e,es[j]? =some e/\(cQ P au ops o).run jw e.r e.h=.val e.v (cw es ba (j+1))/\eN es h_ (j+1)=(gl o.dst).run e.r e.v:=by
  intro j o bU;obtain ⟨e,call,cc,⟨_,cy⟩,eD,jN⟩:=bP j o bU;have sb:lz P au ops o ∈ k0 P au ops (fA ops order):=by rw [yo];exact List.mem_map.2 ⟨o,aqX bU,rfl⟩
  have:=aqR.1 Fc _ sb;rw [cy (by simpa using this)] at eD;exact ⟨e,cc,eD,jN⟩
 have di:∀p b off,ops.size-3<p->p<ops.size->v7 (k0 P au ops (fA ops order)) (es.map toF) p=.ptr b off->Au ops order es p=some b:=by
  intro p b off U ad h;rcases anb h ak2 with h | ⟨i,o,e,e8,hR,y3,y4⟩
  . exact h
  . obtain ⟨j,sj,ra⟩:=jM p ad;have bU:=(gX j sj).2;rw [ra,e8] at bU;cases bU;obtain ⟨df,cp,_,_,z4⟩:=Cg i o hR;obtain ⟨mE,cV,gz⟩:=jM (ops.size-3) (by omega);have aD:=(gX mE cV).2;rw [gz] at aD;obtain ⟨_,_,z5,_⟩:=WX aD (aqA cV) (z4 (by omega));obtain ⟨x,ay⟩:=z5 (by omega);rw [ay] at y4;cases y4
 have xf:wI ops order es (ops.size-3+1)=true:=by
  unfold PH at pY;cases a_:v7 (k0 P au ops (fA ops order)) (es.map toF) (ops.size-3+1)<;>rw [a_] at pY<;>simp only at pY;rename_i b off;cases ah:v7 (k0 P au ops (fA ops order)) (es.map toF) (ops.size-3+2)<;>rw [ah] at pY<;>simp only at pY;rename_i c nq;unfold wI;rw [di _ _ _ (by omega) (by omega) a_,di _ _ _ (by omega) (by omega) ah];simp only;cases aI:aN.hY b c with
  | false=>rfl
  | true=>exact absurd (aN.na aI) pY
 have afd:(es.map toF).take (ops.size-3)=(es.take (ops.size-3)).map toF:=by rw [List.map_take]
 rw [afd,Ki] at nE;refine .inl ⟨.normal,_,ba,cR,⟨h2,fun _=>by rw [<-qW];exact Fm⟩,fun rd al E a w aa k s gn xe=>?_⟩
 have ar:gb E au hn a:=⟨⟨k.size,fun t aB=>by
  have:=congrFun qW t;simp only [et] at this;rw [this];exact k.ax t (mI aB)⟩,by
  have:=congrFun qW cd;simp only [et] at this;show lD E (T.get .bad fF hn) a.defers;rw [show T.get .bad fF hn=r cd from this];exact k.defers⟩
 refine WY dt bO (tM P).1 (tM P).2 h3 gi hlen av aH step xf (fun j o U ad aC e g1 s az hm=>?_) (fun aw a1 w' cp z2 z3=>?_) ar s
 . have bU:=(aql.1 U).1;have:=Iw nE j o (by simpa using U) ad aC;rw [aqW,aq3,g1] at this;simp only [arj] at this;obtain ⟨cm,cp,z3⟩:=Is this s (asg.2 ⟨az,hm⟩);rw [yo,aq3,lu (gX j bU).2 U] at cp;simp only [arj,aqj] at cp;subst cp;rw [Ki] at z3;rcases bJ.yE z3 with ⟨c,v,ab,⟨_,e8⟩,_,y3,y4⟩ | ⟨c,v,ab,_,_,y3,_⟩
   . have sb:lz P au ops o ∈ k0 P au ops (fA ops order):=by
      rw [yo];exact List.mem_map.2 ⟨o,aqX (lu (gX j bU).2 U),rfl⟩
     have afl:=aqR.1 Fc _ sb;have Dx:=y4 e.r rfl;rw [show v=e.v from y3,e8 (by simpa using afl)] at Dx;exact ⟨ab,Dx⟩
   . exact y3.elim
 . refine xe aw a1 w' cp ⟨z2.size,z2.defers,fun t fV=>?_⟩ z3;by_cases aB:t<=top
   . exact z2.ax t aB
   . have cX:=z2.size;have:et h_ t=.bad:=h2 t (by omega) fV;rw [this];simp [Rel]
theorem acu (eZ:au<=top) (dt:P.follows .mixedOrders=true) (bO:eO P) {id:Nat} {ops:Array Oper} {order aF:List Nat} {r:a7} {h:ae} {Q:bV->a7->ae->Prop} (aU:Out au r)
 (H:fZ P (NF P au ops order aF) r h Q):AH P au (.region id ops true) true r h Q:=by
 unfold NF at H;cases aA:(lx ops.size order aF&&y8 P ops aF) with
 | false=>
   rw [aA] at H;simp only [aqt] at H;cases aJ:(lx ops.size order aF&&(uj P ops order aF&&(k0 P au ops (fA ops order)).all fun o=>!o.g.mn)) with
   | false=>rw [aJ] at H;exact H.elim
   | true=>
     rw [aJ] at H;simp only [aqo] at H;simp only [aqi] at aJ;exact acs eZ dt bO aJ.1 aJ.2.1 aJ.2.2 aU H
 | true=>
   rw [aA] at H;simp only [aqo] at H;obtain ⟨jP,wl,tw,H⟩:∃jP wl,(∀n,xK n jP=true->vJ ops order aF n=true/\wl=te ops.toList)/\fZ P (.draw (k0 P au ops (fA ops order)) (bif o6 P ops.toList then rQ P ops.toList (eQ [] ops.toList) aF (gR P aF 0 ops.toList) 0 ops.toList else []) jP wl) r h Q:=by
    unfold bL.U5 at H
    split at H
    . exact ⟨[],[],fun n aL=>(by cases aL),H⟩
    . rename_i p bC he;exact ⟨p::bC,_,fun n aL=>⟨MX (by rw [he];exact aL),rfl⟩,H⟩
   simp only [fZ] at H;simp only [aqi] at aA;obtain ⟨h3,gi⟩:=aA;obtain ⟨lj,gX,jM⟩:=C6 h3;obtain ⟨hn,qW⟩:=uY aU;rw [<-qW] at H aU;have yt:∀j o,ops[j]? =some o->eP P o=true->posOf aF j ∈ gR P aF 0 ops.toList:=fun j o U ad=>by simpa using zT (aF:=aF) (i:=0) (j:=j) (l:=ops.toList) (by simpa using U) ad
   have NZ:ops.size ∈ gR P aF 0 ops.toList:=by simpa using F0 (P:=P) (aF:=aF) (l:=ops.toList) (i:=0)
   have Dm:∀N M,∀s ∈ gR P aF 0 ops.toList,(s=ops.size\/(s=N/\M=N))\/∃k o,ops[k]? =some o/\eP P o=true/\s=posOf aF k:=fun N M s az=>by
    rcases vw az with h | ⟨j,o,U,ad,aC⟩
    . exact .inl (.inl (by simpa using h))
    . exact .inr ⟨j,o,by simpa using U,ad,by simpa using aC⟩
   have BQ:∀i o,ops[i]? =some o->∃df,(eQ [] ops.toList)[i]? =some df/\nr i o=true/\(posOf aF i<ops.size->
    ∀k ok,ops[k]? =some ok->posOf aF k<ops.size->∃mk,(eQ [] ops.toList)[k]? =some mk/\pw i df (b8 ops o) o.dst k mk ok (Nat.blt (posOf aF k) (posOf aF i))=true/\(fr P o.op=true->eP P ok=true->posOf aF k<posOf aF i->gD df k=true\/(false=true/\lk o=true/\lk ok=true))):=by
    intro i o aG;obtain ⟨df,g1,g2,g3⟩:=Se gi i o aG
    exact ⟨df,g1,g2,fun _ k ok ar _=>by
     obtain ⟨mk,e8,hR,y3⟩:=g3 k ok ar
     exact ⟨mk,e8,hR,fun a b c=>.inl (y3 a b c)⟩⟩
   have Te:∀(es:List fj) (ba:ae),mX P (k0 P au ops (fA ops order)) (es.map toF) ba (rQ P ops.toList (eQ [] ops.toList) aF (gR P aF 0 ops.toList) 0 ops.toList)->∀j o,ops[j]? =some o->looks o.op=true->fr P o.op=false->∀e,es[posOf aF j]? =some e->
    ∀s ∈ gR P aF 0 ops.toList,ri P (eQ [] ops.toList) ops.toList aF j (((eQ [] ops.toList)[j]?).getD 0) s=true->∃c ab,(gu P c/\gB P c)/\(cQ P au ops o).run c e.r (cw es ba s)=.val e.v ab:=by
    intro es ba nE j o pc bM Kl e cc s az hm;have bU:=(aql.1 pc).1;have:=Iw nE j o (by simpa using pc) bM Kl;rw [aqW,aq3,cc] at this;simp only [arj] at this;obtain ⟨cm,cp,z3⟩:=Is this s (asg.2 ⟨az,hm⟩);rw [yo,aq3,lu (gX j bU).2 pc] at cp;simp only [arj,aqj] at cp;subst cp;rw [Ki] at z3;rcases bJ.yE z3 with ⟨c,v,ab,⟨e8,_⟩,_,y3,y4⟩ | ⟨c,v,ab,_,_,y3,_⟩
    . have Dx:=y4 e.r rfl;rw [show v=e.v from y3] at Dx;exact ⟨c,ab,e8,Dx⟩
    . exact y3.elim
   have Mb:o6 P ops.toList=false->∀(j:Nat) (o:Oper),ops[j]? =some o->fr P o.op=false:=by
    have none:∀(l:List Oper),o6 P l=false->∀(j:Nat) (o:Oper),l[j]? =some o->fr P o.op=false:=by
     intro l
     induction l with
     | nil=>intro _ j o h;simp at h
     | cons x l aT=>
       intro h j o aU;simp only [o6,ar9] at h;cases j with
       | zero=>simp only [aqz,aqj] at aU;subst aU;exact h.1
       | succ j=>exact aT h.2 j o (by simpa using aU)
    exact fun h j o aU=>none _ h j o (by simpa using aU)
   have Wf:∀{E:Env} {a:Act},h' E au r a->RegRel0 E au hn a:=fun k=>⟨k.size,fun t aB=>by have:=congrFun qW t;simp only [et] at this;rw [this];exact k.ax t (mI aB)⟩;rcases OG _ hn h _ _ H aU with ⟨es,h_,ba,⟨nE,cR⟩,⟨h2,Fm⟩,an,av,aH,bP⟩ | ⟨es,h_,ba,x,ad,⟨⟨gP,nE⟩,dD⟩,av,aH,bP,bp,mm,cE,dG,fX,eE⟩
   . refine .inl ⟨.normal,_,ba,cR,⟨h2,fun _=>by rw [<-qW];exact Fm⟩,fun rd al E a w aa k s gn xe=>?_⟩;have step:∀i:Nat,∃call,(gu P call/\gB P call)/\∀o,ops[i]? =some o->∃e,es[posOf aF i]? =some e/\(cQ P au ops o).run call e.r e.h=.val e.v (cw es ba (posOf aF i+1))/\eN es h_ (posOf aF i+1)=(gl o.dst).run e.r e.v:=by
      intro i;cases aG:ops[i]? with
      | none=>exact ⟨jw,tM P,fun o h=>by cases h⟩
      | some o=>
        obtain ⟨e,call,cc,⟨cy,_⟩,eD,jN⟩:=bP _ o (lu (gX i (aql.1 aG).1).2 aG);exact ⟨call,cy,fun cm hz=>by cases hz;exact ⟨e,cc,eD,jN⟩⟩
     obtain ⟨calls,oA⟩:=Classical.axiomOfChoice step;have u6:∀j o,ops[j]? =some o->looks o.op=true->fr P o.op=false->∃e,es[posOf aF j]? =some e/\∀s ∈ gR P aF 0 ops.toList,
      ri P (eQ [] ops.toList) ops.toList aF j (((eQ [] ops.toList)[j]?).getD 0) s=true->∃c ab,(gu P c/\gB P c)/\(cQ P au ops o).run c e.r (cw es ba s)=.val e.v ab:=by
      intro j o pc bM Kl;have bU:=(aql.1 pc).1;obtain ⟨e,cc,cy,eD⟩:=(oA j).2 o pc;refine ⟨e,cc,fun s az hm=>?_⟩;cases aD:o6 P ops.toList with
      | true=>
        rw [aD] at nE;exact Te es ba nE j o pc bM Kl e cc s az hm
      | false=>
        have kF:s=ops.size:=by
         rcases vw az with h | ⟨FG,cm,U,ad,aC⟩
         . simpa using h
         . have:=Mb aD FG cm (by simpa using U);unfold eP at ad;rw [this] at ad;cases ad
        have flat:∀d,d<=ops.size->cw es ba d=cw es ba 0:=by
         intro d
         induction d with
         | zero=>intro _;rfl
         | succ d aT=>
           intro aY;obtain ⟨i,xt,pb⟩:=jM d (by omega);have cL:ops[i]? =some ops[i]:=aqA xt;obtain ⟨acw,b0,bn,_⟩:=(oA i).2 ops[i] cL;rw [pb] at b0 bn;have dK:fr P ops[i].op=false:=Mb aD i _ cL;rw [(wY dK bn).1,<-aT (by omega)];simp [cw,b0]
        have apq:=(gX j bU).1;have:e.h=cw es ba s:=by rw [kF,flat ops.size (aqh _),<-flat (posOf aF j) (by omega)];simp [cw,cc]
        rw [<-this];exact ⟨_,_,(oA j).1,cy⟩
     have hlen:es.length=ops.size:=by rw [an,n1,lj]
     have C:Cert P au ops calls es hn h h_ ba (gR P aF 0 ops.toList) order aF ops.size ops.size false:=
      ⟨hlen,aqh _,aqh _,gX,jM,av,aH,fun i o cL _=>(oA i).2 o cL,BQ,NZ,yt,Dm _ _,
        fun j o U ad aC _=>u6 j o U ad aC,fun h=>absurd h (arv _),fun h=>absurd h (arv _)⟩
     have Lc:et h_ cd=r cd:=by rw [<-qW];exact Fm
     refine Sh dt bO (fun i=>(oA i).1) C (Wf k) s (fun _ aw a1 w' cp z2 ON z3=>?_) (fun _ _ _ _ _ _ _ h=>absurd h (arv _));refine xe aw a1 w' cp ⟨z2.size,by rw [Lc,ON];exact k.defers.mono cp,fun t fV=>?_⟩ z3;by_cases aB:t<=top
     . exact z2.ax t aB
     . have cX:=z2.size;rw [h2 t (by omega) fV];simp [Rel]
   . rw [aqJ] at gP;obtain ⟨B7,rfl⟩:=tw _ gP;have a':es.length<ops.size:=by
      have:=(aqD.1 cE).1;rw [n1,lj] at this;exact this
     obtain ⟨i0,p1,jt⟩:=jM es.length a';have cL:ops[i0]? =some ops[i0]:=aqA p1;have lR:=(gX i0 p1).2;rw [jt] at lR;have KT:bp=ops[i0]:=by have:=lu lR cL;rw [cE] at this;cases this;rfl
     subst KT;unfold vJ at B7;rw [lR] at B7;simp only at B7;obtain ⟨m0,B3,_⟩:=pz B7 i0 ops[i0] (by simp);have Co:∀k ok,ops[k]? =some ok->∃mk,(eQ [] ops.toList)[k]? =some mk/\(es.length<posOf aF k->gD mk i0=true)/\(hO ok=true->posOf aF k<es.length->gD m0 k=true):=by
      intro k ok ar;obtain ⟨mk,cp,z2⟩:=pz B7 k ok (by simpa using ar);simp only [aqW,aqi] at z2;refine ⟨mk,cp,fun aJ=>?_,fun a_ aD=>?_⟩
      . have:=z2.1;rw [show Nat.blt es.length (posOf aF k)=true from by rw [aqS];exact aJ] at this;exact this
      . have:=z2.2;rw [a_,show Nat.blt (posOf aF k) es.length=true from by rw [aqS];exact aD,B3] at this;exact this
     have u9:eP P ops[i0]=true:=by obtain ⟨bS,cJ⟩:=Ga (P:=P) dG;unfold eP;rw [bS,cJ];rfl
     have aD:o6 P ops.toList=true:=by
      cases aD:o6 P ops.toList with
      | true=>rfl
      | false=>
        have:=Mb aD i0 _ cL;rw [(Ga (P:=P) dG).1] at this;cases this
     rw [aD] at nE;simp only [aqo] at nE;have tT:∀i,i<ops.size->posOf aF i=es.length->i=i0:=fun i U ad=>by have:=(gX i U).2;rw [ad,lR] at this;cases this;rfl
     have step:∀i:Nat,∃call,(gu P call/\gB P call)/\(∀o,ops[i]? =some o->posOf aF i<es.length->∃e,es[posOf aF i]? =some e/\(cQ P au ops o).run call e.r e.h=.val e.v (cw es ba (posOf aF i+1))/\eN es h_ (posOf aF i+1)=(gl o.dst).run e.r e.v)/\
      (∀o,ops[i]? =some o->posOf aF i=es.length->(cQ P au ops o).run call h_ ba=.cB x ad):=by
      intro i;cases aG:ops[i]? with
      | none=>exact ⟨jw,tM P,fun o h=>(by cases h),fun o h=>(by cases h)⟩
      | some o=>
        have E8:=(aql.1 aG).1;by_cases KD:posOf aF i<es.length
        . obtain ⟨e,call,cc,⟨cy,_⟩,eD,jN⟩:=bP _ o KD (lu (gX i E8).2 aG);exact ⟨call,cy,fun cm hz _=>by cases hz;exact ⟨e,cc,eD,jN⟩,fun cm _ h=>by omega⟩
        . by_cases Tn:posOf aF i=es.length
          . have:=tT i E8 Tn;subst this;refine ⟨mm,fX,fun cm _ h=>absurd h KD,fun cm hz _=>?_⟩;cases hz;rw [cL] at aG;cases aG;exact eE
          . exact ⟨jw,tM P,fun cm _ h=>absurd h KD,fun cm _ h=>absurd h Tn⟩
     obtain ⟨calls,oA⟩:=Classical.axiomOfChoice step;have aeP:BE (es.map toF) (et h_)=et hn:=by rw [<-aH];cases es<;>simp [BE,eN,toF]
     rw [aeP] at dD;refine .inr ⟨x,_,ad,dD,⟨OB aU _,fun _=>by rw [Dt,qW]⟩,fun rd al E a w aa k s gn xe=>?_⟩;have C:Cert P au ops calls es hn h h_ ba (gR P aF 0 ops.toList) order aF es.length ops.size false:=
      ⟨rfl,arh a',arh a',gX,jM,av,aH,fun i o cL h=>(oA i).2.1 o cL h,BQ,by rw [<-jt];exact yt i0 _ cL u9,yt,Dm _ _,
        fun j o U ad aC aX=>by obtain ⟨e,cc,_⟩:=(oA j).2.1 o U aX;exact ⟨e,cc,fun s az hm=>Te es ba nE j o U ad aC e cc s az hm⟩,
        fun h=>absurd h (arv _),fun _ _=>⟨i0,_,m0,cL,jt,dG,B3,fun k ok mk ar aJ tt=>by
         obtain ⟨mk',cp,z2,_⟩:=Co k ok ar;rw [tt] at cp;cases cp;exact z2 aJ,fun k ok ar a_ aD=>by
         obtain ⟨mk',cp,_,z3⟩:=Co k ok ar;exact z3 a_ aD,x,ad,(oA i0).2.2 _ cL jt⟩⟩
     refine Sh dt bO (fun i=>(oA i).1) C (Wf k) s (fun h=>absurd h (by omega)) (fun aw a1 w' y v ab cp _ _ z3 z4 ON z5 OL=>?_);obtain ⟨i1,bb,e8,hR,y3⟩:=z3;rw [(oA i1).2.2 bb e8 hR] at y3;cases y3;refine xe aw a1 w' y cp ⟨z4.size,by rw [Dt,qW,ON];exact k.defers.mono cp,fun t fV=>?_⟩ z5 OL;by_cases aB:t<=top
     . have:=z4.ax t aB;rw [Ho aB] at this;exact this
     . have cX:=z4.size;rw [OB aU _ t (by omega) fV];simp [Rel]
theorem acX {rd:Option Nat} {e:bV} {Q:Exit->Act->World->Prop} {a:Act} {w:World} (h:Q (toExit e) a w):(JH e).wpIn (aK rd) 0 P Q a w:=by
 cases e with
 | normal=>exact wpIn_skip h
 | exit id=>exact wpIn_exit h
 | ret=>exact wpIn_ret h
theorem amd (eZ:au<=top) (dt:P.follows .mixedOrders=true) (bO:eO P) {f:Operand} {bC:Array Tmp} {x y:Code} {r:a7} {h:ae} {Q:bV->a7->ae->Prop} (aU:Out au r)
 (H:fZ P (fI P au (.rangeFunc f bC x y)) r h Q):AH P au (.rangeFunc f bC x y) (fI P au (.rangeFunc f bC x y)).plain r h Q:=by
 simp only [fI] at H ⊢;cases gi:(vM au bC.toList&&(noMark x&&noMark y)) with
 | false=>rw [gi] at H;exact H.elim
 | true=>
   rw [gi] at H;simp only [aqo,fZ] at H ⊢;simp only [aqi] at gi;obtain ⟨g,cs,bE,aJ,tp,H⟩:=H;obtain ⟨cS,d_⟩:=uY aU;obtain ⟨v,ab,cH,ed,aM,bh,cR⟩:=H ⟨0,none,aE h.next,au,cS,bC.toList,x,y⟩ ⟨rfl,d_,rfl,rfl,rfl,gi.1,gi.2.1,gi.2.2,aU⟩ rfl rfl;refine .inl ⟨_,_,_,cR,⟨fun t U ad=>by simp only [a7.set];rw [aqr ad];exact aU t U ad,fun z=>by cases z⟩,fun rd al E a w aa k s gn xe=>?_⟩;have afE:rd=none:=aa.resolve_right (by simp [noMark]);subst afE;have aA:Rel E (.func g cs) (a.eval f):=by
    rw [<-bE];cases f with
    | tmp t=>
      simp only [rx];cases ah:Nat.ble t top with
      | false=>simp [aW.aS,Rel]
      | true=>
        simp only [aqo,aW.aS];exact k.ax t (mI (aqQ ah))
    | const v=>exact tO E v
    | func f=>
      simp only [rx];cases ah:Nat.beq f dx with
      | true=>simp [aW.aS,Rel]
      | false=>
        simp only [aqt,aW.aS,Rel];exact .inl ⟨fun e=>by subst e;simp at ah,_,rfl,by simp [bm]⟩
    | global g=>simp [rx,aW.aS,Rel]
   simp only [Rel] at aA;rcases aA with ⟨_,ff,dD,aD⟩ | ⟨Kt,_⟩
   case inr=>exact absurd Kt aJ
   refine (wpIn_rangeFunc fun fn _=>?_:(Code.rangeFunc f bC x y).wpIn (aK none) 0 P gn a w);have f0:=s.fresh h.next (aqh _)
   obtain ⟨hE,xc⟩:∃hE,hE=E.put (aE h.next) ⟨w.heap.size,0,0⟩:=⟨_,rfl⟩;obtain ⟨b0,pj⟩:∃b0:World,b0={w with heap:=w.heap.push (.deferred (some []))}:=⟨_,rfl⟩;have B9:hE (aE h.next)=some ⟨w.heap.size,0,0⟩:=by rw [xc];unfold Env.put;rw [aqw rfl]
   have s1:a6 al hE (h.new .gg) b0:=by rw [xc,pj];refine s.alloc 0 ⟨⟨w.heap.size,0,0⟩,by unfold Env.put;rw [aqw rfl],s.frame.size,by simp⟩
   have qb:E.le hE:=by rw [xc];exact Env.nU f0
   have xF:b0.heap.size=w.heap.size+1:=by rw [pj];simp
   obtain ⟨o,hz⟩:∃o:Loop,o={state:=.ready,pending:=none,fn,tmps:=a.tmps,params:=bC,assign:=x,body:=y,defers:=w.heap.size}:=⟨_,rfl⟩;obtain ⟨b1,tj⟩:∃b1,b1=hE.put (aE (h.next+1)) ⟨b0.heap.size,0,0⟩:=⟨_,rfl⟩;obtain ⟨bn,hN⟩:∃bn:World,bn={b0 with heap:=b0.heap.push (.loop o)}:=⟨_,rfl⟩;have f1:hE (aE (h.next+1))=none:=s1.fresh (h.next+1) (aqh _);have nm:hE.le b1:=by rw [tj];exact Env.nU f1
   have B':b1 (aE (h.next+1))=some ⟨b0.heap.size,0,0⟩:=by rw [tj];unfold Env.put;rw [aqw rfl]
   have e2:wB b1 ⟨0,none,aE h.next,au,cS,bC.toList,x,y⟩ o:=by subst hz;refine ⟨rfl,rfl,rfl,rfl,rfl,k.size,fun t aB=>?_,_,nm _ _ B9,rfl⟩;have:=congrFun d_ t;simp only [et] at this;simp only [this];exact Rel.mono (qb.trans nm) _ _ (k.ax t (mI aB))
   have s2:a6 al b1 ((h.new .gg).new (.e2 ⟨0,none,aE h.next,au,cS,bC.toList,x,y⟩)) bn:=by rw [tj,hN];refine s1.alloc 0 ⟨⟨b0.heap.size,0,0⟩,o,by show hE.put (aE (h.next+1)) _ (aE (h.next+1))=_;unfold Env.put;rw [aqw rfl],by show al.w.heap.size<=b0.heap.size;rw [xF];have:=s.frame.size;omega,by simp,?_⟩;have:=e2;rw [tj] at this;exact this
   obtain ⟨je,q6⟩:∃je,je=b0.heap.size:=⟨_,rfl⟩;have bg:Rel b1 (.func dx [.ptr (aE (h.next+1)) 0]) (.func (.yield je) #[] #[]):=by simp only [Rel];exact .inr ⟨trivial,_,_,rfl,B',by rw [q6]⟩
   have qX:bm b1 (.func dx [.ptr (aE (h.next+1)) 0]::cs) (.func (.yield je) #[] #[]::ff.toList):=by simp only [bm];exact ⟨_,_,rfl,bg,bm.mono (qb.trans nm) _ _ aD⟩
   have aq:Calls P g (Value.func (Fn.yield je) #[] #[]::ff.toList).toArray bn (rangePost (aK none) 0 P je gn {a with defers:=[{target:=.collected w.heap.size,args:=#[]}]++a.defers}):=(cH.calls bO tp al b1 bn _ qX s2).mono fun e w' aI=>by
    obtain ⟨aw,aqd,rfl,an,_,aH⟩:=aI;simp only [rangePost];have hA:=an _ _ B';have ah:=aH.at hA;rw [aM] at ah;obtain ⟨p',cm,hM,cU,ba,KG⟩:=ah;rw [hA] at hM;cases hM;obtain ⟨t1,t2,t3,t4,t5,t6,t7,t8⟩:=KG;simp only at ba;rw [<-q6] at ba;have KM:(cm.state == LoopState.busy)=false:=by
     rw [t1]
     match tq:ed.st with
     | 0=>rfl
     | 1=>exact absurd tq bh
     | n+2=>rfl
    have mC:=(aql.1 ba).1
    let hi:World:={w' with heap:=w'.heap.setIfInBounds je (.loop {cm with state:=.exhausted})}
    have gx:(Instr.endLoop je).run P w'=.ok cm.pending hi:=by
     have q_:(setObj je (.loop {cm with state:=.exhausted})).run P w'=.ok () hi:=by simp only [setObj,Sem.run,ba];rfl
     simp only [Instr.endLoop,Sem.run_bind,run_getLoop ba,Result.andThen_ok,KM,aqk,aqs,q_,Sem.run_pure]
    have An:a6 al aw (ab.set (aE (h.next+1)) .dead) hi:=by refine aH.gone (p:=⟨b0.heap.size,0,0⟩) (by rw [aM];rfl) hA cU (by simp [hi]) (fun j bU=>?_) rfl rfl rfl;simp only at bU;simp only [hi,aqF];rw [aqr (fun e=>bU (by rw [<-e,q6]))]
    have fO:h' aw au (r.set (some cd) (.tuple (.ptr (aE h.next) 0::(r cd).list))) {a with defers:=[{target:=.collected w.heap.size,args:=#[]}]++a.defers}:=by
     refine ⟨k.size,?_,fun t aB=>?_⟩
     . simp only [a7.set,aqu,lD,mS,aqP,aq5];exact ⟨_,_,rfl,⟨_,an _ _ (nm _ _ B9),rfl⟩,(k.defers.mono (qb.trans (nm.trans an))).list⟩
     . simp only [a7.set];rw [aqr aB];exact Rel.mono (qb.trans (nm.trans an)) _ _ (k.ax t aB)
    refine ⟨cm.pending,hi,gx,?_⟩;rw [t2];have fin:=xe aw _ hi (qb.trans (nm.trans an)) fO An;cases lS:ed.iK with
    | none=>rw [lS] at fin;exact fin
    | some e=>rw [lS] at fin;exact acX fin
   obtain ⟨ao9,aeU,tp⟩:=tp;refine ⟨je,[{target:=.collected w.heap.size,args:=#[]}],bn,{target:=.fn (.func g) ff,args:=#[]++#[.func (.yield je) #[] #[]]},bn,g,_,bn,?_,?_,fun _ _=>trivial,?_,fun h=>by simp at h,pO.2 aq⟩
   . subst hz hN pj;have he:=run_enterLoop_outer (P:=P) (w:=w) fn a.tmps bC x y;rw [World.alloc,World.alloc] at he;simp only [Array.size_push] at q6 ⊢;rw [q6];exact he
   . simp only [resolve,dD,Deferred.ofValue,Sem.run_pure];simp [Act.eval]
   . simp only [invoke];have e:(#[]++#[Value.func (.yield je) #[] #[]]:Array Value)++ff=(Value.func (.yield je) #[] #[]::ff.toList).toArray:=by apply arX;simp
     rw [e];exact t' bO aeU tp _ bn
theorem Hq (eZ:au<=top) (dt:P.follows .mixedOrders=true) (bO:eO P):∀(c:Code) (r:a7) (h:ae) (Q:bV->a7->ae->Prop),Out au r->fZ P (fI P au c) r h Q->AH P au c (fI P au c).plain r h Q:=by
 intro c
 induction c with
 | skip=>
   intro r h Q aU H;exact .inl ⟨.normal,r,h,H,⟨aU,fun _=>rfl⟩,fun rd al E a w aa k s gn cR=>wpIn_skip (cR E a w (Env.le.refl E) k s)⟩
 | label l=>
   intro r h Q aU H;exact .inl ⟨.normal,r,h,H,⟨aU,fun _=>rfl⟩,fun rd al E a w aa k s gn cR=>wpIn_label (cR E a w (Env.le.refl E) k s)⟩
 | exit id=>
   intro r h Q aU H;exact .inl ⟨.exit id,r,h,H,⟨aU,fun _=>rfl⟩,fun rd al E a w aa k s gn cR=>wpIn_exit (cR E a w (Env.le.refl E) k s)⟩
 | ret=>
   intro r h Q aU H;exact .inl ⟨.ret,r,h,H,⟨aU,fun _=>rfl⟩,fun rd al E a w aa k s gn cR=>wpIn_ret (cR E a w (Env.le.refl E) k s)⟩
 | region id ops draw=>
   intro r h Q aU H;cases draw with
   | true=>
     simp only [fI,aqo] at H;rcases acu eZ dt bO (id:=id) aU H with ⟨e,bu,ab,an,av,aH⟩ | ⟨x,bu,ab,an,av,aH⟩
     . exact .inl ⟨e,bu,ab,an,⟨av.1,fun _=>av.2 rfl⟩,aH⟩
     . exact .inr ⟨x,bu,ab,an,⟨av.1,fun _=>av.2 rfl⟩,aH⟩
   | false=>
     simp only [fI,aqt,fZ] at H;rcases Xt bO ops.toList 0 (fun j=>by simp) r h _ _ aU H with ⟨bu,ab,an,av,aH⟩ | ⟨x,bu,ab,an,av,aH⟩
     . refine .inl ⟨.normal,bu,ab,an,⟨av.1,fun z=>av.2 (by simpa only [fI,aqt,bL.plain] using z)⟩,fun rd al E a w aa k s gn cR=>?_⟩;refine wpIn_region ?_;have:=aH rd al E a w (aa.imp (fun y=>y) fun z=>by simpa only [noMark,aqR] using z) k s gn cR;rw [List.range_eq_range'];simpa using this
     . refine .inr ⟨x,bu,ab,an,⟨av.1,fun z=>av.2 (by simpa only [fI,aqt,bL.plain] using z)⟩,fun rd al E a w aa k s gn cR=>?_⟩;refine wpIn_region ?_;have:=aH rd al E a w (aa.imp (fun y=>y) fun z=>by simpa only [noMark,aqR] using z) k s gn cR;rw [List.range_eq_range'];simpa using this
 | seq x y xI xJ=>
   intro r h Q aU H;simp only [fI,fZ] at H;have sa:∀{rd:Option Nat},(rd=none\/noMark (.seq x y)=true)->rd=none\/noMark x=true:=fun aa=>aa.imp (fun h=>h) fun h=>by simp only [noMark,aqi] at h;exact h.1
   have lh:∀{rd:Option Nat},(rd=none\/noMark (.seq x y)=true)->rd=none\/noMark y=true:=fun aa=>aa.imp (fun h=>h) fun h=>by simp only [noMark,aqi] at h;exact h.2
   have js:(fI P au (.seq x y)).plain=true->(fI P au x).plain=true:=fun z=>by simp only [fI,bL.plain,aqi] at z;exact z.1
   have iF:(fI P au (.seq x y)).plain=true->(fI P au y).plain=true:=fun z=>by simp only [fI,bL.plain,aqi] at z;exact z.2
   rcases xI r h _ aU H with ⟨e,ca,U,an,av,aH⟩ | ⟨v,ca,U,an,av,aH⟩
   . cases e with
     | normal=>
       rcases xJ ca U Q av.1 an with ⟨e,b5,ad,cc,cy,eD⟩ | ⟨v,b5,ad,cc,cy,eD⟩
       . refine .inl ⟨e,b5,ad,cc,⟨cy.1,fun z=>(cy.2 (iF z)).trans (av.2 (js z))⟩,fun rd al E a w aa k s gn cR=>?_⟩;refine wpIn_seq (aH rd al E a w (sa aa) k s _ fun aw a1 w' cp z2 z3=>?_).wp;exact (eD rd al aw a1 w' (lh aa) z2 z3 gn fun b1 a2 bn e8 hR y3=>cR b1 a2 bn (cp.trans e8) hR y3).wp
       . refine .inr ⟨v,b5,ad,cc,⟨cy.1,fun z=>(cy.2 (iF z)).trans (av.2 (js z))⟩,fun rd al E a w aa k s gn cR=>?_⟩;refine wpIn_seq (aH rd al E a w (sa aa) k s _ fun aw a1 w' cp z2 z3=>?_).wp;exact (eD rd al aw a1 w' (lh aa) z2 z3 gn fun b1 a2 bn u e8 hR y3 y4=>cR b1 a2 bn u (cp.trans e8) hR y3 y4).wp
     | exit i=>
       refine .inl ⟨.exit i,ca,U,an,⟨av.1,fun z=>av.2 (js z)⟩,fun rd al E a w aa k s gn cR=>?_⟩;refine wpIn_seq (aH rd al E a w (sa aa) k s _ fun aw a1 w' cp z2 z3=>?_).wp;exact cR aw a1 w' cp z2 z3
     | ret=>
       refine .inl ⟨.ret,ca,U,an,⟨av.1,fun z=>av.2 (js z)⟩,fun rd al E a w aa k s gn cR=>?_⟩;refine wpIn_seq (aH rd al E a w (sa aa) k s _ fun aw a1 w' cp z2 z3=>?_).wp;exact cR aw a1 w' cp z2 z3
   . refine .inr ⟨v,ca,U,an,⟨av.1,fun z=>av.2 (js z)⟩,fun rd al E a w aa k s gn cR=>?_⟩;refine wpIn_seq (aH rd al E a w (sa aa) k s _ fun aw a1 w' u cp z2 z3 z4=>?_).wp;exact cR aw a1 w' u cp z2 z3 z4
 | cond c x y xI xJ=>
   intro r h Q aU H;simp only [fI,fZ] at H;cases bE:(rx c).aS r<;>rw [bE] at H<;>simp only at H<;>try (exact H.elim)
   rename_i t;have aq:∀E a,h' E au r a->a.eval c=.bool t:=by
    intro E a k;cases c with
    | tmp d=>
      simp only [rx] at bE;cases ah:Nat.ble d top with
      | false=>rw [ah] at bE;simp [aW.aS] at bE
      | true=>
        rw [ah] at bE;simp only [aqo,aW.aS] at bE;have:=k.ax d (mI (aqQ ah));rw [bE] at this;simp only [Rel] at this;exact this
    | const v=>
      simp only [rx,aW.aS] at bE;have:=tO E v;rw [bE] at this;simp only [Rel] at this;exact this
    | func f=>
      simp only [rx] at bE;cases ah:Nat.beq f dx<;>rw [ah] at bE<;>simp [aW.aS] at bE
    | global g=>simp [rx,aW.aS] at bE
   have sa:∀{rd:Option Nat},(rd=none\/noMark (.cond c x y)=true)->rd=none\/noMark x=true:=fun aa=>aa.imp (fun h=>h) fun h=>by simp only [noMark,aqi] at h;exact h.1
   have lh:∀{rd:Option Nat},(rd=none\/noMark (.cond c x y)=true)->rd=none\/noMark y=true:=fun aa=>aa.imp (fun h=>h) fun h=>by simp only [noMark,aqi] at h;exact h.2
   cases t with
   | true=>
     rcases xI r h Q aU (H.1 rfl) with ⟨e,ca,U,an,av,aH⟩ | ⟨e,ca,U,an,av,aH⟩
     . exact .inl ⟨e,ca,U,an,⟨av.1,fun z=>by simp only [fI,bL.plain,aqi] at z;exact av.2 z.1⟩,fun rd al E a w aa k s gn cR=>wpIn_cond_true (aq E a k) (aH rd al E a w (sa aa) k s gn cR).wp⟩
     . exact .inr ⟨e,ca,U,an,⟨av.1,fun z=>by simp only [fI,bL.plain,aqi] at z;exact av.2 z.1⟩,fun rd al E a w aa k s gn cR=>wpIn_cond_true (aq E a k) (aH rd al E a w (sa aa) k s gn cR).wp⟩
   | false=>
     rcases xJ r h Q aU (H.2 rfl) with ⟨e,ca,U,an,av,aH⟩ | ⟨e,ca,U,an,av,aH⟩
     . exact .inl ⟨e,ca,U,an,⟨av.1,fun z=>by simp only [fI,bL.plain,aqi] at z;exact av.2 z.2⟩,fun rd al E a w aa k s gn cR=>wpIn_cond_false (aq E a k) (aH rd al E a w (lh aa) k s gn cR).wp⟩
     . exact .inr ⟨e,ca,U,an,⟨av.1,fun z=>by simp only [fI,bL.plain,aqi] at z;exact av.2 z.2⟩,fun rd al E a w aa k s gn cR=>wpIn_cond_false (aq E a k) (aH rd al E a w (lh aa) k s gn cR).wp⟩
 | block id x aT=>
   intro r h Q aU H;simp only [fI] at H ⊢;cases hid:Nat.beq id kZ with
   | true=>rw [hid] at H;exact H.elim
   | false=>
     rw [hid] at H;simp only [aqt,fZ] at H ⊢;have dK:kZ≠id:=fun e=>by rw [<-e] at hid;simp at hid
     rcases aT r h _ aU H with ⟨e,ca,U,an,av,aH⟩ | ⟨v,ca,U,an,av,aH⟩
     . refine .inl ⟨e.leave id,ca,U,an,av,fun rd al E a w aa k s gn cR=>?_⟩;refine wpIn_block (aH rd al E a w (aa.imp (fun h=>h) fun h=>h) k s _ fun aw a1 w' cp z2 z3=>?_).wp;cases e with
       | normal=>exact cR aw a1 w' cp z2 z3
       | ret=>exact cR aw a1 w' cp z2 z3
       | exit i=>
         have:=cR aw a1 w' cp z2 z3;simp only [toExit,Exit.inBlock];simp only [bV.leave] at this;by_cases aG:i=id
         . rw [aqw aG] at this ⊢;exact this
         . rw [aqr aG] at this ⊢;exact this
     . simp only [bV.leave] at an;rw [aqr dK] at an;refine .inr ⟨v,ca,U,an,av,fun rd al E a w aa k s gn cR=>?_⟩;refine wpIn_block (aH rd al E a w (aa.imp (fun h=>h) fun h=>h) k s _ fun aw a1 w' u cp z2 z3 z4=>?_).wp;exact cR aw a1 w' u cp z2 z3 z4
 | loop x aT=>
   intro r h Q aU H;simp only [fI,fZ] at H;obtain ⟨I,μ,tk,afF⟩:=H;have key:∀n r h,μ r h=n->I r h->Out au r->AH P au (.loop x) (fI P au (.loop x)).plain r h Q:=by
    intro n
    induction n using Nat.strongRecOn with
    | _ n agc=>
      intro r h aL tk aU;rcases aT r h _ aU (afF r h tk) with ⟨e,ca,U,an,av,aH⟩ | ⟨v,ca,U,an,av,aH⟩
      . have body:∀(rd:Option Nat) (al:Fr) E a w,(rd=none\/noMark x=true)->h' E au r a->a6 al E h w->∀(b:Frame) (dL:List Item) (cs:List Frame),b.roundOf=rd->∃a1 w' aw,E.le aw/\h' aw au ca a1/\a6 al aw U w'/\ArrivesIn (Machine.fenced P (aK rd)) P (lone (b.atR a (.code x::.inLoop x::dL)) cs w) b (.inLoop x::dL) cs (toExit e) a1 w':=by
         intro rd al E a w aa k s b dL cs kE;have:=(aH rd al E a w aa k s (fun dP a1 w'=>dP=toExit e/\∃aw,E.le aw/\h' aw au ca a1/\a6 al aw U w') (fun aw a1 w' an av aH=>⟨rfl,aw,an,av,aH⟩)).wp b (.inLoop x::dL) cs kE trivial (G0 _);obtain ⟨bh,a2,bn,⟨rfl,b1,cp,z2,z3⟩,jH⟩:=this;exact ⟨a2,bn,b1,cp,z2,z3,jH⟩
        cases e with
        | normal=>
          obtain ⟨aeg,a'⟩:=an;rcases agc (μ ca U) (aL ▸ a') ca U rfl aeg av.1 with ⟨bh,b5,ad,cc,cy,eD⟩ | ⟨v,b5,ad,cc,cy,eD⟩
          . refine .inl ⟨bh,b5,ad,cc,⟨cy.1,fun z=>(cy.2 z).trans (av.2 z)⟩,fun rd al E a w aa k s gn cR b dL cs kE=>?_⟩;obtain ⟨a2,bn,b1,cp,z2,z3,jH⟩:=body rd al E a w (aa.imp (fun h=>h) fun h=>h) k s b dL cs kE;obtain ⟨cu,a3,gM,e8,hR⟩:=eD rd al b1 a2 bn aa z2 z3 gn (fun HE a4 hi t1 t2 t3=>cR HE a4 hi (cp.trans t1) t2 t3) b dL cs kE;exact ⟨cu,a3,gM,e8,.of_steps (StepsIn.trans jH (.one (qR _) stepR_inLoop)) hR⟩
          . refine .inr ⟨v,b5,ad,cc,⟨cy.1,fun z=>(cy.2 z).trans (av.2 z)⟩,fun rd al E a w aa k s gn cR b dL cs kE=>?_⟩;obtain ⟨a2,bn,b1,cp,z2,z3,jH⟩:=body rd al E a w (aa.imp (fun h=>h) fun h=>h) k s b dL cs kE;obtain ⟨cu,a3,gM,e8,hR⟩:=eD rd al b1 a2 bn aa z2 z3 gn (fun HE a4 hi u t1 t2 t3 t4=>cR HE a4 hi u (cp.trans t1) t2 t3 t4) b dL cs kE;exact ⟨cu,a3,gM,e8,.of_steps (StepsIn.trans jH (.one (qR _) stepR_inLoop)) hR⟩
        | exit i=>
          refine .inl ⟨.exit i,ca,U,an,av,fun rd al E a w aa k s gn cR b dL cs kE=>?_⟩;obtain ⟨a2,bn,b1,cp,z2,z3,jH⟩:=body rd al E a w (aa.imp (fun h=>h) fun h=>h) k s b dL cs kE;exact ⟨.exit i,a2,bn,cR b1 a2 bn cp z2 z3,.pass (x:=.inLoop x) rfl (fun _ _=>.inl (by simp)) jH⟩
        | ret=>
          refine .inl ⟨.ret,ca,U,an,av,fun rd al E a w aa k s gn cR b dL cs kE=>?_⟩;obtain ⟨a2,bn,b1,cp,z2,z3,jH⟩:=body rd al E a w (aa.imp (fun h=>h) fun h=>h) k s b dL cs kE;exact ⟨.ret,a2,bn,cR b1 a2 bn cp z2 z3,.pass (x:=.inLoop x) rfl (fun _ _=>.inl (by simp)) jH⟩
      . refine .inr ⟨v,ca,U,an,av,fun rd al E a w aa k s gn cR b dL cs kE=>?_⟩;have body:=(aH rd al E a w (aa.imp (fun h=>h) fun h=>h) k s (fun dP a1 w'=>∃y,dP=.panic y/\gn dP a1 w') (fun aw a1 w' u cp z2 z3 z4=>⟨_,rfl,cR aw a1 w' u cp z2 z3 z4⟩)).wp b (.inLoop x::dL) cs kE trivial (G0 _);obtain ⟨bh,a2,bn,⟨y,rfl,q⟩,jH⟩:=body;exact ⟨_,a2,bn,q,.pass (x:=.inLoop x) rfl (fun _ _=>.inl (by simp)) jH⟩
   exact key _ r h rfl tk aU
 | scope x aT=>
   intro r h Q aU H;rcases aT r h Q aU H with ⟨e,ca,U,an,av,aH⟩ | ⟨v,ca,U,an,av,aH⟩
   . refine .inl ⟨e,ca,U,an,av,fun rd al E a w aa k s gn cR=>?_⟩;refine NP (aH rd al E a w (aa.imp (fun h=>h) fun h=>h) k s _ fun aw a1 w' cp z2 z3=>?_).wp;have:=cR aw a1 w' cp z2 z3;cases e<;>exact this
   . refine .inr ⟨v,ca,U,an,av,fun rd al E a w aa k s gn cR=>?_⟩;refine NP (aH rd al E a w (aa.imp (fun h=>h) fun h=>h) k s _ fun aw a1 w' u cp z2 z3 z4=>?_).wp;exact cR aw a1 w' u cp z2 z3 z4
 | rangeFunc f bC x y _ _=>intro r h Q aU H;exact amd eZ dt bO aU H
 | goto l=>intro r h Q aU H;exact H.elim
 | refuse an6=>intro r h Q aU H;exact H.elim
inductive mV where
 | t (n:Nat)
 | bS (n:Nat)
 | hG (n size:Nat)
 | bad
def jx (P:Program) (au:Nat):List ResultVar->List mV
 | []=>[]
 | .tmp t::rs=>(bif Nat.ble t top&&Nat.blt t au then .t t else .bad)::jx P au rs
 | .cell a t::rs=>(bif Nat.ble a top&&Nat.blt a au then (match bj P t with
   | none=>.bad
   | some aP=>bif aP.agg then .hG a aP.size else bif Nat.beq aP.size 1 then .bS a else .bad) else .bad)::jx P au rs
def ho (r:a7) (h:ae):List mV->Option (List V)
 | []=>some []
 | x::xs=>match (match x with
   | .t n=>some (r n)
   | .bS n=>oL h (r n)
   | .hG n size=>oK size h (r n)
   | .bad=>none) with
   | none=>none
   | some v=>match ho r h xs with
     | none=>none
     | some af=>some (v::af)
theorem w6 {r:a7} {h:ae} {cS:bQ} (d_:et cS=r):∀{l:List ResultVar} {af:List V},ho r h (jx P au l)=some af->(l8 P au l).run cS h=some af
 | [],af,he=>by simpa [ho,jx,l8] using he
 | .tmp t::rs,af,he=>by
   simp only [jx,ho] at he;unfold l8;cases aq:(Nat.ble t top&&Nat.blt t au) with
   | false=>rw [aq] at he;simp at he
   | true=>
     rw [aq] at he;simp only [aqo] at he ⊢;cases aa:ho r h (jx P au rs) with
     | none=>rw [aa] at he;cases he
     | some yA=>
       rw [aa] at he;rw [w6 d_ aa];have:=congrFun d_ t;simp only [et] at this;rw [this];exact he
 | .cell a t::rs,af,he=>by
   simp only [jx,ho] at he;unfold l8;cases aq:(Nat.ble a top&&Nat.blt a au) with
   | false=>rw [aq] at he;simp at he
   | true=>
     rw [aq] at he;simp only [aqo] at he ⊢;have TR:=congrFun d_ a;simp only [et] at TR;rw [TR];unfold rh;cases aB:bj P t with
     | none=>rw [aB] at he;simp at he
     | some aP=>
       rw [aB] at he;simp only at he ⊢;cases Tb:aP.agg with
       | true=>
         rw [Tb] at he;simp only [aqo] at he ⊢;cases aD:oK aP.size h (r a) with
         | none=>rw [aD] at he;cases he
         | some v=>
           rw [aD] at he;simp only at he ⊢;cases aa:ho r h (jx P au rs) with
           | none=>rw [aa] at he;cases he
           | some yA=>rw [aa] at he;rw [w6 d_ aa];exact he
       | false=>
         rw [Tb] at he;simp only [aqt] at he ⊢;cases az:Nat.beq aP.size 1 with
         | false=>rw [az] at he;simp at he
         | true=>
           rw [az] at he;simp only [aqo] at he ⊢;cases aD:oL h (r a) with
           | none=>rw [aD] at he;cases he
           | some v=>
             rw [aD] at he;simp only at he ⊢;cases aa:ho r h (jx P au rs) with
             | none=>rw [aa] at he;cases he
             | some yA=>rw [aa] at he;rw [w6 d_ aa];exact he
theorem qj:∀(l:List V) (t:Nat),a7.bz l t=(l[t]?).getD .bad
 | [],t=>by simp [a7.bz]
 | v::af,t=>by
   simp only [a7.bz];cases t with
   | zero=>simp
   | succ t=>simp [qj af t]
def bV.ends:bV->Prop
 | .exit _=>False
 | _=>True
def Cz:List V->ae->Option ae
 | [],h=>some h
 | .ptr b _::ds,h=>(match h.get b with
   | .gg=>Cz ds (h.set b .dead)
   | _=>none)
 | _::_,_=>none
theorem UD {lF:wx}:∀{ds:List V} {h ad:ae},Cz ds h=some ad->oJ lF ds none h=.go none ad
 | [],h,ad,e=>by simp only [Cz,aqj] at e;subst e;rfl
 | d::ds,h,ad,e=>by
   cases d<;>simp only [Cz] at e<;>try (cases e;done)
   rename_i b o;simp only [oJ];cases aJ:h.get b<;>rw [aJ] at e<;>simp only at e<;>try (cases e;done)
   exact UD e
theorem ab0 (dt:P.follows .mixedOrders=true) (bO:eO P) {f:FuncId} {fn:Func} {c:Code} {args:List V} {h:ae} {K:V->ae->Prop} (aA:P.funcs[f]? =some fn) (ah:fn.body=some c)
 (eZ:Nat.ble fn.ntmps top=true) (bg:Nat.beq f dx=false) (gU:Nat.ble args.length fn.ntmps=true) {rc:bL} {c4:List mV} (ph:fI P fn.ntmps c=rc) (nO:jx P fn.ntmps fn.results.toList=c4) {Q:bV->a7->ae->Prop} (H:fZ P rc (a7.bz args) h Q)
 (cR:∀e r ab,(rc.plain=true->r cd=.bad)->Q e r ab->e.ends/\∃ad,Cz (r cd).list ab=some ad/\∃af,ho r ad c4=some af/\K (oneOf af) ad):e9 P f args h K:=by
 subst ph nO;rw [aqE] at eZ gU;have aU:Out fn.ntmps (a7.bz args):=by intro t aB _;rw [qj,aqL (by omega)];rfl
 have ea:(a7.bz args) cd=.bad:=by rw [qj,aqL (by unfold cd;unfold top at eZ;omega)];rfl
 rcases Hq eZ dt bO c _ h _ aU H with ⟨e,bu,ab,aI,h2,pa⟩ | ⟨x,bu,ab,aI,h2,_⟩
 case inr=>exact ((cR _ (bu.set (some h7) x) _ (fun z=>by rw [G_];exact (h2.2 z).trans ea) aI).1:False).elim
 obtain ⟨gx,ad,q7,af,p6,ep⟩:=cR e bu ab (fun z=>(h2.2 z).trans ea) aI;have iu:f≠dx:=fun e=>by subst e;simp at bg
 refine ⟨oneOf af,ad,⟨iu,.inl ⟨⟨fn,aA,by rw [ah];rfl⟩,fun al E w xs ay s=>?_⟩⟩,ep⟩;have hlen:=ay.length;have cX:xs.toArray.size<=fn.ntmps:=by simp;omega
 refine pO.1 (callsIn_of_wp_marks (F:=aK none) (n:=0) aA ah trivial ?_);have k:h' E fn.ntmps (a7.bz args) {tmps:=xs.toArray++Array.replicate (fn.ntmps-xs.toArray.size) undef,defers:=[]}:=by
  refine ⟨by simp;omega,by rw [ea];simp [lD],fun t _=>?_⟩;rw [qj];cases aJ:args[t]? with
  | none=>simp [Rel]
  | some v=>
    obtain ⟨y,bg,aa⟩:=ay.get t v aJ;simp only [arD];have zF:t<xs.length:=(aqD.1 bg).1;rw [aqM,arK (by simpa using zF)];simp only [List.getElem?_toArray,bg,arD];exact aa
 have nc:DC P (fun _ _ _ _=>.fail):=fun f args u h eI ab he=>by cases he
 have fin:∀aw a1 w',E.le aw->h' aw fn.ntmps bu a1->a6 al aw ab w'->LeavesInM (aK none) 0 P fn a1.tmps (fun e w'=>∃aw x,e=.returned x/\E.le aw/\Rel aw (oneOf af) x/\a6 al aw ad w') a1.defers .returning w':=by
  intro aw a1 w' an av aH;obtain ⟨cS,d_⟩:=uY h2.1;have aY:T.get .bad fF cS=bu cd:=by have:=congrFun d_ cd;simp only [et] at this;exact this
  have ar:gb aw fn.ntmps cS a1:=⟨⟨av.size,fun t aB=>by
   have:=congrFun d_ t;simp only [et] at this;rw [this]
   exact av.ax t (mI aB)⟩,by rw [aY];exact av.defers⟩
  refine JL (C:=⟨P,fun _=>none,fun _=>none⟩) (u:=none) bO nc ar rfl aH ?_;rw [aY,UD q7];simp only [finish];rw [w6 d_ p6];exact fun b1 x bn cc cy eD=>⟨b1,x,rfl,an.trans cc,cy,eD⟩
 refine (pa none al E _ w (.inl rfl) k s _ fun aw a1 w' an av aH=>?_).wp;have:=fin aw a1 w' an av aH;cases e with
 | normal=>exact this
 | ret=>exact this
 | exit i=>exact gx.elim
theorem ab1 (dt:P.follows .mixedOrders=true) (bO:eO P) {f:FuncId} {fn:Func} {c:Code} {args:List V} {h:ae} {K:V->ae->Prop} (aA:P.funcs[f]? =some fn) (ah:fn.body=some c)
 (eZ:Nat.ble fn.ntmps top=true) (bg:Nat.beq f dx=false) (gU:Nat.ble args.length fn.ntmps=true) {rc:bL} {c4:List mV} (ph:fI P fn.ntmps c=rc) (nO:jx P fn.ntmps fn.results.toList=c4) (hA:rc.plain=true)
 (H:fZ P rc (a7.bz args) h fun e r ab=>e.ends/\∃af,ho r ab c4=some af/\K (oneOf af) ab):e9 P f args h K:=by
 refine ab0 dt bO aA ah eZ bg gU ph nO H fun e r ab az ⟨U,af,ad,aC⟩=>⟨U,ab,?_,af,ad,aC⟩;rw [az hA];rfl
end
end
section
open Go Go.RowKit
variable [Lay]
theorem ns (i j:Nat):(aE i=aE j)=(i=j):=by apply propext;exact ⟨lv,fun h=>by rw [h]⟩
theorem al1 (af:List V):∀(i off:Nat) (x:V) (t:T V),i<off->T.put .bad x (aE i) (hg t off af)=hg (T.put .bad x (aE i) t) off af:=by
 induction af with
 | nil=>intro i off x t _;rfl
 | cons v af aT=>
   intro i off x t h;simp only [hg];rw [aT i (off+1) x _ (by omega),T.put_comm _ _ _ _ _ _ (fun e=>by rw [ns] at e;omega)]
def hC (af:List V) (off:Nat) (ws:List V):List V:=af.take off++ws++af.drop (off+ws.length)
theorem V5:∀(af:List V) (base i:Nat) (x:V) (t:T V),i<af.length->T.put .bad x (aE (base+i)) (hg t base af)=hg t base (af.set i x)
 | [],_,i,_,_,h=>by simp at h
 | v::af,base,i,x,t,h=>by
   cases i with
   | zero=>
     simp only [hg,arI,List.set];rw [al1 af base (base+1) x _ (by omega),T.V4]
   | succ i=>
     simp only [hg,List.set];have:=V5 af (base+1) i x (T.put .bad v (aE base) t) (by simpa using h);rw [show base + (i+1)=base+1+i from by omega];exact this
theorem WA (af:List V) (off:Nat) (w:V) (ws:List V) (h:off<af.length):hC (af.set off w) (off+1) ws=hC af off (w::ws):=by
 unfold hC;have U:(af.set off w).take (off+1)=af.take off++[w]:=by rw [List.take_succ_eq_append_getElem (by simpa using h)];simp [List.take_set_of_le]
 have ad:(af.set off w).drop (off+1+ws.length)=af.drop (off + (w::ws).length):=by rw [List.drop_set_of_lt (by omega)];congr 1;simp;omega
 rw [U,ad];simp
theorem ru (af:List V) (off:Nat) (ws:List V) (h:off+ws.length<=af.length):(hC af off ws).length=af.length:=by unfold hC;simp;omega
theorem GN:∀(ws af:List V) (off:Nat),off+ws.length<=af.length->hg (hg .e 0 af) off ws=hg .e 0 (hC af off ws)
 | [],af,off,h=>by simp [hg,hC]
 | w::ws,af,off,h=>by simp only [aqp] at h;simp only [hg];have U:=V5 af 0 off w .e (by omega);rw [aqW] at U;rw [U,GN ws (af.set off w) (off+1) (by simp;omega),WA af off w ws (by omega)]
theorem ER (af:List V):∀(off i:Nat) (t:T V),T.get .bad (aE (off+i)) (hg t off af)=if i<af.length then (af[i]?).getD .bad else T.get .bad (aE (off+i)) t:=by
 induction af with
 | nil=>intro off i t;simp [hg]
 | cons v af aT=>
   intro off i t;simp only [hg];cases i with
   | zero=>
     have:∀(ws:List V) (o:Nat) (s:T V),off<o->T.get .bad (aE off) (hg s o ws)=T.get .bad (aE off) s:=by
      intro ws
      induction ws with
      | nil=>intro o s _;rfl
      | cons w ws agd=>
        intro o s aU;simp only [hg];rw [agd (o+1) _ (by omega),T.ja,aqr (fun e=>by rw [ns] at e;omega)]
     rw [arI,this af (off+1) _ (by omega),T.ja];simp
   | succ i=>
     have:=aT (off+1) i (T.put .bad v (aE off) t);rw [show off+1+i=off + (i+1) from by omega] at this;rw [this,T.ja];have dK:¬aE off=aE (off + (i+1)):=fun e=>by rw [ns] at e;omega
     rw [aqr dK];simp
theorem ET (af:List V):∀(n i:Nat),i+n<=af.length->iT (hg .e 0 af) i n=(af.drop i).take n
 | 0,i,h=>by simp [iT]
 | n+1,i,h=>by simp only [iT];have U:=ER af 0 i .e;rw [aqW] at U;rw [U,aqw (by omega),ET af n (i+1) (by omega)];have aY:af.drop i=af[i]::af.drop (i+1):=aq0 (by omega);rw [aY,arN];simp [aqm (by omega:i<af.length)]
def cz.bz (af:List V) (c':Nat) (st:Bool):cz:=.cells af.length (hg .e 0 af) c' st
def cz.ro (af:List V):cz:=.view af.length (hg .e 0 af)
def k' (h:ae) (b:aN) (af:List V):Prop:=h.get b=.ro af\/∃c' st,h.get b=.bz af c' st
def Own (h:ae) (b:aN) (af:List V) (c':Nat) (st:Bool):Prop:=h.get b=.bz af c' st
theorem k'.qs {α:Type} {h:ae} {b:aN} {af:List V} (H:k' h b af) (d:α) (f:Nat->T V->α):(h.get b).qs d f=f af.length (hg .e 0 af):=by rcases H with H | ⟨_,_,H⟩<;>rw [H]<;>rfl
theorem Own.lay {h:ae} {b:aN} {af:List V} {c':Nat} {st:Bool} (H:Own h b af c' st) {off:Nat} {ws:List V} (aU:off+ws.length<=af.length) (U:fs ws=true):
 lay h b off ws=some (h.set b (.bz (hC af off ws) c' st)):=by
 unfold bf.lay;rw [show h.get b=.cells af.length (hg .e 0 af) c' st from H];simp only [cz.on];rw [show Nat.ble (off+ws.length) af.length=true from by rw [aqE];exact aU,U];simp only [arz,aqo,aqj,cz.bz];rw [ru af off ws aU,GN ws af off aU]
theorem Own.store {h:ae} {b:aN} {af:List V} {c':Nat} {st:Bool} (H:Own h b af c' st) {off n:Nat} {y:V} (aL:y.cells.length=n) (aU:off+n<=af.length) (U:fs y.cells=true):
 qv n h (.ptr b off) y=some (h.set b (.bz (hC af off y.cells) c' st)):=by
 simp only [qv,V.kg];rw [show Nat.beq y.cells.length n=true from by rw [aqT];exact aL];simp only [aqo];exact H.lay (by rw [aL];exact aU) U
theorem U_ {h:ae} {af:List V} (aD:af.length<=top):hB h af=some (h.new (.bz af 0 false)):=by unfold hB;rw [show Nat.ble af.length top=true from by rw [aqE];exact aD];rfl
theorem L9 {h:ae} {af:List V} {c':Nat} {st:Bool} (aD:af.length<=top) (he:1<=c'):mJ h af c' st=some (h.new (.bz af c' st)):=by unfold mJ;rw [show Nat.ble af.length top=true from by rw [aqE];exact aD,show Nat.ble 1 c'=true from by rw [aqE];exact he];rfl
theorem jK (h:ae) (k:cz):(h.new k).next=h.next+1:=rfl
theorem rk (h:ae) (b:aN) (k:cz):(h.set b k).next=h.next:=rfl
section
variable {P:Program} {r:a7} {h:ae}
theorem amN (r:a7) (d:Nat) (v:V) (t:Nat):a7.set r (some d) v t=if t=d then v else r t:=(rfl)
theorem amO (r:a7) (v:V):a7.set r none v=r:=(rfl)
theorem anL (r:a7) (u:Nat) (us:List Nat) (t:Nat):a7.trim r (u::us) t=if t=u then r t else a7.trim r us t:=(rfl)
theorem akh (v:V) (af:List V):a7.bz (v::af) 0=v:=(rfl)
theorem akj (v:V) (af:List V) (t:Nat):a7.bz (v::af) (t+1)=a7.bz af t:=by simp [a7.bz]
theorem acV (r:a7) (n:Nat):aW.aS r (.t n)=r n:=(rfl)
theorem acU (r:a7) (v:V):aW.aS r (.c v)=v:=(rfl)
theorem Vl {d:Option Nat} {g:G} {rs:List Nat} {K:a7->V->ae->Prop} {X:V->ae->Prop}:bJ.wp P ⟨d,g,none,rs⟩ r h K X=g.wp P (r.trim rs) h (fun v ab=>K (r.set d v) v ab) X:=(rfl)
theorem Vj {d:Option Nat} {g:G} {j:Nat} {want:Bool} {rs:List Nat} {K:a7->V->ae->Prop} {X:V->ae->Prop}:bJ.wp P ⟨d,g,some (j,want),rs⟩ r h K X=
 gate (r.trim rs j) want (g.wp P (r.trim rs) h (fun v ab=>K (r.set d v) v ab) X) (K (r.set d (.tuple [])) (.tuple []) h):=(rfl)
variable {K X:V->ae->Prop}
theorem rZ (k:IntKind):pR k k=true:=by cases k<;>rfl
theorem qc (a b:Int):Int.leB a b=decide (a<=b):=qd a b
theorem Ew (a b:Int):Int.hY a b=decide (a=b):=by rw [na];rfl
variable (k:IntKind) (a b:Int)
theorem agE:(fK.int .add).run P (.int k a) (.int k b)=some (.int k (k.wrap (a+b))):=by simp [fK.run,nR,p_,V.fg,rZ]
theorem ahI:(fK.int .sub).run P (.int k a) (.int k b)=some (.int k (k.wrap (a-b))):=by simp [fK.run,nR,p_,V.fg,rZ]
theorem ahr:(fK.int .mul).run P (.int k a) (.int k b)=some (.int k (k.wrap (a * b))):=by simp [fK.run,nR,p_,V.fg,rZ]
theorem ag2:(fK.int .eql).run P (.int k a) (.int k b)=some (.bool (decide (a=b))):=by simp [fK.run,nR,oH,V.fg,rZ,Ew]
theorem ahu:(fK.int .neq).run P (.int k a) (.int k b)=some (.bool (!decide (a=b))):=by simp [fK.run,nR,oH,V.fg,rZ,Ew]
theorem ahn:(fK.int .lss).run P (.int k a) (.int k b)=some (.bool (decide (a<b))):=by simp [fK.run,nR,oH,V.fg,rZ,qc];rw [arc];simp
theorem ahk:(fK.int .leq).run P (.int k a) (.int k b)=some (.bool (decide (a<=b))):=by simp [fK.run,nR,oH,V.fg,rZ,qc]
theorem ag':(fK.int .gtr).run P (.int k a) (.int k b)=some (.bool (decide (b<a))):=by simp [fK.run,nR,oH,V.fg,rZ,qc];rw [arc];simp
theorem ag9:(fK.int .geq).run P (.int k a) (.int k b)=some (.bool (decide (b<=a))):=by simp [fK.run,nR,oH,V.fg,rZ,qc]
theorem agH (x y:Bool):(fK.BC false).run P (.bool x) (.bool y)=some (.bool (x == y)):=by simp [fK.run,kz,BA,rY]
theorem agL (x y:Bool):(fK.BC true).run P (.bool x) (.bool y)=some (.bool (!(x == y))):=by simp [fK.run,kz,BA,rY]
theorem anX (x:Bool):sD .not (.bool x)=some (.bool (!x)):=(rfl)
theorem anW:sD .neg (.int k a)=some (.int k (k.wrap (0-a))):=(rfl)
theorem wrap_i64 {n:Int} (U:-9223372036854775808<=n) (ad:n<=9223372036854775807):IntKind.i64.wrap n=n:=by exact Go.IntWalk.i64_in n ⟨U,ad⟩
end
section
variable {P:Program} {r:a7} {h:ae} {Q:bV->a7->ae->Prop}
theorem aa7 {ops:List bJ}:fZ P (.ax ops) r h Q=uw P ops r h (Q .normal) fun bu x ab=>Q (.exit kZ) (bu.set (some h7) x) ab:=(rfl)
theorem aa8 {a b:bL}:fZ P (.seq a b) r h Q=fZ P a r h fun e bu ab=>e.andThen (fZ P b bu ab Q) (Q e bu ab):=(rfl)
theorem anE {A B:Prop}:bV.andThen .normal A B=A:=(rfl)
theorem anF {A B:Prop}:bV.andThen .ret A B=B:=(rfl)
theorem anC {A B:Prop} {i:Nat}:bV.andThen (.exit i) A B=B:=(rfl)
theorem aiU {id:Nat}:bV.leave id .normal=.normal:=(rfl)
theorem aiV {id:Nat}:bV.leave id .ret=.ret:=(rfl)
theorem aiT {id i:Nat}:bV.leave id (.exit i)=if i=id then .normal else .exit i:=(rfl)
end
def yD {α:Type} (o:Option α) (k:α->Prop):Prop:=
 match o with
 | some v=>k v
 | none=>False
@[congr] theorem ap5 {α:Type} {o cm:Option α} {k:α->Prop} (h:o=cm):yD o k=yD cm k:=by rw [h]
def V.opt (c:Bool) (v:V):V:=bif c then v else .tuple []
theorem akY (v:V):V.opt true v=v:=(rfl)
theorem akV (v:V):V.opt false v=.tuple []:=(rfl)
@[congr] theorem apO {c fl:Bool} {v ej:V} (h:c=fl) (bE:fl=true->v=ej):V.opt c v=V.opt fl ej:=by
 subst h;cases c with
 | true=>rw [bE rfl]
 | false=>rfl
def V.bif (t:Bool) (a b:V):V:=bif t then a else b
theorem an2 (a b:V):V.bif true a b=a:=(rfl)
theorem an1 (a b:V):V.bif false a b=b:=(rfl)
theorem Zz (t a b:Bool):V.bif t (.bool a) (.bool b)=.bool (bif t then a else b):=by cases t<;>rfl
theorem ZA (t:Bool) (k:IntKind) (a b:Int):V.bif t (.int k a) (.int k b)=.int k (if t=true then a else b):=by cases t<;>rfl
theorem ZC (t x:Bool):(bif t then true else x)=(t||x):=by cases t<;>rfl
theorem Zy (t x:Bool):(bif t then x else false)=(t&&x):=by cases t<;>rfl
@[congr] theorem aoM {t ui:Bool} {a a1 b b2:V} (h:t=ui) (a_:ui=true->a=a1) (ah:ui=false->b=b2):V.bif t a b=V.bif ui a1 b2:=by
 subst h;cases t with
 | true=>rw [V.bif,V.bif,a_ rfl];rfl
 | false=>rw [V.bif,V.bif,ah rfl];rfl
def gv (c:Bool) (A:Prop):Prop:=c=true->A
@[congr] theorem aoB {c fl:Bool} {A fB:Prop} (h:c=fl) (a_:fl=true->A=fB):gv c A=gv fl fB:=by subst h;exact propext ⟨fun q e=>(a_ e) ▸ q e,fun q e=>(a_ e) ▸ q e⟩
theorem X2 (c:Bool):gv c True=True:=propext ⟨fun _=>trivial,fun _ _=>trivial⟩
theorem X4 (A:Prop):gv true A=A:=propext ⟨fun q=>q rfl,fun q _=>q⟩
theorem X3 (A:Prop):gv false A=True:=propext ⟨fun _=>trivial,fun _ e=>by cases e⟩
def took (v:V) (want:Bool):Bool:=
 match v with
 | .bool b=>b == want
 | _=>false
theorem anI (b w:Bool):took (.bool b) w=(b == w):=(rfl)
theorem anK (af:List V) (w:Bool):took (.tuple af) w=false:=(rfl)
theorem anJ (c:Bool) (v:V) (w:Bool):took (.opt c v) w=(c&&took v w):=by cases c<;>rfl
def gV (v:V):Prop:=
 match v with
 | .bool _=>True
 | .tuple _=>True
 | _=>False
theorem ags (b:Bool):gV (.bool b)=True:=(rfl)
theorem agu (af:List V):gV (.tuple af)=True:=(rfl)
theorem agt (c b:Bool):gV (.opt c (.bool b))=True:=by cases c<;>rfl
def G.qa:G->Bool
 | .fz _ | .pick .. | .build .. | .hc _ | .iH .. | .vE _ | .bin .. | .un .. | .fn .. | .CM .. | .yZ .. | .si .. | .sz .. | .e6 .. | .hI .. | .qS .. | .w7 .. | .fy .. | .vk .. | .oI .. | .kV .. | .look .. | .ext .. | .zX _ | .e4 _ | .Ec _ | .F7 .. | .looks .. | .C4 .. | .gg .. =>true
 | .j' (.int _) _=>true
 | .len .map _=>false
 | .len _ _=>true
 | _=>false
def V.tP {α:Type} (v:V) (d:α) (f:List V->α):α:=
 match v with
 | .agg cs=>f cs
 | _=>d
def V.CU {α:Type} (v:V) (d:α) (f:List V->α):α:=
 match v with
 | .tuple cs=>f cs
 | _=>d
def C7 (c a b:V):Option V:=
 match c with
 | .bool t=>some (V.bif t a b)
 | _=>none
theorem alI (t:Bool) (a b:V):C7 (.bool t) a b=some (V.bif t a b):=(rfl)
def ud (n:Nat) (x:V) (aZ aG m3:Option V):Option V:=
 match x with
 | .cn=>Hb aZ aG m3
 | .slice b off xR cap=>vY n b off xR cap aZ aG m3
 | .fp b off xR idx=>Aq n b off xR idx aZ aG m3
 | .iy b off nq idx=>Hc b off nq idx aZ aG m3
 | _=>none
def wW (f:V) (xs:List V) (s:V):Option V:=
 match f with
 | .func g cs=>bif Nat.beq g dx then none else some (.tuple (.func g (xs++cs)::s.list))
 | _=>none
theorem R8 {g:FuncId} {cs xs:List V} {s:V} (aJ:Nat.beq g dx=false):wW (.func g cs) xs s=some (.tuple (.func g (xs++cs)::s.list)):=by simp only [wW,aJ,aqt]
def G.nu (P:Program) (g:G) (r:a7) (h:ae):Option V:=
 match g with
 | .fz x=>some (x.aS r)
 | .pick c a b=>C7 (c.aS r) (a.aS r) (b.aS r)
 | .build z bC=>(match j_ z (lJ r bC) with
   | some cs=>some (.agg cs)
   | none=>none)
 | .hc x=>oL h (x.aS r)
 | .iH n x=>oK n h (x.aS r)
 | .vE x=>vD (x.aS r)
 | .bin k x y=>k.run P (x.aS r) (y.aS r)
 | .un op x=>sD op (x.aS r)
 | .j' (.int k) x=>(x.aS r).fg none fun _ n=>some (.int k (k.wrap n))
 | .fn f ff=>some (.func f (aW.gh r ff))
 | .CM f first=>some (.nW f (aW.gh r first))
 | .yZ t z ok x=>wO t z ok (x.aS r)
 | .si t x=>some (.iface t (x.aS r))
 | .sz x aZ aG m3=>n9 (x.aS r) (aW.opt r aZ) (aW.opt r aG) (aW.opt r m3)
 | .e6 n x aZ aG m3=>ud n (x.aS r) (aW.opt r aZ) (aW.opt r aG) (aW.opt r m3)
 | .hI off x=>(x.aS r).kg none fun b o=>some (.ptr b (o+off))
 | .qS off x=>(x.aS r).tP none fun cs=>cs[off]?
 | .w7 off n x=>(x.aS r).tP none fun cs=>some (.agg ((cs.drop off).take n))
 | .fy n x i=>(xM n).run (x.aS r) (i.aS r)
 | .vk n s x i=>(tE n s).run (x.aS r) (i.aS r)
 | .oI x i=>tG.run (x.aS r) (i.aS r)
 | .kV t x i=>(tF P t).run (x.aS r) (i.aS r)
 | .look k z ok x i=>ln k.eq z ok h (x.aS r) (i.aS r)
 | .ext x i=>(x.aS r).CU none fun af=>af[i]?
 | .len (.arr n) _=>some (.int .i64 n)
 | .len .str x=>(qe .string).run (x.aS r)
 | .len .slice x=>(qe (.slice 0)).run (x.aS r)
 | .zX args=>l6 (fun b a=>!Int.leB a b) (aW.gh r args)
 | .e4 args=>l6 (fun b a=>!Int.leB b a) (aW.gh r args)
 | .Ec x=>Bp (x.aS r)
 | .F7 z ok x i=>nV ⟨mO h⟩ z ok h (x.aS r) (i.aS r)
 | .looks k z ok x i=>bif sk P k (i.aS r) then nV (structEq P k) z ok h (x.aS r) (i.aS r) else none
 | .C4 neg x y=>Np neg h (x.aS r) (y.aS r)
 | .gg f args=>wW (f.aS r) (aW.gh r args) (r cd)
 | _=>none
section
variable {P:Program} {r:a7} {h:ae}
theorem pure_run {g:G} (ai:g.qa=true) (call:eF):g.run P call r h=a8.of h (g.nu P r h):=by
 cases g<;>simp only [G.qa] at ai<;>try (cases ai;done)
 all_goals simp only [G.run,G.nu]
 case fz x=>rfl
 case pick c a b=>
  generalize c.aS r=q;cases q<;>rfl
 case build z bC=>
  generalize j_ z (lJ r bC)=q;cases q<;>rfl
 case j' k x=>
  cases k<;>simp only at ai<;>try (cases ai;done)
  simp only [uA.run];generalize x.aS r=q;cases q<;>rfl
 case fn f ff=>rfl
 case CM f first=>rfl
 case si t x=>rfl
 case e6 n x aZ aG m3=>
  unfold ud;generalize x.aS r=q;cases q<;>rfl
 case qS off x=>
  generalize x.aS r=q;cases q<;>rfl
 case w7 off n x=>
  generalize x.aS r=q;cases q<;>rfl
 case ext x i=>
  generalize x.aS r=q;cases q<;>rfl
 case len k x=>
  cases k<;>simp only at ai<;>first | rfl | (cases ai;done)
 case gg f args=>
  unfold wW;generalize f.aS r=q;cases q<;>try rfl
  rename_i g cs;simp only;cases Nat.beq g dx<;>rfl
theorem SX {g:G} (ai:g.qa=true) {K X:V->ae->Prop}:g.wp P r h K X=yD (g.nu P r h) fun v=>K v h:=by
 have e:g.wp P r h K X=∃v ab,g.run P jw r h=.val v ab/\K v ab:=by cases g<;>first | rfl | (simp [G.qa] at ai;done)
 rw [e,pure_run ai];apply propext;cases bE:g.nu P r h with
 | none=>exact ⟨fun ⟨v,ab,q,_⟩=>(by cases q),fun q=>q.elim⟩
 | some v=>
   constructor
   . rintro ⟨v1,U,q,k⟩;simp only [a8.of,a8.val.injEq] at q;obtain ⟨rfl,rfl⟩:=q;exact k
   . intro k;exact ⟨v,h,rfl,k⟩
theorem Vm {d:Option Nat} {g:G} {rs:List Nat} {K:a7->V->ae->Prop} {X:V->ae->Prop} (ai:g.qa=true):bJ.wp P ⟨d,g,none,rs⟩ r h K X=yD (g.nu P (r.trim rs) h) fun v=>K (r.set d v) v h:=by rw [Vl,SX ai]
theorem Vk {d:Option Nat} {g:G} {j:Nat} {want:Bool} {rs:List Nat} {K:a7->V->ae->Prop} {X:V->ae->Prop} (ai:g.qa=true):bJ.wp P ⟨d,g,some (j,want),rs⟩ r h K X=
 (gV (r.trim rs j)/\gv (took (r.trim rs j) want) ((g.nu P (r.trim rs) h).isSome=true)/\
   K (r.set d (V.opt (took (r.trim rs j) want) ((g.nu P (r.trim rs) h).getD .bad))) (V.opt (took (r.trim rs j) want) ((g.nu P (r.trim rs) h).getD .bad)) h):=by
 rw [Vj,SX ai];generalize r.trim rs j=q;generalize g.nu P (r.trim rs) h=o;apply propext;cases q<;>simp only [gate,gV,took,asn,arZ]
 case bool b=>
  cases b<;>cases want<;>cases o<;>simp [yD,gv,V.opt]
 case tuple af=>simp [gv,V.opt]
@[congr] theorem ap' {os:List bJ} {r bu:a7} {h ab:ae} {K:a7->ae->Prop} {X:a7->V->ae->Prop} (aM:r=bu) (bh:h=ab):uw P os r h K X=uw P os bu ab K X:=by rw [aM,bh]
@[congr] theorem ap8 {os:List bJ} {r bu:a7} {h ab:ae} {K:List fL->a7->ae->Prop} {X:List fL->a7->ae->V->ae->Prop} (aM:r=bu) (bh:h=ab):k3 P os r h K X=k3 P os bu ab K X:=by rw [aM,bh]
@[congr] theorem aoy {o:bJ} {r bu:a7} {h ab:ae} {K:a7->V->ae->Prop} {X:V->ae->Prop} (aM:r=bu) (bh:h=ab):o.wp P r h K X=o.wp P bu ab K X:=by rw [aM,bh]
@[congr] theorem aoz {g:G} {r bu:a7} {h ab:ae} {K X:V->ae->Prop} (aM:r=bu) (bh:h=ab):g.wp P r h K X=g.wp P bu ab K X:=by rw [aM,bh]
@[congr] theorem ap7 {c:bL} {r bu:a7} {h ab:ae} {Q:bV->a7->ae->Prop} (aM:r=bu) (bh:h=ab):fZ P c r h Q=fZ P c bu ab Q:=by rw [aM,bh]
@[congr] theorem aow {f:FuncId} {a a1:List V} {h ab:ae} {K:V->ae->Prop} (aM:a=a1) (bh:h=ab):e9 P f a h K=e9 P f a1 ab K:=by rw [aM,bh]
def gW (k:cz) (off:Nat):Option V:=k.qs none fun n cs=>bif Nat.blt off n then some (T.get .bad (aE off) cs) else none
def pk (n:Nat) (k:cz) (off:Nat):Option V:=k.qs none fun m cs=>bif Nat.ble (off+n) m then some (.agg (iT cs off n)) else none
theorem ajc (b:aN) (off:Nat):oL h (.ptr b off)=gW (h.get b) off:=(rfl)
theorem aje (n:Nat) (b:aN) (off:Nat):oK n h (.ptr b off)=pk n (h.get b) off:=(rfl)
theorem Uy {af:List V} {off:Nat}:(bif Nat.blt off af.length then some (T.get .bad (aE off) (hg .e 0 af)) else none)=af[off]? :=by
 have:=ER af 0 off .e;rw [aqW] at this;rw [this];by_cases aU:off<af.length
 . rw [show Nat.blt off af.length=true from by rw [aqS];exact aU,aqw aU];simp [aqm aU]
 . rw [show Nat.blt off af.length=false from by rw [<-Bool.not_eq_true,aqS];exact aU];rw [aqL (by omega)];rfl
theorem LK (af:List V) (c':Nat) (st:Bool) (off:Nat):gW (.bz af c' st) off=af[off]? :=Uy
theorem Ux (af:List V) (off:Nat):gW (.ro af) off=af[off]? :=Uy
theorem UC {af:List V} {off n:Nat}:(bif Nat.ble (off+n) af.length then some (V.agg (iT (hg .e 0 af) off n)) else none)=if off+n<=af.length then some (.agg ((af.drop off).take n)) else none:=by
 by_cases aU:off+n<=af.length
 . rw [show Nat.ble (off+n) af.length=true from by rw [aqE];exact aU,aqw aU,ET af n off aU];rfl
 . rw [show Nat.ble (off+n) af.length=false from by rw [<-Bool.not_eq_true,aqE];exact aU,aqr aU];rfl
theorem UA (n:Nat) (af:List V) (c':Nat) (st:Bool) (off:Nat):pk n (.bz af c' st) off=if off+n<=af.length then some (.agg ((af.drop off).take n)) else none:=UC
theorem UB (n:Nat) (af:List V) (off:Nat):pk n (.ro af) off=if off+n<=af.length then some (.agg ((af.drop off).take n)) else none:=UC
theorem k'.hc {b:aN} {af:List V} (H:k' h b af) (off:Nat):gW (h.get b) off=af[off]? :=by
 rcases H with H | ⟨_,_,H⟩<;>rw [H]
 . exact Ux af off
 . exact LK af _ _ off
theorem k'.iH {b:aN} {af:List V} (H:k' h b af) (n off:Nat):pk n (h.get b) off=if off+n<=af.length then some (.agg ((af.drop off).take n)) else none:=by
 rcases H with H | ⟨_,_,H⟩<;>rw [H]
 . exact UB n af off
 . exact UA n af _ _ off
def over:List V->List V->List V
 | af,[]=>af
 | [],_::_=>[]
 | _::af,w::ws=>w::over af ws
def qt:List V->Nat->List V->List V
 | af,0,ws=>over af ws
 | [],_+1,_=>[]
 | v::af,n+1,ws=>v::qt af n ws
theorem VE:∀(af ws:List V),ws.length<=af.length->over af ws=ws++af.drop ws.length
 | af,[],_=>by cases af<;>rfl
 | [],_::_,h=>by simp at h
 | v::af,w::ws,h=>by simp only [over,aqP,aqp,asb];rw [VE af ws (by simpa using h)]
theorem He:∀(af:List V) (off:Nat) (ws:List V),off+ws.length<=af.length->qt af off ws=hC af off ws
 | af,0,ws,h=>by cases af<;>simp only [qt,hC,List.take_zero,aq5,aqW]<;>exact VE _ ws (by omega)
 | [],n+1,ws,h=>by simp at h
 | v::af,n+1,ws,h=>by simp only [aqp] at h;simp only [qt,hC];rw [He af n ws (by omega)];simp only [hC,arN,aqP];rw [show n+1+ws.length=n+ws.length+1 from by omega,asb]
theorem am8 (af:List V) (off:Nat) (ws:List V) (h:off+ws.length<=af.length):(qt af off ws).length=af.length:=by rw [He af off ws h,ru af off ws h]
def Cx (n:Nat) (h:ae) (b:aN) (off:Nat) (y:V) (k:cz):Option ae:=
 bif Nat.beq y.cells.length n then k.on none fun m cs c' st=>
  bif Nat.ble (off+y.cells.length) m&&fs y.cells then some (h.set b (.cells m (hg cs off y.cells) c' st)) else none else none
theorem ang (n:Nat) (b:aN) (off:Nat) (y:V):qv n h (.ptr b off) y=Cx n h b off y (h.get b):=(rfl)
theorem aiD {n:Nat} {b:aN} {off:Nat} {y:V} {af:List V} {c':Nat} {st:Bool} (U:y.cells.length=n) (ad:fs y.cells=true) (aC:off+n<=af.length):
 Cx n h b off y (.bz af c' st)=some (h.set b (.bz (qt af off y.cells) c' st)):=by
 unfold Cx;rw [show Nat.beq y.cells.length n=true from by rw [aqT];exact U];simp only [aqo,cz.bz,cz.on];rw [show Nat.ble (off+y.cells.length) af.length=true from by rw [aqE,U];exact aC,ad];simp only [arz,aqo,aqj];rw [am8 af off _ (by rw [U];exact aC),He af off _ (by rw [U];exact aC),GN _ af off (by rw [U];exact aC)]
theorem ti (k:cz):(h.new k).get (aE h.next)=k:=by rw [ae.jY,aqw rfl]
theorem jY (b:aN) (k:cz):(h.new k).get b=if aE h.next=b then k else h.get b:=ae.jY h b k
theorem fG (b b2:aN) (k:cz):(h.set b k).get b2=if b=b2 then k else h.get b2:=ae.fG h b b2 k
def Old (h:ae) (b:aN):Prop:=cM b<h.next
theorem yc:∀b:aN,aE (cM b)=b:=by
 have key:∀(b:aN) (d:Nat),cM b+1<2 ^ d->vI d (cM b)=b:=by
  intro b
  induction b with
  | z=>intro d aY;cases d<;>rfl
  | l p aT=>
    intro d aY;cases d with
    | zero=>simp [cM] at aY
    | succ d=>
      have ad:2 ^ (d+1)=2 * 2 ^ d:=by rw [Nat.pow_succ];omega
      rw [ad] at aY;simp only [cM] at aY ⊢;simp only [vI,iE];rw [aqr (by omega),aqw (by omega),show (2 * cM p+1) / 2=cM p from by omega,aT d (by omega)]
  | r p aT=>
    intro d aY;cases d with
    | zero=>simp [cM] at aY
    | succ d=>
      have ad:2 ^ (d+1)=2 * 2 ^ d:=by rw [Nat.pow_succ];omega
      rw [ad] at aY;simp only [cM] at aY ⊢;simp only [vI,iE];rw [aqr (by omega),aqr (by omega),show (2 * cM p+2) / 2-1=cM p from by omega,aT d (by omega)]
 intro b;exact key b _ Nat.lt_log2_self
theorem Mt {b:aN} {i:Nat} (ah:Old h b) (aG:h.next<=i):(aE i=b)=False:=by
 apply propext;constructor
 . intro e;unfold Old at ah;rw [<-e,dj] at ah;omega
 . exact False.elim
theorem Vs {k:cz}:Old (h.new k) (aE h.next):=by unfold Old;rw [dj];exact Nat.lt_succ_self _
def ED (off:Nat) (x:V):Option V:=x.kg none fun b o=>some (.ptr b (o+off))
theorem ac5 (off:Nat) (b:aN) (o:Nat):ED off (.ptr b o)=some (.ptr b (o+off)):=(rfl)
theorem aks {α:Type} (af:List V) (d:α) (f:List V->α):V.CU (.tuple af) d f=f af:=(rfl)
theorem akr {α:Type} (af:List V) (d:α) (f:List V->α):V.tP (.agg af) d f=f af:=(rfl)
def ju (x:V):Option V:=(qe (.slice 0)).run x
theorem ai1 (b:aN) (off n c:Nat):ju (.slice b off n c)=some (.int .i64 n):=(rfl)
theorem aiZ (b:aN) (off n c:Nat):ju (.fp b off n c)=some (.int .i64 n):=(rfl)
theorem ai2 (b:aN) (off n c:Nat):ju (.iy b off n c)=some (.int .i64 0):=(rfl)
theorem ai0:ju .cn=some (.int .i64 0):=(rfl)
def FY (x:V):Option V:=(qe .string).run x
theorem ai3 (s:List UInt8):FY (.str s)=some (.int .i64 s.length):=(rfl)
def kU (n:Nat) (x i:V):Option V:=(xM n).run x i
theorem Ls (n:Nat) (b:aN) (off len cap:Nat) (k:IntKind) (i:Int):kU n (.slice b off len cap) (.int k i)=if 0<=i/\i<len then some (.ptr b (off+i.toNat * n)) else none:=by simp only [kU,xM,V.fg,vm,qc];by_cases U:0<=i<;>by_cases ad:(len:Int)<=i<;>simp [U,ad]<;>omega
theorem Lr (n:Nat) (b:aN) (off len cap:Nat) (k:IntKind) (i:Int):kU n (.fp b off len cap) (.int k i)=if 0<=i/\i<len then some (.ptr b (off+i.toNat * n)) else none:=by simp only [kU,xM,V.fg,vm,qc];by_cases U:0<=i<;>by_cases ad:(len:Int)<=i<;>simp [U,ad]<;>omega
def Ei (k:IntKind) (x:V):Option V:=x.fg none fun _ n=>some (.int k (k.wrap n))
theorem ab4 (k bG:IntKind) (n:Int):Ei k (.int bG n)=some (.int k (k.wrap n)):=(rfl)
end
structure ik where
 all:List bJ
 asks:List (Nat × List Nat)
 es:List fL
 jP:List Nat
 wl:List Nat
 Aw:Bool
def jh (D:Option ik) (r:a7) (h:ae) (v:V):Option ik:=
 match D with
 | none=>none
 | some d=>some ⟨d.all,d.asks,d.es++[⟨r,h,v⟩],d.jP,d.wl,d.Aw⟩
inductive iZ where
 | os (D:Option ik) (os:List bJ)
 | c (b:bL)
 | bd (id:Nat)
section
variable (P:Program)
def s9 (D:Option ik) (es:List fL) (aA:ae):Prop:=
 match D with
 | none=>True
 | some d=>bif d.Aw then D2 P d.all (d.es++es) aA d.asks else mX P d.all (d.es++es) aA d.asks
def tR (D:Option ik) (es:List fL) (h:ae):Prop:=
 match D with
 | none=>True
 | some d=>bif d.Aw then False else (xK (d.es++es).length d.jP=true/\mX P d.all (d.es++es) h d.asks)
def we (D:Option ik) (es:List fL) (r:a7):a7:=
 match D with
 | none=>r
 | some d=>a7.sF (BE (d.es++es) r) d.wl
def bH:List iZ->bV->a7->ae->(bV->a7->ae->Prop)->Prop
 | [],e,r,h,Q=>Q e r h
 | .os D os::aQ,e,r,h,Q=>match e with
   | .normal=>k3 P os r h (fun es bu ab=>s9 P D es ab/\bH aQ .normal bu ab Q) fun es ca U x ad=>tR P D es U/\bH aQ (.exit kZ) ((we D es ca).set (some h7) x) ad Q
   | e=>bH aQ e r h Q
 | .c b::aQ,e,r,h,Q=>match e with
   | .normal=>fZ P b r h fun e bu ab=>bH aQ e bu ab Q
   | e=>bH aQ e r h Q
 | .bd id::aQ,e,r,h,Q=>bH aQ (e.leave id) r h Q
def ev (o:Option V) (d:Option Nat) (D:Option ik) (os:List bJ) (aQ:List iZ) (r:a7) (h:ae) (Q:bV->a7->ae->Prop):Prop:=
 yD o fun v=>bH P (.os (jh D r h v) os::aQ) .normal (r.set d v) h Q
def k2 (o:a8) (d:Option Nat) (D:Option ik) (os:List bJ) (aQ:List iZ) (r:a7) (aV:ae) (Q:bV->a7->ae->Prop):Prop:=
 match o with
 | .val v h=>bH P (.os (jh D r aV v) os::aQ) .normal (r.set d v) h Q
 | _=>False
def hJ (v:V) (want:Bool) (d:Option Nat) (g:G) (rs:List Nat) (D:Option ik) (os:List bJ) (aQ:List iZ) (r:a7) (h:ae) (Q:bV->a7->ae->Prop):Prop:=
 gate v want (bH P (.os D (⟨d,g,none,rs⟩::os)::aQ) .normal r h Q) (bH P (.os (jh D r h (.tuple [])) os::aQ) .normal (r.set d (.tuple [])) h Q)
def y2 (v:V) (a b:bL) (aQ:List iZ) (r:a7) (h:ae) (Q:bV->a7->ae->Prop):Prop:=
 match v with
 | .bool t=>(t=true->bH P (.c a::aQ) .normal r h Q)/\(t=false->bH P (.c b::aQ) .normal r h Q)
 | _=>False
def rm (D:Option ik) (aQ:List iZ) (r:a7) (h:ae) (x:V) (ab:ae) (Q:bV->a7->ae->Prop):Prop:=
 tR P D [] h/\bH P aQ (.exit kZ) ((we D [] r).set (some h7) x) ab Q
def Ob (v:V) (D:Option ik) (aQ:List iZ) (r:a7) (h:ae) (Q:bV->a7->ae->Prop):Prop:=
 ∃t y,v=.iface t y/\rm P D aQ r h (.iface t y) h Q
def qK (f:FuncId) (args:List V) (d:Option Nat) (D:Option ik) (os:List bJ) (aQ:List iZ) (r:a7) (h:ae) (Q:bV->a7->ae->Prop):Prop:=
 jB P f args h (fun v ab=>bH P (.os (jh D r h v) os::aQ) .normal (r.set d v) ab Q) fun x ab=>rm P D aQ r h x ab Q
def OJ (xs:List V) (d:Option Nat) (D:Option ik) (os:List bJ) (aQ:List iZ) (r:a7) (h:ae) (Q:bV->a7->ae->Prop):Prop:=
 Pz P xs h fun v ab=>bH P (.os (jh D r h v) os::aQ) .normal (r.set d v) ab Q
def IV (g:FuncId) (xs:List V) (d:Option Nat) (D:Option ik) (os:List bJ) (aQ:List iZ) (r:a7) (h:ae) (Q:bV->a7->ae->Prop):Prop:=
 if g=4294967296 then OJ P xs d D os aQ r h Q else qK P g xs d D os aQ r h Q
def y1 (f:V) (args:List V) (d:Option Nat) (D:Option ik) (os:List bJ) (aQ:List iZ) (r:a7) (h:ae) (Q:bV->a7->ae->Prop):Prop:=
 ∃g xs,f.target args=some (g,xs)/\IV P g xs d D os aQ r h Q
def F9 (b:bL) (aQ:List iZ) (r:a7) (h:ae) (Q:bV->a7->ae->Prop):Prop:=fZ P (.loop b) r h fun e bu ab=>bH P aQ e bu ab Q
end
section
variable {P:Program} {r:a7} {h:ae} {Q:bV->a7->ae->Prop} {aQ:List iZ} {os:List bJ} {D:Option ik}
theorem alX (r:a7) (h:ae) (v:V):jh none r h v=none:=(rfl)
theorem alY (all:List bJ) (asks:List (Nat × List Nat)) (es:List fL) (jP wl:List Nat) (Aw:Bool) (r:a7) (h:ae) (v:V):jh (some ⟨all,asks,es,jP,wl,Aw⟩) r h v=some ⟨all,asks,es++[⟨r,h,v⟩],jP,wl,Aw⟩:=(rfl)
theorem dw {c:bL} (H:bH P [.c c] .normal r h Q):fZ P c r h Q:=H
theorem FR {e:bV}:bH P [] e r h Q=Q e r h:=(rfl)
theorem agJ {e:bV} {id:Nat}:bH P (.bd id::aQ) e r h Q=bH P aQ (e.leave id) r h Q:=(rfl)
theorem ahD {a b:bL}:bH P (.c (.seq a b)::aQ) .normal r h Q=bH P (.c a::.c b::aQ) .normal r h Q:=by simp only [bH];rw [aa8];congr 1;funext e bu ab;cases e<;>rfl
theorem agK {id:Nat} {b:bL}:bH P (.c (.block id b)::aQ) .normal r h Q=bH P (.c b::.bd id::aQ) .normal r h Q:=(rfl)
theorem Xs:∀(os:List bJ) (r:a7) (h:ae) (K:a7->ae->Prop) (X:a7->V->ae->Prop),k3 P os r h (fun _ r h=>K r h) (fun _ r _ x h=>X r x h)=uw P os r h K X
 | [],_,_,_,_=>rfl
 | o::os,r,h,K,X=>by simp only [k3,uw];congr 1;funext bu v ab;exact Xs os bu ab K X
theorem ahA {ops:List bJ}:bH P (.c (.ax ops)::aQ) .normal r h Q=bH P (.os none ops::aQ) .normal r h Q:=by simp only [bH,s9,tR,we,arZ];rw [Xs (X:=fun bu x ab=>bH P aQ (.exit kZ) (bu.set (some h7) x) ab Q),aa7]
theorem ahE:bH P (.c .skip::aQ) .normal r h Q=bH P aQ .normal r h Q:=(rfl)
theorem ahB:bH P (.c .ret::aQ) .normal r h Q=bH P aQ .ret r h Q:=(rfl)
theorem ag3 {i:Nat}:bH P (.c (.exit i)::aQ) .normal r h Q=bH P aQ (.exit i) r h Q:=(rfl)
theorem agT {b:bL}:bH P (.c b::aQ) .ret r h Q=bH P aQ .ret r h Q:=(rfl)
theorem agQ {b:bL} {i:Nat}:bH P (.c b::aQ) (.exit i) r h Q=bH P aQ (.exit i) r h Q:=(rfl)
theorem agR {c:aW} {a b:bL}:bH P (.c (.cond c a b)::aQ) .normal r h Q=y2 P (c.aS r) a b aQ r h Q:=by simp only [bH,fZ];cases c.aS r<;>rfl
theorem ahm {b:bL}:bH P (.c (.loop b)::aQ) .normal r h Q=F9 P b aQ r h Q:=(rfl)
theorem ag0 {ops:List bJ} {asks:List (Nat × List Nat)} {jP wl:List Nat}:bH P (.c (.draw ops asks jP wl)::aQ) .normal r h Q=bH P (.os (some ⟨ops,asks,[],jP,wl,false⟩) ops::aQ) .normal r h Q:=(rfl)
theorem ag1 {ops:List bJ} {asks:List (Nat × List Nat)}:bH P (.c (.Bv ops asks)::aQ) .normal r h Q=bH P (.os (some ⟨ops,asks,[],[],[],true⟩) ops::aQ) .normal r h Q:=by simp only [bH,fZ,s9,tR,aqo,aq5,asn]
theorem ahy:bH P (.os none []::aQ) .normal r h Q=bH P aQ .normal r h Q:=by simp only [bH,k3,s9,arZ]
theorem agZ {all:List bJ} {asks:List (Nat × List Nat)} {es:List fL} {jP wl:List Nat}:bH P (.os (some ⟨all,asks,es,jP,wl,false⟩) []::aQ) .normal r h Q=(mX P all es h asks/\bH P aQ .normal r h Q):=by simp only [bH,k3,s9,aqI,aqt]
theorem ahJ {all:List bJ} {asks:List (Nat × List Nat)} {es:List fL} {jP wl:List Nat}:bH P (.os (some ⟨all,asks,es,jP,wl,true⟩) []::aQ) .normal r h Q=(D2 P all es h asks/\bH P aQ .normal r h Q):=by simp only [bH,k3,s9,aqI,aqo]
theorem wN (D:Option ik) (r:a7) (h:ae) (v:V) (es:List fL) (aA:ae):s9 P (jh D r h v) es aA=s9 P D (⟨r,h,v⟩::es) aA:=by
 cases D with
 | none=>rfl
 | some d=>simp only [jh,s9,aq7,aqP,aq5]
theorem yd (D:Option ik) (r:a7) (h:ae) (v:V) (es:List fL) (aA:ae):tR P (jh D r h v) es aA=tR P D (⟨r,h,v⟩::es) aA:=by
 cases D with
 | none=>rfl
 | some d=>simp only [jh,tR,aq7,aqP,aq5]
theorem yC (D:Option ik) (r:a7) (h:ae) (v:V) (es:List fL) (bu:a7):we (jh D r h v) es bu=we D (⟨r,h,v⟩::es) bu:=by
 cases D with
 | none=>rfl
 | some d=>simp only [jh,we,aq7,aqP,aq5]
theorem iw {d:Option Nat} {g:G} {rs:List Nat} (ai:g.qa=true):bH P (.os D (⟨d,g,none,rs⟩::os)::aQ) .normal r h Q=ev P (g.nu P (r.trim rs) h) d D os aQ r h Q:=by simp only [bH,k3,ev];rw [Vm ai];simp only [wN,yd,yC]
theorem iU {d:Option Nat} {g:G} {j:Nat} {want:Bool} {rs:List Nat} (ai:g.qa=true):bH P (.os D (⟨d,g,some (j,want),rs⟩::os)::aQ) .normal r h Q=
 (gV (r.trim rs j)/\gv (took (r.trim rs j) want) ((g.nu P (r.trim rs) h).isSome=true)/\
   ev P (some (V.opt (took (r.trim rs j) want) ((g.nu P (r.trim rs) h).getD .bad))) d D os aQ r h Q):=by
 simp only [bH,k3,ev,yD];rw [Vk ai];simp only [wN,yd,yC]
def G.Uf:G->Bool
 | .call .. | .o7 .. | .cB .. =>true
 | _=>false
theorem nT {d:Option Nat} {g:G} {rs:List Nat} (ai:g.qa=false) (aq:g.Uf=false):bH P (.os D (⟨d,g,none,rs⟩::os)::aQ) .normal r h Q=k2 P (g.run P jw (r.trim rs) h) d D os aQ r h Q:=by
 simp only [bH,k3];rw [Vl];have e:∀K X:V->ae->Prop,g.wp P (r.trim rs) h K X=∃v ab,g.run P jw (r.trim rs) h=.val v ab/\K v ab:=by intro K X;cases g<;>first | rfl | (simp [G.Uf] at aq;done)
 rw [e];unfold k2;simp only [bH,wN,yd,yC];cases g.run P jw (r.trim rs) h with
 | fail=>exact propext ⟨fun ⟨v,ab,q,_⟩=>(by cases q),fun q=>q.elim⟩
 | cB v1 U=>exact propext ⟨fun ⟨v,ab,q,_⟩=>(by cases q),fun q=>q.elim⟩
 | val v1 U=>
   apply propext;constructor
   . rintro ⟨v,ab,q,k⟩;simp only [a8.val.injEq] at q;obtain ⟨rfl,rfl⟩:=q;exact k
   . intro k;exact ⟨_,_,rfl,k⟩
theorem mF {d:Option Nat} {g:G} {j:Nat} {want:Bool} {rs:List Nat} (ai:g.qa=false):bH P (.os D (⟨d,g,some (j,want),rs⟩::os)::aQ) .normal r h Q=hJ P (r.trim rs j) want d g rs D os aQ r h Q:=by simp only [hJ,bH,k3,wN,yd,yC];rw [Vj];rfl
theorem Um {d:Option Nat} {f:FuncId} {args:List aW} {rs:List Nat}:bH P (.os D (⟨d,.call f args,none,rs⟩::os)::aQ) .normal r h Q=qK P f (aW.gh (r.trim rs) args) d D os aQ r h Q:=by simp only [qK,rm,bH,k3,wN,yd,yC];rfl
theorem agP {d:Option Nat} {f:aW} {args:List aW} {rs:List Nat}:bH P (.os D (⟨d,.o7 f args,none,rs⟩::os)::aQ) .normal r h Q=y1 P (f.aS (r.trim rs)) (aW.gh (r.trim rs) args) d D os aQ r h Q:=by simp only [y1,IV,OJ,qK,rm,bH,k3,wN,yd,yC];rfl
theorem Un {d:Option Nat} {x:aW} {rs:List Nat}:bH P (.os D (⟨d,.cB x,none,rs⟩::os)::aQ) .normal r h Q=Ob P (x.aS (r.trim rs)) D aQ r h Q:=by simp only [Ob,rm,bH,k3,wN,yd,yC];rfl
theorem W3 {t:TypeId} {y:V}:Ob P (.iface t y) D aQ r h Q=rm P D aQ r h (.iface t y) h Q:=by
 apply propext;constructor
 . rintro ⟨ui,oU,e,k⟩;cases e;exact k
 . exact fun k=>⟨t,y,rfl,k⟩
theorem GB {x:V} {ab:ae}:rm P none aQ r h x ab Q=bH P aQ (.exit kZ) (r.set (some h7) x) ab Q:=by simp only [rm,tR,we,arZ]
theorem aln {all:List bJ} {asks:List (Nat × List Nat)} {es:List fL} {jP wl:List Nat} {x:V} {ab:ae}:rm P (some ⟨all,asks,es,jP,wl,false⟩) aQ r h x ab Q=
 ((xK es.length jP=true/\mX P all es h asks)/\bH P aQ (.exit kZ) (((a7.sF (BE es r) wl)).set (some h7) x) ab Q):=by simp only [rm,tR,we,aqI,aqt]
theorem abb {f:V} {g:FuncId} {xs args:List V} {d:Option Nat} (aA:f.target args=some (g,xs)):y1 P f args d D os aQ r h Q=IV P g xs d D os aQ r h Q:=by
 apply propext;constructor
 . rintro ⟨r2,aqc,q,k⟩;rw [aA] at q;simp only [aqj,aru] at q;obtain ⟨rfl,rfl⟩:=q;exact k
 . intro k;exact ⟨_,_,aA,k⟩
theorem aba {g:FuncId} {cs args:List V} {d:Option Nat}:y1 P (.func g cs) args d D os aQ r h Q=if g=4294967296 then OJ P (args++cs) d D os aQ r h Q else qK P g (args++cs) d D os aQ r h Q:=abb rfl
@[congr] theorem apX {o cm:Option V} {d:Option Nat} (e:o=cm):ev P o d D os aQ r h Q=ev P cm d D os aQ r h Q:=by rw [e]
@[congr] theorem apW {o cm:a8} {d:Option Nat} (e:o=cm):k2 P o d D os aQ r h Q=k2 P cm d D os aQ r h Q:=by rw [e]
@[congr] theorem aoS {v ej:V} {a b:bL} (e:v=ej):y2 P v a b aQ r h Q=y2 P ej a b aQ r h Q:=by rw [e]
@[congr] theorem ao4 {v ej:V} {want:Bool} {d:Option Nat} {g:G} {rs:List Nat} (e:v=ej):hJ P v want d g rs D os aQ r h Q=hJ P ej want d g rs D os aQ r h Q:=by rw [e]
@[congr] theorem aoQ {f JI:V} {args A_:List V} {d:Option Nat} (aM:f=JI) (bh:args=A_):y1 P f args d D os aQ r h Q=y1 P JI A_ d D os aQ r h Q:=by rw [aM,bh]
@[congr] theorem aoP {f:FuncId} {args A_:List V} {d:Option Nat} (bh:args=A_):qK P f args d D os aQ r h Q=qK P f A_ d D os aQ r h Q:=by rw [bh]
@[congr] theorem ap9 {e dP:bV} {bu:a7} {ab:ae} (ef:e=dP) (aM:r=bu) (bh:h=ab):bH P aQ e r h Q=bH P aQ dP bu ab Q:=by rw [ef,aM,bh]
@[congr] theorem apw {b:bL} {bu:a7} {ab:ae} (aM:r=bu) (bh:h=ab):F9 P b aQ r h Q=F9 P b aQ bu ab Q:=by rw [aM,bh]
theorem anp {v:V} {d:Option Nat}:ev P (some v) d D os aQ r h Q=bH P (.os (jh D r h v) os::aQ) .normal (r.set d v) h Q:=(rfl)
theorem am7 {v:V} {ab:ae} {d:Option Nat}:k2 P (.val v ab) d D os aQ r h Q=bH P (.os (jh D r h v) os::aQ) .normal (r.set d v) ab Q:=(rfl)
theorem RP {t:Bool} {a b:bL}:y2 P (.bool t) a b aQ r h Q=((t=true->bH P (.c a::aQ) .normal r h Q)/\(t=false->bH P (.c b::aQ) .normal r h Q)):=(rfl)
theorem SZ {b:Bool} {d:Option Nat} {g:G} {rs:List Nat}:hJ P (.bool b) true d g rs D os aQ r h Q=((b=true->bH P (.os D (⟨d,g,none,rs⟩::os)::aQ) .normal r h Q)/\(b=false->bH P (.os (jh D r h (.tuple [])) os::aQ) .normal (r.set d (.tuple [])) h Q)):=(rfl)
theorem SY {b:Bool} {d:Option Nat} {g:G} {rs:List Nat}:hJ P (.bool b) false d g rs D os aQ r h Q=((b=false->bH P (.os D (⟨d,g,none,rs⟩::os)::aQ) .normal r h Q)/\(b=true->bH P (.os (jh D r h (.tuple [])) os::aQ) .normal (r.set d (.tuple [])) h Q)):=(rfl)
theorem adJ {af:List V} {want:Bool} {d:Option Nat} {g:G} {rs:List Nat}:hJ P (.tuple af) want d g rs D os aQ r h Q=bH P (.os (jh D r h (.tuple [])) os::aQ) .normal (r.set d (.tuple [])) h Q:=(rfl)
theorem adD {c b:Bool} {want:Bool} {d:Option Nat} {f:FuncId} {args:List aW} {rs:List Nat} (v:V)
 (bE:(c&&(b == want))=true->gm P f (aW.gh (r.trim rs) args) h v h)
 (H:bH P (.os (jh D r h (V.opt (c&&(b == want)) v)) os::aQ) .normal (r.set d (V.opt (c&&(b == want)) v)) h Q):hJ P (V.opt c (.bool b)) want d (.call f args) rs D os aQ r h Q:=by
 unfold hJ;rw [Um];cases c with
 | false=>exact H
 | true=>
   simp only [V.opt,aqo,arP] at bE H ⊢;cases b<;>cases want<;>simp only [gate]
   . exact ⟨fun _=>.inl ⟨v,h,bE rfl,H⟩,fun e=>by cases e⟩
   . exact ⟨fun e=>(by cases e),fun _=>H⟩
   . exact ⟨fun e=>(by cases e),fun _=>H⟩
   . exact ⟨fun _=>.inl ⟨v,h,bE rfl,H⟩,fun e=>by cases e⟩
def vF (v:V) (o:Option ae):a8:=ig v o
theorem akZ (v:V) (ab:ae):vF v (some ab)=.val v ab:=(rfl)
def P8 (b:Bool) (o:a8):a8:=bif b then o else .fail
theorem ZN (o:a8):P8 true o=o:=(rfl)
def D7 (n:Nat) (h:ae) (o:Option (List V)):a8:=
 match o with
 | some cs=>vF (.slice (aE h.next) 0 n n) (hB h cs)
 | none=>.fail
theorem ZO (n:Nat) (cs:List V):D7 n h (some cs)=vF (.slice (aE h.next) 0 n n) (hB h cs):=(rfl)
theorem amB {n size:Nat} {z:List V} {bC:List (Nat × Nat × aW)}:(G.kx n size z bC).run P jw r h=D7 n h (j_ (jR z n) (lJ r bC)):=by
 simp only [G.run];cases j_ (jR z n) (lJ r bC) with
 | none=>rfl
 | some cs=>
   simp only [D7,vF,ig];cases hB h cs<;>rfl
theorem ac_ (cells:List V):j_ cells []=some cells:=(rfl)
theorem ac9 {cells:List V} {off size:Nat} {v:V} {rest:List (Nat × Nat × V)} (U:v.hK=true) (ad:v.cells.length=size) (aC:off+size<=cells.length):
 j_ cells ((off,size,v)::rest)=j_ (qt cells off v.cells) rest:=by
 simp only [j_];rw [U,show Nat.beq v.cells.length size=true from by rw [aqT];exact ad,show Nat.ble (off+v.cells.length) cells.length=true from by rw [aqE,ad];exact aC];simp only [arz,aqo];congr 1;have hI:∀(ws cs:List V) (o:Nat),o+ws.length<=cs.length->th cs o ws=hC cs o ws:=by
  intro ws
  induction ws with
  | nil=>intro cs o _;simp [th,hC]
  | cons w ws aT=>
    intro cs o aU;simp only [aqp] at aU;simp only [th];rw [aT (cs.set o w) (o+1) (by simp;omega),WA cs o w ws (by omega)]
 rw [hI _ _ _ (by rw [ad];exact aC),He _ _ _ (by rw [ad];exact aC)]
def D9 (o:Option (List V)):Option V:=
 match o with
 | some cs=>some (.agg cs)
 | none=>none
theorem ZQ (cs:List V):D9 (some cs)=some (.agg cs):=(rfl)
theorem acT:lJ r []=[]:=(rfl)
theorem acS {o s:Nat} {x:aW} {bC:List (Nat × Nat × aW)}:lJ r ((o,s,x)::bC)=(o,s,x.aS r)::lJ r bC:=(rfl)
def s6 (P:Program) (o:bJ) (e:fL) (H:ae):Prop:=o.wp P e.r H (fun _ ej _=>ej=e.v) (fun _ _=>False)
theorem Zi {ops:List bJ} {es:List fL} {aA:ae}:mX P ops es aA []=True:=(rfl)
theorem Zh {ops:List bJ} {es:List fL} {aA:ae} {p:Nat} {dW:List Nat} {rest:List (Nat × List Nat)}:mX P ops es aA ((p,dW)::rest)=(s7 P ops[p]? es[p]? es aA dW/\mX P ops es aA rest):=(rfl)
theorem Ze {o:Option bJ} {e:Option fL} {es:List fL} {aA:ae}:s7 P o e es aA []=True:=(rfl)
theorem Zb {o:bJ} {e:fL} {es:List fL} {aA:ae} {s:Nat} {dW:List Nat}:s7 P (some o) (some e) es aA (s::dW)=(s6 P o e (va es aA s)/\s7 P (some o) (some e) es aA dW):=(rfl)
def Kj (o:Option fL) (aA:ae):ae:=
 match o with
 | some e=>e.h
 | none=>aA
theorem aeJ (es:List fL) (aA:ae) (s:Nat):va es aA s=Kj es[s]? aA:=(rfl)
theorem aeL (e:fL) (aA:ae):Kj (some e) aA=e.h:=(rfl)
theorem aeK (aA:ae):Kj none aA=aA:=(rfl)
theorem PV {d:Option Nat} {g:G} {rs:List Nat} {e:fL} {H:ae} (ai:g.qa=true):s6 P ⟨d,g,none,rs⟩ e H=(g.nu P (e.r.trim rs) H=some e.v):=by
 unfold s6;rw [Vm ai];apply propext;cases g.nu P (e.r.trim rs) H with
 | none=>exact ⟨fun q=>q.elim,fun q=>(by cases q)⟩
 | some v=>exact ⟨fun q=>by rw [show v=e.v from q],fun q=>by cases q;rfl⟩
theorem PU {d:Option Nat} {g:G} {j:Nat} {want:Bool} {rs:List Nat} {e:fL} {H:ae} (ai:g.qa=true):s6 P ⟨d,g,some (j,want),rs⟩ e H=
 (gV (e.r.trim rs j)/\gv (took (e.r.trim rs j) want) ((g.nu P (e.r.trim rs) H).isSome=true)/\V.opt (took (e.r.trim rs j) want) ((g.nu P (e.r.trim rs) H).getD .bad)=e.v):=by
 unfold s6;rw [Vk ai]
theorem Zc {d:Option Nat} {x:aW} {rs:List Nat} {e:fL} {H:ae}:s6 P ⟨d,.hc x,none,rs⟩ e H=(oL H (x.aS (e.r.trim rs))=some e.v):=PV rfl
theorem Zd {d:Option Nat} {n:Nat} {x:aW} {rs:List Nat} {e:fL} {H:ae}:s6 P ⟨d,.iH n x,none,rs⟩ e H=(oK n H (x.aS (e.r.trim rs))=some e.v):=PV rfl
theorem Zf {d:Option Nat} {x:aW} {j:Nat} {want:Bool} {rs:List Nat} {e:fL} {H:ae}:s6 P ⟨d,.hc x,some (j,want),rs⟩ e H=
 (gV (e.r.trim rs j)/\gv (took (e.r.trim rs j) want) ((oL H (x.aS (e.r.trim rs))).isSome=true)/\V.opt (took (e.r.trim rs j) want) ((oL H (x.aS (e.r.trim rs))).getD .bad)=e.v):=PU rfl
theorem Zg {d:Option Nat} {n:Nat} {x:aW} {j:Nat} {want:Bool} {rs:List Nat} {e:fL} {H:ae}:s6 P ⟨d,.iH n x,some (j,want),rs⟩ e H=
 (gV (e.r.trim rs j)/\gv (took (e.r.trim rs j) want) ((oK n H (x.aS (e.r.trim rs))).isSome=true)/\V.opt (took (e.r.trim rs j) want) ((oK n H (x.aS (e.r.trim rs))).getD .bad)=e.v):=PU rfl
end
def GZ (x:V) (h:ae):a8:=
 match x with
 | .str s=>.val (.ptr (aE h.next) 0) (h.new (.iter s 0))
 | _=>.fail
theorem amr (s:List UInt8) (h:ae):GZ (.str s) h=.val (.ptr (aE h.next) 0) (h.new (.iter s 0)):=(rfl)
section
variable {P:Program} {r:a7} {h:ae} {Q:bV->a7->ae->Prop} {aQ:List iZ} {os:List bJ} {D:Option ik} {d:Option Nat} {rs:List Nat}
theorem ahs {x:aW}:bH P (.os D (⟨d,(.fz x),none,rs⟩::os)::aQ) .normal r h Q=ev P (some (x.aS (r.trim rs))) d D os aQ r h Q:=iw rfl
theorem aii {x:aW} {j:Nat} {want:Bool}:bH P (.os D (⟨d,(.fz x),some (j,want),rs⟩::os)::aQ) .normal r h Q=(gV (r.trim rs j)/\gv (took (r.trim rs j) want) ((some (x.aS (r.trim rs))).isSome=true)/\ev P (some (V.opt (took (r.trim rs j) want) ((some (x.aS (r.trim rs))).getD .bad))) d D os aQ r h Q):=iU rfl
theorem ahz {c a b:aW}:bH P (.os D (⟨d,(.pick c a b),none,rs⟩::os)::aQ) .normal r h Q=ev P (C7 (c.aS (r.trim rs)) (a.aS (r.trim rs)) (b.aS (r.trim rs))) d D os aQ r h Q:=iw rfl
theorem ain {c a b:aW} {j:Nat} {want:Bool}:bH P (.os D (⟨d,(.pick c a b),some (j,want),rs⟩::os)::aQ) .normal r h Q=(gV (r.trim rs j)/\gv (took (r.trim rs j) want) ((C7 (c.aS (r.trim rs)) (a.aS (r.trim rs)) (b.aS (r.trim rs))).isSome=true)/\ev P (some (V.opt (took (r.trim rs j) want) ((C7 (c.aS (r.trim rs)) (a.aS (r.trim rs)) (b.aS (r.trim rs))).getD .bad))) d D os aQ r h Q):=iU rfl
theorem agO {z:List V} {bC:List (Nat × Nat × aW)}:bH P (.os D (⟨d,(.build z bC),none,rs⟩::os)::aQ) .normal r h Q=ev P (D9 (j_ z (lJ (r.trim rs) bC))) d D os aQ r h Q:=iw rfl
theorem ahR {z:List V} {bC:List (Nat × Nat × aW)} {j:Nat} {want:Bool}:bH P (.os D (⟨d,(.build z bC),some (j,want),rs⟩::os)::aQ) .normal r h Q=(gV (r.trim rs j)/\gv (took (r.trim rs j) want) ((D9 (j_ z (lJ (r.trim rs) bC))).isSome=true)/\ev P (some (V.opt (took (r.trim rs j) want) ((D9 (j_ z (lJ (r.trim rs) bC))).getD .bad))) d D os aQ r h Q):=iU rfl
theorem ahe {x:aW}:bH P (.os D (⟨d,(.hc x),none,rs⟩::os)::aQ) .normal r h Q=ev P (oL h (x.aS (r.trim rs))) d D os aQ r h Q:=iw rfl
theorem ah9 {x:aW} {j:Nat} {want:Bool}:bH P (.os D (⟨d,(.hc x),some (j,want),rs⟩::os)::aQ) .normal r h Q=(gV (r.trim rs j)/\gv (took (r.trim rs j) want) ((oL h (x.aS (r.trim rs))).isSome=true)/\ev P (some (V.opt (took (r.trim rs j) want) ((oL h (x.aS (r.trim rs))).getD .bad))) d D os aQ r h Q):=iU rfl
theorem ahf {n:Nat} {x:aW}:bH P (.os D (⟨d,(.iH n x),none,rs⟩::os)::aQ) .normal r h Q=ev P (oK n h (x.aS (r.trim rs))) d D os aQ r h Q:=iw rfl
theorem ah' {n:Nat} {x:aW} {j:Nat} {want:Bool}:bH P (.os D (⟨d,(.iH n x),some (j,want),rs⟩::os)::aQ) .normal r h Q=(gV (r.trim rs j)/\gv (took (r.trim rs j) want) ((oK n h (x.aS (r.trim rs))).isSome=true)/\ev P (some (V.opt (took (r.trim rs j) want) ((oK n h (x.aS (r.trim rs))).getD .bad))) d D os aQ r h Q):=iU rfl
theorem ahw {x:aW}:bH P (.os D (⟨d,(.vE x),none,rs⟩::os)::aQ) .normal r h Q=ev P (vD (x.aS (r.trim rs))) d D os aQ r h Q:=iw rfl
theorem ail {x:aW} {j:Nat} {want:Bool}:bH P (.os D (⟨d,(.vE x),some (j,want),rs⟩::os)::aQ) .normal r h Q=(gV (r.trim rs j)/\gv (took (r.trim rs j) want) ((vD (x.aS (r.trim rs))).isSome=true)/\ev P (some (V.opt (took (r.trim rs j) want) ((vD (x.aS (r.trim rs))).getD .bad))) d D os aQ r h Q):=iU rfl
theorem agI {k:fK} {x y:aW}:bH P (.os D (⟨d,(.bin k x y),none,rs⟩::os)::aQ) .normal r h Q=ev P (k.run P (x.aS (r.trim rs)) (y.aS (r.trim rs))) d D os aQ r h Q:=iw rfl
theorem ahO {k:fK} {x y:aW} {j:Nat} {want:Bool}:bH P (.os D (⟨d,(.bin k x y),some (j,want),rs⟩::os)::aQ) .normal r h Q=(gV (r.trim rs j)/\gv (took (r.trim rs j) want) ((k.run P (x.aS (r.trim rs)) (y.aS (r.trim rs))).isSome=true)/\ev P (some (V.opt (took (r.trim rs j) want) ((k.run P (x.aS (r.trim rs)) (y.aS (r.trim rs))).getD .bad))) d D os aQ r h Q):=iU rfl
theorem ahK {o:UnOp} {x:aW}:bH P (.os D (⟨d,(.un o x),none,rs⟩::os)::aQ) .normal r h Q=ev P (sD o (x.aS (r.trim rs))) d D os aQ r h Q:=iw rfl
theorem ais {o:UnOp} {x:aW} {j:Nat} {want:Bool}:bH P (.os D (⟨d,(.un o x),some (j,want),rs⟩::os)::aQ) .normal r h Q=(gV (r.trim rs j)/\gv (took (r.trim rs j) want) ((sD o (x.aS (r.trim rs))).isSome=true)/\ev P (some (V.opt (took (r.trim rs j) want) ((sD o (x.aS (r.trim rs))).getD .bad))) d D os aQ r h Q):=iU rfl
theorem agY {f:aW} {args:List aW}:bH P (.os D (⟨d,(.gg f args),none,rs⟩::os)::aQ) .normal r h Q=ev P (wW (f.aS (r.trim rs)) (aW.gh (r.trim rs) args) (r.trim rs cd)) d D os aQ r h Q:=iw rfl
theorem ag8 {f:FuncId} {cs:List aW}:bH P (.os D (⟨d,(.fn f cs),none,rs⟩::os)::aQ) .normal r h Q=ev P (some (V.func f (aW.gh (r.trim rs) cs))) d D os aQ r h Q:=iw rfl
theorem ah3 {f:FuncId} {cs:List aW} {j:Nat} {want:Bool}:bH P (.os D (⟨d,(.fn f cs),some (j,want),rs⟩::os)::aQ) .normal r h Q=(gV (r.trim rs j)/\gv (took (r.trim rs j) want) ((some (V.func f (aW.gh (r.trim rs) cs))).isSome=true)/\ev P (some (V.opt (took (r.trim rs j) want) ((some (V.func f (aW.gh (r.trim rs) cs))).getD .bad))) d D os aQ r h Q):=iU rfl
theorem agG {t:TypeId} {z:Option V} {ok:Bool} {x:aW}:bH P (.os D (⟨d,(.yZ t z ok x),none,rs⟩::os)::aQ) .normal r h Q=ev P (wO t z ok (x.aS (r.trim rs))) d D os aQ r h Q:=iw rfl
theorem ahb {t:TypeId} {x:aW}:bH P (.os D (⟨d,(.si t x),none,rs⟩::os)::aQ) .normal r h Q=ev P (some (V.iface t (x.aS (r.trim rs)))) d D os aQ r h Q:=iw rfl
theorem ah6 {t:TypeId} {x:aW} {j:Nat} {want:Bool}:bH P (.os D (⟨d,(.si t x),some (j,want),rs⟩::os)::aQ) .normal r h Q=(gV (r.trim rs j)/\gv (took (r.trim rs j) want) ((some (V.iface t (x.aS (r.trim rs)))).isSome=true)/\ev P (some (V.opt (took (r.trim rs j) want) ((some (V.iface t (x.aS (r.trim rs)))).getD .bad))) d D os aQ r h Q):=iU rfl
theorem ahG {x:aW} {aZ aG m3:Option aW}:bH P (.os D (⟨d,(.sz x aZ aG m3),none,rs⟩::os)::aQ) .normal r h Q=ev P (n9 (x.aS (r.trim rs)) (aW.opt (r.trim rs) aZ) (aW.opt (r.trim rs) aG) (aW.opt (r.trim rs) m3)) d D os aQ r h Q:=iw rfl
theorem aiq {x:aW} {aZ aG m3:Option aW} {j:Nat} {want:Bool}:bH P (.os D (⟨d,(.sz x aZ aG m3),some (j,want),rs⟩::os)::aQ) .normal r h Q=(gV (r.trim rs j)/\gv (took (r.trim rs j) want) ((n9 (x.aS (r.trim rs)) (aW.opt (r.trim rs) aZ) (aW.opt (r.trim rs) aG) (aW.opt (r.trim rs) m3)).isSome=true)/\ev P (some (V.opt (took (r.trim rs j) want) ((n9 (x.aS (r.trim rs)) (aW.opt (r.trim rs) aZ) (aW.opt (r.trim rs) aG) (aW.opt (r.trim rs) m3)).getD .bad))) d D os aQ r h Q):=iU rfl
theorem ahF {n:Nat} {x:aW} {aZ aG m3:Option aW}:bH P (.os D (⟨d,(.e6 n x aZ aG m3),none,rs⟩::os)::aQ) .normal r h Q=ev P (ud n (x.aS (r.trim rs)) (aW.opt (r.trim rs) aZ) (aW.opt (r.trim rs) aG) (aW.opt (r.trim rs) m3)) d D os aQ r h Q:=iw rfl
theorem aip {n:Nat} {x:aW} {aZ aG m3:Option aW} {j:Nat} {want:Bool}:bH P (.os D (⟨d,(.e6 n x aZ aG m3),some (j,want),rs⟩::os)::aQ) .normal r h Q=(gV (r.trim rs j)/\gv (took (r.trim rs j) want) ((ud n (x.aS (r.trim rs)) (aW.opt (r.trim rs) aZ) (aW.opt (r.trim rs) aG) (aW.opt (r.trim rs) m3)).isSome=true)/\ev P (some (V.opt (took (r.trim rs j) want) ((ud n (x.aS (r.trim rs)) (aW.opt (r.trim rs) aZ) (aW.opt (r.trim rs) aG) (aW.opt (r.trim rs) m3)).getD .bad))) d D os aQ r h Q):=iU rfl
theorem ag5 {o:Nat} {x:aW}:bH P (.os D (⟨d,(.hI o x),none,rs⟩::os)::aQ) .normal r h Q=ev P (ED o (x.aS (r.trim rs))) d D os aQ r h Q:=iw rfl
theorem ah0 {o:Nat} {x:aW} {j:Nat} {want:Bool}:bH P (.os D (⟨d,(.hI o x),some (j,want),rs⟩::os)::aQ) .normal r h Q=(gV (r.trim rs j)/\gv (took (r.trim rs j) want) ((ED o (x.aS (r.trim rs))).isSome=true)/\ev P (some (V.opt (took (r.trim rs j) want) ((ED o (x.aS (r.trim rs))).getD .bad))) d D os aQ r h Q):=iU rfl
theorem ag6 {o:Nat} {x:aW}:bH P (.os D (⟨d,(.qS o x),none,rs⟩::os)::aQ) .normal r h Q=ev P ((x.aS (r.trim rs)).tP none fun cs=>cs[o]?) d D os aQ r h Q:=iw rfl
theorem ah1 {o:Nat} {x:aW} {j:Nat} {want:Bool}:bH P (.os D (⟨d,(.qS o x),some (j,want),rs⟩::os)::aQ) .normal r h Q=(gV (r.trim rs j)/\gv (took (r.trim rs j) want) (((x.aS (r.trim rs)).tP none fun cs=>cs[o]?).isSome=true)/\ev P (some (V.opt (took (r.trim rs j) want) (((x.aS (r.trim rs)).tP none fun cs=>cs[o]?).getD .bad))) d D os aQ r h Q):=iU rfl
theorem ag7 {o n:Nat} {x:aW}:bH P (.os D (⟨d,(.w7 o n x),none,rs⟩::os)::aQ) .normal r h Q=ev P ((x.aS (r.trim rs)).tP none fun cs=>some (V.agg ((cs.drop o).take n))) d D os aQ r h Q:=iw rfl
theorem ah2 {o n:Nat} {x:aW} {j:Nat} {want:Bool}:bH P (.os D (⟨d,(.w7 o n x),some (j,want),rs⟩::os)::aQ) .normal r h Q=(gV (r.trim rs j)/\gv (took (r.trim rs j) want) (((x.aS (r.trim rs)).tP none fun cs=>some (V.agg ((cs.drop o).take n))).isSome=true)/\ev P (some (V.opt (took (r.trim rs j) want) (((x.aS (r.trim rs)).tP none fun cs=>some (V.agg ((cs.drop o).take n))).getD .bad))) d D os aQ r h Q):=iU rfl
theorem ag_ {n:Nat} {x i:aW}:bH P (.os D (⟨d,(.fy n x i),none,rs⟩::os)::aQ) .normal r h Q=ev P (kU n (x.aS (r.trim rs)) (i.aS (r.trim rs))) d D os aQ r h Q:=iw rfl
theorem ah4 {n:Nat} {x i:aW} {j:Nat} {want:Bool}:bH P (.os D (⟨d,(.fy n x i),some (j,want),rs⟩::os)::aQ) .normal r h Q=(gV (r.trim rs j)/\gv (took (r.trim rs j) want) ((kU n (x.aS (r.trim rs)) (i.aS (r.trim rs))).isSome=true)/\ev P (some (V.opt (took (r.trim rs j) want) ((kU n (x.aS (r.trim rs)) (i.aS (r.trim rs))).getD .bad))) d D os aQ r h Q):=iU rfl
theorem aha {m n:Nat} {x i:aW}:bH P (.os D (⟨d,(.vk m n x i),none,rs⟩::os)::aQ) .normal r h Q=ev P ((tE m n).run (x.aS (r.trim rs)) (i.aS (r.trim rs))) d D os aQ r h Q:=iw rfl
theorem ah5 {m n:Nat} {x i:aW} {j:Nat} {want:Bool}:bH P (.os D (⟨d,(.vk m n x i),some (j,want),rs⟩::os)::aQ) .normal r h Q=(gV (r.trim rs j)/\gv (took (r.trim rs j) want) (((tE m n).run (x.aS (r.trim rs)) (i.aS (r.trim rs))).isSome=true)/\ev P (some (V.opt (took (r.trim rs j) want) (((tE m n).run (x.aS (r.trim rs)) (i.aS (r.trim rs))).getD .bad))) d D os aQ r h Q):=iU rfl
theorem ahd {x i:aW}:bH P (.os D (⟨d,(.oI x i),none,rs⟩::os)::aQ) .normal r h Q=ev P (tG.run (x.aS (r.trim rs)) (i.aS (r.trim rs))) d D os aQ r h Q:=iw rfl
theorem ah8 {x i:aW} {j:Nat} {want:Bool}:bH P (.os D (⟨d,(.oI x i),some (j,want),rs⟩::os)::aQ) .normal r h Q=(gV (r.trim rs j)/\gv (took (r.trim rs j) want) ((tG.run (x.aS (r.trim rs)) (i.aS (r.trim rs))).isSome=true)/\ev P (some (V.opt (took (r.trim rs j) want) ((tG.run (x.aS (r.trim rs)) (i.aS (r.trim rs))).getD .bad))) d D os aQ r h Q):=iU rfl
theorem ahc {t:TypeId} {x i:aW}:bH P (.os D (⟨d,(.kV t x i),none,rs⟩::os)::aQ) .normal r h Q=ev P ((tF P t).run (x.aS (r.trim rs)) (i.aS (r.trim rs))) d D os aQ r h Q:=iw rfl
theorem ah7 {t:TypeId} {x i:aW} {j:Nat} {want:Bool}:bH P (.os D (⟨d,(.kV t x i),some (j,want),rs⟩::os)::aQ) .normal r h Q=(gV (r.trim rs j)/\gv (took (r.trim rs j) want) (((tF P t).run (x.aS (r.trim rs)) (i.aS (r.trim rs))).isSome=true)/\ev P (some (V.opt (took (r.trim rs j) want) (((tF P t).run (x.aS (r.trim rs)) (i.aS (r.trim rs))).getD .bad))) d D os aQ r h Q):=iU rfl
theorem ahl {k:od} {z:V} {ok:Bool} {x i:aW}:bH P (.os D (⟨d,(.look k z ok x i),none,rs⟩::os)::aQ) .normal r h Q=ev P (ln k.eq z ok h (x.aS (r.trim rs)) (i.aS (r.trim rs))) d D os aQ r h Q:=iw rfl
theorem aid {k:od} {z:V} {ok:Bool} {x i:aW} {j:Nat} {want:Bool}:bH P (.os D (⟨d,(.look k z ok x i),some (j,want),rs⟩::os)::aQ) .normal r h Q=(gV (r.trim rs j)/\gv (took (r.trim rs j) want) ((ln k.eq z ok h (x.aS (r.trim rs)) (i.aS (r.trim rs))).isSome=true)/\ev P (some (V.opt (took (r.trim rs j) want) ((ln k.eq z ok h (x.aS (r.trim rs)) (i.aS (r.trim rs))).getD .bad))) d D os aQ r h Q):=iU rfl
theorem ag4 {x:aW} {i:Nat}:bH P (.os D (⟨d,(.ext x i),none,rs⟩::os)::aQ) .normal r h Q=ev P ((x.aS (r.trim rs)).CU none fun af=>af[i]?) d D os aQ r h Q:=iw rfl
theorem ahZ {x:aW} {i:Nat} {j:Nat} {want:Bool}:bH P (.os D (⟨d,(.ext x i),some (j,want),rs⟩::os)::aQ) .normal r h Q=(gV (r.trim rs j)/\gv (took (r.trim rs j) want) (((x.aS (r.trim rs)).CU none fun af=>af[i]?).isSome=true)/\ev P (some (V.opt (took (r.trim rs j) want) (((x.aS (r.trim rs)).CU none fun af=>af[i]?).getD .bad))) d D os aQ r h Q):=iU rfl
theorem ahq {args:List aW}:bH P (.os D (⟨d,(.zX args),none,rs⟩::os)::aQ) .normal r h Q=ev P (l6 (fun b a=>!Int.leB a b) (aW.gh (r.trim rs) args)) d D os aQ r h Q:=iw rfl
theorem aih {args:List aW} {j:Nat} {want:Bool}:bH P (.os D (⟨d,(.zX args),some (j,want),rs⟩::os)::aQ) .normal r h Q=(gV (r.trim rs j)/\gv (took (r.trim rs j) want) ((l6 (fun b a=>!Int.leB a b) (aW.gh (r.trim rs) args)).isSome=true)/\ev P (some (V.opt (took (r.trim rs j) want) ((l6 (fun b a=>!Int.leB a b) (aW.gh (r.trim rs) args)).getD .bad))) d D os aQ r h Q):=iU rfl
theorem aht {args:List aW}:bH P (.os D (⟨d,(.e4 args),none,rs⟩::os)::aQ) .normal r h Q=ev P (l6 (fun b a=>!Int.leB b a) (aW.gh (r.trim rs) args)) d D os aQ r h Q:=iw rfl
theorem aij {args:List aW} {j:Nat} {want:Bool}:bH P (.os D (⟨d,(.e4 args),some (j,want),rs⟩::os)::aQ) .normal r h Q=(gV (r.trim rs j)/\gv (took (r.trim rs j) want) ((l6 (fun b a=>!Int.leB b a) (aW.gh (r.trim rs) args)).isSome=true)/\ev P (some (V.opt (took (r.trim rs j) want) ((l6 (fun b a=>!Int.leB b a) (aW.gh (r.trim rs) args)).getD .bad))) d D os aQ r h Q):=iU rfl
theorem agV {k:IntKind} {x:aW}:bH P (.os D (⟨d,(.j' (.int k) x),none,rs⟩::os)::aQ) .normal r h Q=ev P (Ei k (x.aS (r.trim rs))) d D os aQ r h Q:=iw rfl
theorem ahW {k:IntKind} {x:aW} {j:Nat} {want:Bool}:bH P (.os D (⟨d,(.j' (.int k) x),some (j,want),rs⟩::os)::aQ) .normal r h Q=(gV (r.trim rs j)/\gv (took (r.trim rs j) want) ((Ei k (x.aS (r.trim rs))).isSome=true)/\ev P (some (V.opt (took (r.trim rs j) want) ((Ei k (x.aS (r.trim rs))).getD .bad))) d D os aQ r h Q):=iU rfl
theorem ahi {x:aW}:bH P (.os D (⟨d,(.len .slice x),none,rs⟩::os)::aQ) .normal r h Q=ev P (ju (x.aS (r.trim rs))) d D os aQ r h Q:=iw rfl
theorem aib {x:aW} {j:Nat} {want:Bool}:bH P (.os D (⟨d,(.len .slice x),some (j,want),rs⟩::os)::aQ) .normal r h Q=(gV (r.trim rs j)/\gv (took (r.trim rs j) want) ((ju (x.aS (r.trim rs))).isSome=true)/\ev P (some (V.opt (took (r.trim rs j) want) ((ju (x.aS (r.trim rs))).getD .bad))) d D os aQ r h Q):=iU rfl
theorem ahj {x:aW}:bH P (.os D (⟨d,(.len .str x),none,rs⟩::os)::aQ) .normal r h Q=ev P (FY (x.aS (r.trim rs))) d D os aQ r h Q:=iw rfl
theorem aic {x:aW} {j:Nat} {want:Bool}:bH P (.os D (⟨d,(.len .str x),some (j,want),rs⟩::os)::aQ) .normal r h Q=(gV (r.trim rs j)/\gv (took (r.trim rs j) want) ((FY (x.aS (r.trim rs))).isSome=true)/\ev P (some (V.opt (took (r.trim rs j) want) ((FY (x.aS (r.trim rs))).getD .bad))) d D os aQ r h Q):=iU rfl
theorem ahg {n:Nat} {x:aW}:bH P (.os D (⟨d,(.len (.arr n) x),none,rs⟩::os)::aQ) .normal r h Q=ev P (some (V.int .i64 n)) d D os aQ r h Q:=iw rfl
theorem ah_ {n:Nat} {x:aW} {j:Nat} {want:Bool}:bH P (.os D (⟨d,(.len (.arr n) x),some (j,want),rs⟩::os)::aQ) .normal r h Q=(gV (r.trim rs j)/\gv (took (r.trim rs j) want) ((some (V.int .i64 n)).isSome=true)/\ev P (some (V.opt (took (r.trim rs j) want) ((some (V.int .i64 n)).getD .bad))) d D os aQ r h Q):=iU rfl
theorem ahv {z:List V}:bH P (.os D (⟨d,(.new z),none,rs⟩::os)::aQ) .normal r h Q=k2 P (vF (.ptr (aE h.next) 0) (hB h z)) d D os aQ r h Q:=nT rfl rfl
theorem aik {z:List V} {j:Nat} {want:Bool}:bH P (.os D (⟨d,(.new z),some (j,want),rs⟩::os)::aQ) .normal r h Q=hJ P (r.trim rs j) want d (.new z) rs D os aQ r h Q:=mF rfl
theorem agM {x:aW}:bH P (.os D (⟨d,(.box x),none,rs⟩::os)::aQ) .normal r h Q=k2 P (P8 (x.aS (r.trim rs)).hK (vF (.ptr (aE h.next) 0) (hB h (x.aS (r.trim rs)).cells))) d D os aQ r h Q:=nT rfl rfl
theorem ahP {x:aW} {j:Nat} {want:Bool}:bH P (.os D (⟨d,(.box x),some (j,want),rs⟩::os)::aQ) .normal r h Q=hJ P (r.trim rs j) want d (.box x) rs D os aQ r h Q:=mF rfl
theorem agN {n m:Nat} {z:List V} {bC:List (Nat × Nat × aW)}:bH P (.os D (⟨d,(.kx n m z bC),none,rs⟩::os)::aQ) .normal r h Q=k2 P (D7 n h (j_ (jR z n) (lJ (r.trim rs) bC))) d D os aQ r h Q:=by rw [nT rfl rfl,amB]
theorem ahQ {n m:Nat} {z:List V} {bC:List (Nat × Nat × aW)} {j:Nat} {want:Bool}:bH P (.os D (⟨d,(.kx n m z bC),some (j,want),rs⟩::os)::aQ) .normal r h Q=hJ P (r.trim rs j) want d (.kx n m z bC) rs D os aQ r h Q:=mF rfl
theorem ahH {n:Nat} {x y:aW}:bH P (.os D (⟨d,(.st n x y),none,rs⟩::os)::aQ) .normal r h Q=k2 P (vF .bad (qv n h (x.aS (r.trim rs)) (y.aS (r.trim rs)))) d D os aQ r h Q:=nT rfl rfl
theorem air {n:Nat} {x y:aW} {j:Nat} {want:Bool}:bH P (.os D (⟨d,(.st n x y),some (j,want),rs⟩::os)::aQ) .normal r h Q=hJ P (r.trim rs j) want d (.st n x y) rs D os aQ r h Q:=mF rfl
theorem ahp {n:Nat} {z:List V} {l c:aW}:bH P (.os D (⟨d,(.xV n z l c),none,rs⟩::os)::aQ) .normal r h Q=k2 P (vz n z (l.aS (r.trim rs)) (c.aS (r.trim rs)) h) d D os aQ r h Q:=nT rfl rfl
theorem aif {n:Nat} {z:List V} {l c:aW} {j:Nat} {want:Bool}:bH P (.os D (⟨d,(.xV n z l c),some (j,want),rs⟩::os)::aQ) .normal r h Q=hJ P (r.trim rs j) want d (.xV n z l c) rs D os aQ r h Q:=mF rfl
theorem ahL {k:od} {m i x:aW}:bH P (.os D (⟨d,(.qy k m i x),none,rs⟩::os)::aQ) .normal r h Q=k2 P (vF .bad (oT k.eq h (m.aS (r.trim rs)) (i.aS (r.trim rs)) (x.aS (r.trim rs)))) d D os aQ r h Q:=nT rfl rfl
theorem ait {k:od} {m i x:aW} {j:Nat} {want:Bool}:bH P (.os D (⟨d,(.qy k m i x),some (j,want),rs⟩::os)::aQ) .normal r h Q=hJ P (r.trim rs j) want d (.qy k m i x) rs D os aQ r h Q:=mF rfl
theorem aho {x:Option aW}:bH P (.os D (⟨d,(.zW x),none,rs⟩::os)::aQ) .normal r h Q=k2 P (vy (aW.opt (r.trim rs) x) h) d D os aQ r h Q:=nT rfl rfl
theorem aie {x:Option aW} {j:Nat} {want:Bool}:bH P (.os D (⟨d,(.zW x),some (j,want),rs⟩::os)::aQ) .normal r h Q=hJ P (r.trim rs j) want d (.zW x) rs D os aQ r h Q:=mF rfl
theorem ahC {x:aW}:bH P (.os D (⟨d,(.Aj x),none,rs⟩::os)::aQ) .normal r h Q=k2 P (GZ (x.aS (r.trim rs)) h) d D os aQ r h Q:=(nT rfl rfl).trans (by first | rfl | (unfold GZ;simp only [G.run];cases x.aS (r.trim rs)<;>rfl) | (unfold GZ;cases x.aS (r.trim rs)<;>rfl))
theorem aio {x:aW} {j:Nat} {want:Bool}:bH P (.os D (⟨d,(.Aj x),some (j,want),rs⟩::os)::aQ) .normal r h Q=hJ P (r.trim rs j) want d (.Aj x) rs D os aQ r h Q:=mF rfl
theorem ahx {x:aW}:bH P (.os D (⟨d,(.z8 x),none,rs⟩::os)::aQ) .normal r h Q=k2 P (xZ (x.aS (r.trim rs)) h) d D os aQ r h Q:=nT rfl rfl
theorem aim {x:aW} {j:Nat} {want:Bool}:bH P (.os D (⟨d,(.z8 x),some (j,want),rs⟩::os)::aQ) .normal r h Q=hJ P (r.trim rs j) want d (.z8 x) rs D os aQ r h Q:=mF rfl
theorem agF {n:Nat} {s x:aW}:bH P (.os D (⟨d,(.app n s x),none,rs⟩::os)::aQ) .normal r h Q=k2 P (ml n (s.aS (r.trim rs)) (x.aS (r.trim rs)) h) d D os aQ r h Q:=nT rfl rfl
theorem ahN {n:Nat} {s x:aW} {j:Nat} {want:Bool}:bH P (.os D (⟨d,(.app n s x),some (j,want),rs⟩::os)::aQ) .normal r h Q=hJ P (r.trim rs j) want d (.app n s x) rs D os aQ r h Q:=mF rfl
theorem agS {n:Nat} {hH s:aW}:bH P (.os D (⟨d,(.copy n hH s),none,rs⟩::os)::aQ) .normal r h Q=k2 P (copyV n (hH.aS (r.trim rs)) (s.aS (r.trim rs)) h) d D os aQ r h Q:=nT rfl rfl
theorem ahU {n:Nat} {hH s:aW} {j:Nat} {want:Bool}:bH P (.os D (⟨d,(.copy n hH s),some (j,want),rs⟩::os)::aQ) .normal r h Q=hJ P (r.trim rs j) want d (.copy n hH s) rs D os aQ r h Q:=mF rfl
theorem ahh {x:aW}:bH P (.os D (⟨d,(.len .map x),none,rs⟩::os)::aQ) .normal r h Q=k2 P (CA [x.aS (r.trim rs)] h) d D os aQ r h Q:=nT rfl rfl
theorem aia {x:aW} {j:Nat} {want:Bool}:bH P (.os D (⟨d,(.len .map x),some (j,want),rs⟩::os)::aQ) .normal r h Q=hJ P (r.trim rs j) want d (.len .map x) rs D os aQ r h Q:=mF rfl
theorem agU {x:aW}:bH P (.os D (⟨d,(.j' .bytes x),none,rs⟩::os)::aQ) .normal r h Q=k2 P (Bs.run (x.aS (r.trim rs)) h) d D os aQ r h Q:=nT rfl rfl
theorem ahV {x:aW} {j:Nat} {want:Bool}:bH P (.os D (⟨d,(.j' .bytes x),some (j,want),rs⟩::os)::aQ) .normal r h Q=hJ P (r.trim rs j) want d (.j' .bytes x) rs D os aQ r h Q:=mF rfl
theorem agX {x:aW}:bH P (.os D (⟨d,(.j' .str x),none,rs⟩::os)::aQ) .normal r h Q=k2 P (uU.run (x.aS (r.trim rs)) h) d D os aQ r h Q:=nT rfl rfl
theorem ahY {x:aW} {j:Nat} {want:Bool}:bH P (.os D (⟨d,(.j' .str x),some (j,want),rs⟩::os)::aQ) .normal r h Q=hJ P (r.trim rs j) want d (.j' .str x) rs D os aQ r h Q:=mF rfl
theorem agW {s hH:TypeId} {x:aW}:bH P (.os D (⟨d,(.j' (.other s hH) x),none,rs⟩::os)::aQ) .normal r h Q=k2 P ((rV P s hH).run (x.aS (r.trim rs)) h) d D os aQ r h Q:=nT rfl rfl
theorem ahX {s hH:TypeId} {x:aW} {j:Nat} {want:Bool}:bH P (.os D (⟨d,(.j' (.other s hH) x),some (j,want),rs⟩::os)::aQ) .normal r h Q=hJ P (r.trim rs j) want d (.j' (.other s hH) x) rs D os aQ r h Q:=mF rfl
theorem ahS {f:FuncId} {args:List aW} {j:Nat} {want:Bool}:bH P (.os D (⟨d,(.call f args),some (j,want),rs⟩::os)::aQ) .normal r h Q=hJ P (r.trim rs j) want d (.call f args) rs D os aQ r h Q:=mF rfl
theorem ahT {f:aW} {args:List aW} {j:Nat} {want:Bool}:bH P (.os D (⟨d,(.o7 f args),some (j,want),rs⟩::os)::aQ) .normal r h Q=hJ P (r.trim rs j) want d (.o7 f args) rs D os aQ r h Q:=mF rfl
end
theorem ajU (h:ae) (af:List V):hB h af=if af.length<=top then some (h.new (.bz af 0 false)) else none:=by
 by_cases aD:af.length<=top
 . rw [aqw aD,U_ aD]
 . rw [aqr aD];unfold hB;rw [show Nat.ble af.length top=false from by rw [<-Bool.not_eq_true,aqE];exact aD];rfl
theorem aiB (h:ae) (n:Nat) (b:aN) (off:Nat) (y:V) (af:List V) (c':Nat) (st:Bool):
 Cx n h b off y (.bz af c' st)=if y.cells.length=n/\fs y.cells=true/\off+n<=af.length then some (h.set b (.bz (qt af off y.cells) c' st)) else none:=by
 by_cases aq:y.cells.length=n/\fs y.cells=true/\off+n<=af.length
 . rw [aqw aq,aiD aq.1 aq.2.1 aq.2.2]
 . rw [aqr aq];unfold Cx;by_cases U:y.cells.length=n
   . rw [show Nat.beq y.cells.length n=true from by rw [aqT];exact U];simp only [aqo,cz.bz,cz.on];by_cases ad:fs y.cells=true
     . have aC:¬off+y.cells.length<=af.length:=fun q=>aq ⟨U,ad,by omega⟩;rw [show Nat.ble (off+y.cells.length) af.length=false from by rw [<-Bool.not_eq_true,aqE];exact aC];rfl
     . rw [show fs y.cells=false from by simpa using ad,arR];rfl
   . rw [show Nat.beq y.cells.length n=false from by rw [<-Bool.not_eq_true,aqT];exact U];rfl
theorem ac' (cells:List V) (off size:Nat) (v:V) (rest:List (Nat × Nat × V)):
 j_ cells ((off,size,v)::rest)=if v.hK=true/\v.cells.length=size/\off+size<=cells.length then j_ (qt cells off v.cells) rest else none:=by
 by_cases aq:v.hK=true/\v.cells.length=size/\off+size<=cells.length
 . rw [aqw aq,ac9 aq.1 aq.2.1 aq.2.2]
 . rw [aqr aq];simp only [j_];cases ah:(v.hK&&(Nat.beq v.cells.length size&&Nat.ble (off+v.cells.length) cells.length)) with
   | false=>rfl
   | true=>
     simp only [aqi,aqT,aqE] at ah;exact absurd ⟨ah.1,ah.2.1,by omega⟩ aq
theorem abf (b:Bool):V.cells (.bool b:V)=[.bool b]:=rfl
theorem aku (b:Bool):V.one (.bool b:V)=true:=rfl
theorem adO (b:Bool):V.hK (.bool b:V)=true:=rfl
theorem abj (k:IntKind) (n:Int):V.cells (.int k n:V)=[.int k n]:=rfl
theorem aky (k:IntKind) (n:Int):V.one (.int k n:V)=true:=rfl
theorem adS (k:IntKind) (n:Int):V.hK (.int k n:V)=true:=rfl
theorem abu (s:List UInt8):V.cells (.str s:V)=[.str s]:=rfl
theorem akI (s:List UInt8):V.one (.str s:V)=true:=rfl
theorem ad1 (s:List UInt8):V.hK (.str s:V)=true:=rfl
theorem abo:V.cells (.mK:V)=[.mK]:=rfl
theorem akD:V.one (.mK:V)=true:=rfl
theorem adX:V.hK (.mK:V)=true:=rfl
theorem abq (b:aN) (o:Nat):V.cells (.ptr b o:V)=[.ptr b o]:=rfl
theorem akG (b:aN) (o:Nat):V.one (.ptr b o:V)=true:=rfl
theorem adZ (b:aN) (o:Nat):V.hK (.ptr b o:V)=true:=rfl
theorem abt (b:aN) (o l c:Nat):V.cells (.slice b o l c:V)=[.slice b o l c]:=rfl
theorem akH (b:aN) (o l c:Nat):V.one (.slice b o l c:V)=true:=rfl
theorem ad0 (b:aN) (o l c:Nat):V.hK (.slice b o l c:V)=true:=rfl
theorem abh (b:aN) (o l c:Nat):V.cells (.fp b o l c:V)=[.fp b o l c]:=rfl
theorem akw (b:aN) (o l c:Nat):V.one (.fp b o l c:V)=true:=rfl
theorem adQ (b:aN) (o l c:Nat):V.hK (.fp b o l c:V)=true:=rfl
theorem abv (b:aN) (o l c:Nat):V.cells (.iy b o l c:V)=[.iy b o l c]:=rfl
theorem akJ (b:aN) (o l c:Nat):V.one (.iy b o l c:V)=true:=rfl
theorem ad2 (b:aN) (o l c:Nat):V.hK (.iy b o l c:V)=true:=rfl
theorem abp:V.cells (.cn:V)=[.cn]:=rfl
theorem akE:V.one (.cn:V)=true:=rfl
theorem adY:V.hK (.cn:V)=true:=rfl
theorem abn:V.cells (.l0:V)=[.l0]:=rfl
theorem akC:V.one (.l0:V)=true:=rfl
theorem adW:V.hK (.l0:V)=true:=rfl
theorem abk (b:aN):V.cells (.map b:V)=[.map b]:=rfl
theorem akz (b:aN):V.one (.map b:V)=true:=rfl
theorem adT (b:aN):V.hK (.map b:V)=true:=rfl
theorem abg (f:FuncId) (cs:List V):V.cells (.func f cs:V)=[.func f cs]:=rfl
theorem akv (f:FuncId) (cs:List V):V.one (.func f cs:V)=true:=rfl
theorem adP (f:FuncId) (cs:List V):V.hK (.func f cs:V)=true:=rfl
theorem abm:V.cells (.oQ:V)=[.oQ]:=rfl
theorem akB:V.one (.oQ:V)=true:=rfl
theorem adV:V.hK (.oQ:V)=true:=rfl
theorem abi (t:TypeId) (v:V):V.cells (.iface t v:V)=[.iface t v]:=rfl
theorem akx (t:TypeId) (v:V):V.one (.iface t v:V)=true:=rfl
theorem adR (t:TypeId) (v:V):V.hK (.iface t v:V)=true:=rfl
theorem abl:V.cells (.nilIface:V)=[.nilIface]:=rfl
theorem akA:V.one (.nilIface:V)=true:=rfl
theorem adU:V.hK (.nilIface:V)=true:=rfl
theorem abe (cs:List V):V.cells (.agg cs)=cs:=rfl
theorem adN (cs:List V):V.hK (.agg cs)=true:=rfl
theorem ad3 (cs:List V):V.hK (.tuple cs)=true:=rfl
theorem YN (n:Nat):n+1+1=n+2:=rfl
theorem YT (n:Nat):n+2+1=n+3:=rfl
theorem YU (n:Nat):n+3+1=n+4:=rfl
theorem YV (n:Nat):n+4+1=n+5:=rfl
theorem YW (n:Nat):n+5+1=n+6:=rfl
theorem YX (n:Nat):n+6+1=n+7:=rfl
theorem YY (n:Nat):n+7+1=n+8:=rfl
theorem YZ (n:Nat):n+8+1=n+9:=rfl
theorem Y0 (n:Nat):n+9+1=n+10:=rfl
theorem YM (n:Nat):n+10+1=n+11:=rfl
theorem YO (n:Nat):n+11+1=n+12:=rfl
theorem YP (n:Nat):n+12+1=n+13:=rfl
theorem YQ (n:Nat):n+13+1=n+14:=rfl
theorem YR (n:Nat):n+14+1=n+15:=rfl
theorem YS (n:Nat):n+15+1=n+16:=rfl
theorem Vh (n:Nat):(n+1=n)=False:=aqx (by omega)
theorem aom (n:Nat):(n=n+1)=False:=aqx (by omega)
theorem CQ (n:Nat):(n+2=n)=False:=aqx (by omega)
theorem aon (n:Nat):(n=n+2)=False:=aqx (by omega)
theorem aj_ (n:Nat):(n+3=n)=False:=aqx (by omega)
theorem aoo (n:Nat):(n=n+3)=False:=aqx (by omega)
theorem aka (n:Nat):(n+4=n)=False:=aqx (by omega)
theorem aop (n:Nat):(n=n+4)=False:=aqx (by omega)
theorem akb (n:Nat):(n+5=n)=False:=aqx (by omega)
theorem aoq (n:Nat):(n=n+5)=False:=aqx (by omega)
theorem akc (n:Nat):(n+6=n)=False:=aqx (by omega)
theorem aor (n:Nat):(n=n+6)=False:=aqx (by omega)
theorem akd (n:Nat):(n+7=n)=False:=aqx (by omega)
theorem aos (n:Nat):(n=n+7)=False:=aqx (by omega)
theorem ake (n:Nat):(n+8=n)=False:=aqx (by omega)
theorem aot (n:Nat):(n=n+8)=False:=aqx (by omega)
theorem adI {P:Program} {r:a7} {h:ae} {Q:bV->a7->ae->Prop} {aQ:List iZ} {os:List bJ} {D:Option ik} {d:Option Nat} {g:G} {rs:List Nat}:hJ P (.bool true) true d g rs D os aQ r h Q=bH P (.os D (⟨d,g,none,rs⟩::os)::aQ) .normal r h Q:=by rw [SZ];simp
theorem adF {P:Program} {r:a7} {h:ae} {Q:bV->a7->ae->Prop} {aQ:List iZ} {os:List bJ} {D:Option ik} {d:Option Nat} {g:G} {rs:List Nat}:hJ P (.bool false) false d g rs D os aQ r h Q=bH P (.os D (⟨d,g,none,rs⟩::os)::aQ) .normal r h Q:=by rw [SY];simp
theorem adH {P:Program} {r:a7} {h:ae} {Q:bV->a7->ae->Prop} {aQ:List iZ} {os:List bJ} {D:Option ik} {d:Option Nat} {g:G} {rs:List Nat}:hJ P (.bool true) false d g rs D os aQ r h Q=bH P (.os (jh D r h (.tuple [])) os::aQ) .normal (r.set d (.tuple [])) h Q:=by rw [SY];simp
theorem adG {P:Program} {r:a7} {h:ae} {Q:bV->a7->ae->Prop} {aQ:List iZ} {os:List bJ} {D:Option ik} {d:Option Nat} {g:G} {rs:List Nat}:hJ P (.bool false) true d g rs D os aQ r h Q=bH P (.os (jh D r h (.tuple [])) os::aQ) .normal (r.set d (.tuple [])) h Q:=by rw [SZ];simp
theorem ZB (c:Bool) (a b:V):V.bif (!c) a (V.opt c b)=V.bif (!c) a b:=by cases c<;>rfl
theorem agf (A:Prop):(True->A)=A:=propext ⟨fun q=>q trivial,fun q _=>q⟩
theorem age (A:Prop):(False->A)=True:=propext ⟨fun _=>trivial,fun _ q=>q.elim⟩
section
variable {P:Program}
theorem iV {b:bL} {aQ:List iZ} {r:a7} {h:ae} {Q:bV->a7->ae->Prop} (I:a7->ae->Prop) (μ:a7->ae->Nat) (aV:I r h)
 (step:∀r h,I r h->bH P [.c b] .normal r h fun e bu ab=>e.andThen (I bu ab/\μ bu ab<μ r h) (bH P aQ e bu ab Q)):F9 P b aQ r h Q:=
 ⟨I,μ,aV,step⟩
theorem adE {b want:Bool} {d:Option Nat} {f:FuncId} {args:List aW} {rs:List Nat} {os:List bJ} {D:Option ik} {aQ:List iZ} {r:a7} {h:ae} {Q:bV->a7->ae->Prop} (v:V)
 (bE:(b == want)=true->gm P f (aW.gh (r.trim rs) args) h v h)
 (H:bH P (.os (jh D r h (V.opt (b == want) v)) os::aQ) .normal (r.set d (V.opt (b == want) v)) h Q):hJ P (.bool b) want d (.call f args) rs D os aQ r h Q:=by
 have:=adD (P:=P) (c:=true) (b:=b) (want:=want) (d:=d) (f:=f) (args:=args) (rs:=rs) (D:=D) (os:=os) (aQ:=aQ) (r:=r) (h:=h) (Q:=Q) v;simp only [V.opt,aqo,arP] at this;exact this bE H
theorem BH {b:Bool} {d:Option Nat} {f:FuncId} {args:List aW} {rs:List Nat} {os:List bJ} {D:Option ik} {aQ:List iZ} {r:a7} {h:ae} {Q:bV->a7->ae->Prop} (v:V)
 (bE:(!b)=true->gm P f (aW.gh (r.trim rs) args) h v h)
 (H:bH P (.os (jh D r h (V.opt (!b) v)) os::aQ) .normal (r.set d (V.opt (!b) v)) h Q):hJ P (.bool b) false d (.call f args) rs D os aQ r h Q:=by
 refine adE v ?_ ?_<;>rw [beq_false]<;>assumption
def V.toN:V->Nat
 | .int _ n=>n.toNat
 | _=>0
theorem anH (k:IntKind) (n:Int):V.toN (.int k n)=n.toNat:=rfl
theorem eo {f:FuncId} {args:List V} {d:Option Nat} {os:List bJ} {D:Option ik} {aQ:List iZ} {r:a7} {h:ae} {Q:bV->a7->ae->Prop} {v:V}
 (c:gm P f args h v h) (H:bH P (.os (jh D r h v) os::aQ) .normal (r.set d v) h Q):qK P f args d D os aQ r h Q:=.inl ⟨v,h,c,H⟩
theorem cT {f:FuncId} {args:List V} {d:Option Nat} {os:List bJ} {D:Option ik} {aQ:List iZ} {r:a7} {h:ae} {Q:bV->a7->ae->Prop} {K:V->ae->Prop}
 (c:e9 P f args h K) (H:∀v ab,K v ab->bH P (.os (jh D r h v) os::aQ) .normal (r.set d v) ab Q):qK P f args d D os aQ r h Q:=.inl (c.mono H)
theorem ch {f:FuncId} {args:List V} {d:Option Nat} {os:List bJ} {D:Option ik} {aQ:List iZ} {r:a7} {h:ae} {Q:bV->a7->ae->Prop} {K X:V->ae->Prop}
 (c:jB P f args h K X) (H:∀v ab,K v ab->bH P (.os (jh D r h v) os::aQ) .normal (r.set d v) ab Q) (X1:∀v ab,X v ab->rm P D aQ r h v ab Q):qK P f args d D os aQ r h Q:=c.mono H X1
structure Ext (h ab:ae):Prop where
 next:h.next<=ab.next
 get:∀b,Old h b->ab.get b=h.get b
theorem Ext.refl (h:ae):Ext h h:=⟨aqh _,fun _ _=>rfl⟩
theorem Ext.cA {h ab:ae} (e:Ext h ab) {b:aN} (ah:Old h b):Old ab b:=ar0 ah e.next
theorem Ext.trans {h ab o':ae} (e:Ext h ab) (dP:Ext ab o'):Ext h o':=
 ⟨aqn e.next dP.next,fun b ah=>(dP.get b (e.cA ah)).trans (e.get b ah)⟩
theorem Ext.new {h ab:ae} (e:Ext h ab) (k:cz):Ext h (ab.new k):=
 ⟨Nat.le_succ_of_le e.next,fun b ah=>by rw [jY,aqr (fun q=>(Mt (h:=h) ah e.next) ▸ q)];exact e.get b ah⟩
theorem Ext.set {h ab:ae} (e:Ext h ab) {i:Nat} (aG:h.next<=i) (k:cz):Ext h (ab.set (aE i) k):=
 ⟨e.next,fun b ah=>by rw [fG,aqr (fun q=>(Mt (h:=h) ah aG) ▸ q)];exact e.get b ah⟩
theorem Ext.rd {h ab:ae} (e:Ext h ab) {b:aN} (ah:Old h b) {af:List V} (H:k' h b af):k' ab b af:=by unfold k' at H ⊢;rw [e.get b ah];exact H
def kK (h:ae) (b:aN) (off:Nat) (af:List V):Prop:=Old h b/\∃us,k' h b us/\off+af.length<=us.length/\(us.drop off).take af.length=af
theorem kK.ext {h ab:ae} (e:Ext h ab) {b:aN} {off:Nat} {af:List V} (H:kK h b off af):kK ab b off af:=by obtain ⟨aV,us,U,ad,aC⟩:=H;exact ⟨e.cA aV,us,e.rd aV U,ad,aC⟩
theorem kK.hc {h:ae} {b:aN} {off:Nat} {af:List V} (H:kK h b off af) {i:Nat} (aG:i<af.length):gW (h.get b) (off+i)=some af[i]:=by
 obtain ⟨_,us,U,ad,aC⟩:=H;rw [U.hc,aqm (by omega)];congr 1;have:((us.drop off).take af.length)[i]? =af[i]? :=by rw [aC]
 rw [aq_ aG,art,aqm (by omega),aqm aG] at this;simpa using this
theorem kK.iH {h:ae} {b:aN} {off:Nat} {af:List V} (H:kK h b off af) {i n:Nat} (aG:i+n<=af.length):pk n (h.get b) (off+i)=some (.agg ((af.drop i).take n)):=by
 obtain ⟨_,us,U,ad,aC⟩:=H;rw [U.iH,aqw (by omega)];congr 2;have:(((us.drop off).take af.length).drop i).take n=(af.drop i).take n:=by rw [aC]
 rw [<-this,List.drop_take,ar3,List.take_take];congr 1;omega
def fD (h:ae) (size:Nat) (v:V) (n:Nat) (af:List V):Prop:=
 af.length=n * size/\match v with
  | .cn=>n=0
  | .slice b off len _=>len=n/\kK h b off af
  | .fp b off len _=>len=n/\kK h b off af
  | .iy _ _ _ _=>n=0
  | _=>False
theorem fD.ext {h ab:ae} (e:Ext h ab) {size:Nat} {v:V} {n:Nat} {af:List V} (H:fD h size v n af):fD ab size v n af:=by refine ⟨H.1,?_⟩;have ey:=H.2;cases v<;>simp only at ey ⊢<;>first | exact ey | exact ⟨ey.1,ey.2.ext e⟩
theorem fD.len {h:ae} {size:Nat} {v:V} {n:Nat} {af:List V} (H:fD h size v n af):ju v=some (.int .i64 n):=by
 have ey:=H.2;cases v<;>simp only at ey<;>first
  | (rw [<-ey.1];rfl)
  | (subst ey;rfl)
  | (exact ey.elim)
theorem fD.fy {h:ae} {size:Nat} {v:V} {n:Nat} {af:List V} (H:fD h size v n af) {k:IntKind} {i:Nat} (aG:i<n):
 ∃b off,kU size v (.int k i)=some (.ptr b (off+i * size))/\kK h b off af:=by
 have ey:=H.2;cases v<;>simp only at ey<;>first
  | omega
  | (exact ey.elim)
  | skip
 . rename_i b off len cap;obtain ⟨rfl,U⟩:=ey;refine ⟨b,off,?_,U⟩;rw [Ls,aqw (by omega)];simp
 . rename_i b off len cap;obtain ⟨rfl,U⟩:=ey;refine ⟨b,off,?_,U⟩;rw [Lr,aqw (by omega)];simp
end
structure Mod (M:aN->Prop) (h ab:ae):Prop where
 next:h.next<=ab.next
 get:∀b,Old h b->¬M b->ab.get b=h.get b
theorem Mod.refl (M:aN->Prop) (h:ae):Mod M h h:=⟨aqh _,fun _ _ _=>rfl⟩
theorem Mod.cA {M:aN->Prop} {h ab:ae} (e:Mod M h ab) {b:aN} (ah:Old h b):Old ab b:=ar0 ah e.next
theorem Mod.trans {M:aN->Prop} {h ab o':ae} (e:Mod M h ab) (dP:Mod M ab o'):Mod M h o':=
 ⟨aqn e.next dP.next,fun b ah hm=>(dP.get b (e.cA ah) hm).trans (e.get b ah hm)⟩
theorem Mod.new {M:aN->Prop} {h ab:ae} (e:Mod M h ab) (k:cz):Mod M h (ab.new k):=
 ⟨Nat.le_succ_of_le e.next,fun b ah hm=>by rw [jY,aqr (fun q=>(Mt (h:=h) ah e.next) ▸ q)];exact e.get b ah hm⟩
theorem Mod.set {M:aN->Prop} {h ab:ae} (e:Mod M h ab) {b:aN} (ah:Old h b->M b) (k:cz):Mod M h (ab.set b k):=
 ⟨e.next,fun b2 ia hm=>by
   rw [fG];by_cases q:b=b2
   . subst q;exact absurd (ah ia) hm
   . rw [aqr q];exact e.get b2 ia hm⟩
theorem Ext.mod {h ab:ae} (e:Ext h ab) (M:aN->Prop):Mod M h ab:=⟨e.next,fun b ah _=>e.get b ah⟩
theorem Ext.oP {h ab o':ae} (e:Ext h ab) {M:aN->Prop} (m:Mod M ab o') (hm:∀b,M b->h.next<=cM b):Ext h o':=
 ⟨aqn e.next m.next,fun b ah=>by
   have oD:¬M b:=fun q=>by have:=hm b q;unfold Old at ah;omega
   exact (m.get b (e.cA ah) oD).trans (e.get b ah)⟩
theorem Mod.at {M:aN->Prop} {h ab:ae} (e:Mod M h ab) {b:aN} {off:Nat} {af:List V} (H:kK h b off af) (hm:¬M b):kK ab b off af:=by obtain ⟨aV,us,U,ad,aC⟩:=H;refine ⟨e.cA aV,us,?_,ad,aC⟩;unfold k' at U ⊢;rw [e.get b aV hm];exact U
theorem kf {h:ae} {i:Nat} (aG:i<h.next):Old h (aE i):=by unfold Old;rw [dj];exact aG
theorem CO {h:ae} {b:aN} {i:Nat} (ah:Old h b) (aG:h.next<=i):(b=aE i)=False:=by apply aqx;intro e;unfold Old at ah;rw [e,dj] at ah;omega
def V.bd:V->aN->Prop
 | .slice b _ _ _,b2=>b2=b
 | .fp b _ _ _,b2=>b2=b
 | _,_=>False
theorem fD.one {h:ae} {size:Nat} {v:V} {n:Nat} {af:List V} (H:fD h size v n af):v.one=true/\v.cells=[v]/\v.hK=true:=by have q:=H.2;cases v<;>simp only at q<;>first | exact ⟨rfl,rfl,rfl⟩ | exact q.elim
theorem fD.mod {M:aN->Prop} {h ab:ae} (e:Mod M h ab) {size:Nat} {v:V} {n:Nat} {af:List V} (H:fD h size v n af) (hm:∀b,v.bd b->¬M b):fD ab size v n af:=by refine ⟨H.1,?_⟩;have ey:=H.2;cases v<;>simp only at ey ⊢<;>first | exact ey | exact ⟨ey.1,e.at ey.2 (hm _ rfl)⟩
theorem fD.cA {h:ae} {size:Nat} {v:V} {n:Nat} {af:List V} (H:fD h size v n af) {b:aN} (ah:v.bd b):Old h b:=by have ey:=H.2;cases v<;>simp only [V.bd] at ey ah<;>first | (exact ah.elim) | (subst ah;exact ey.2.1)
def fe (B:Nat) (h:ae) (size:Nat) (v:V) (n:Nat) (af:List V):Prop:=
 af.length=n * size/\match v with
  | .cn=>n=0
  | .slice b off len cap=>len=n/\B<=cM b/\Old h b/\n<=cap/\cap<=top/\∃us c' st,h.get b=.bz us c' st/\off+cap * size<=us.length/\(us.drop off).take af.length=af
  | .fp b off len idx=>len=n/\B<=cM b/\Old h b/\off=0/\idx=0/\∃us st,h.get b=.bz us size st/\af.length<=us.length/\us.take af.length=af
  | _=>False
theorem fe.v {B:Nat} {h:ae} {size:Nat} {v:V} {n:Nat} {af:List V} (H:fe B h size v n af):fD h size v n af:=by
 obtain ⟨U,ad⟩:=H;refine ⟨U,?_⟩;cases v<;>simp only at ad ⊢<;>first | exact ad | skip
 . obtain ⟨an,_,av,aH,_,us,c',st,bP,cE,dG⟩:=ad;refine ⟨an,av,us,.inr ⟨c',st,bP⟩,?_,dG⟩;rw [U];have:=ari size aH;omega
 . obtain ⟨an,_,av,aH,_,us,st,bP,cE,dG⟩:=ad;subst aH;exact ⟨an,av,us,.inr ⟨size,st,bP⟩,by omega,by simpa using dG⟩
theorem fe.base {B:Nat} {h:ae} {size:Nat} {v:V} {n:Nat} {af:List V} (H:fe B h size v n af) {b:aN} (ah:v.bd b):B<=cM b:=by have ey:=H.2;cases v<;>simp only [V.bd] at ey ah<;>first | (exact ah.elim) | (subst ah;exact ey.2.1)
theorem fe.mono {B hS:Nat} {h:ae} {size:Nat} {v:V} {n:Nat} {af:List V} (H:fe B h size v n af) (cU:hS<=B):fe hS h size v n af:=by refine ⟨H.1,?_⟩;have ey:=H.2;cases v<;>simp only at ey ⊢<;>first | exact ey | exact ⟨ey.1,aqn cU ey.2.1,ey.2.2⟩
theorem fe.mod {M:aN->Prop} {h ab:ae} (e:Mod M h ab) {B size:Nat} {v:V} {n:Nat} {af:List V} (H:fe B h size v n af) (hm:∀b,v.bd b->¬M b):fe B ab size v n af:=by
 refine ⟨H.1,?_⟩;have ey:=H.2;cases v<;>simp only at ey ⊢<;>first | exact ey | skip
 . obtain ⟨an,av,aH,bP,cE,us,c',st,dG,fX⟩:=ey;exact ⟨an,av,e.cA aH,bP,cE,us,c',st,by rw [e.get _ aH (hm _ rfl)];exact dG,fX⟩
 . obtain ⟨an,av,aH,bP,cE,us,st,dG,fX⟩:=ey;exact ⟨an,av,e.cA aH,bP,cE,us,st,by rw [e.get _ aH (hm _ rfl)];exact dG,fX⟩
theorem fe.ext {h ab:ae} (e:Ext h ab) {B size:Nat} {v:V} {n:Nat} {af:List V} (H:fe B h size v n af):fe B ab size v n af:=
 H.mod (e.mod fun _=>False) fun _ _ q=>q
theorem UH {h:ae} {size:Nat} {v:V} {n:Nat} {af:List V} (H:fD h size v n af):pn v=some n:=by
 have ey:=H.2;cases v<;>simp only at ey<;>first
  | (rw [<-ey.1];rfl)
  | (subst ey;rfl)
  | (exact ey.elim)
theorem Dl {h:ae} {b:aN} {off size n:Nat} {af:List V} (H:kK h b off af) (aD:af.length=n * size):qu h size b off n=some af:=by obtain ⟨_,us,U,ad,aC⟩:=H;unfold qu;rw [U.qs,show Nat.ble (off+n * size) us.length=true from by rw [aqE];omega,ET us _ off (by omega),<-aD,aC];rfl
theorem am_ {h:ae} {size:Nat} {v:V} {n:Nat} {af:List V} (H:fD h size v n af):vZ h size v n=some af:=by
 obtain ⟨U,ad⟩:=H;cases v<;>simp only at ad<;>first
  | (exact ad.elim)
  | (obtain ⟨_,aC⟩:=ad;exact Dl aC U)
  | (subst ad
     have:af=[]:=arU (by omega);subst this;rfl)
theorem fe.grown {B:Nat} {h:ae} {size:Nat} {af:List V} {n:Nat} {st:Bool} (aD:af.length=n * size) (cU:B<=h.next):fe B (h.new (.bz af size st)) size (.fp (aE h.next) 0 n 0) n af:=
 ⟨aD,rfl,by rw [dj];exact cU,Vs,rfl,rfl,af,st,ti _,aqh _,ar_⟩
theorem Y6 {h:ae} {size:Nat} {s x:V} {m:Nat} {af:List V} (ey:fD h size x m af) (hm:m<=top):ml size s x h=(match s with
 | .cn=>wL size m af h
 | .slice b off len cap=>wK size b off len cap m af h
 | .fp b off len idx=>wJ size b off len idx m af h
 | _=>.fail):=by
 unfold ml;rw [UH ey];simp only;rw [am_ ey];simp only;rw [show Nat.ble m top=true from by rw [aqE];exact hm];rfl
theorem NX (A:List V) (o:Nat) (W:List V) (h:o+W.length<=A.length) (q:Nat):(hC A o W)[q]? =if q<o then A[q]? else if q<o+W.length then W[q-o]? else A[q]? :=by
 have aD:(A.take o).length=o:=by rw [ard];omega
 unfold hC;rw [aq7];by_cases bS:q<o
 . rw [aqw bS,aqG (by omega),aq_ bS]
 . rw [aqr bS,aqH (by omega),aD];by_cases cJ:q<o+W.length
   . rw [aqw cJ,aqG (by omega)]
   . rw [aqr cJ,aqH (by omega),art];congr 1;omega
theorem WI (A:List V) (o j:Nat) (L W:List V) (oy:o+L.length<=A.length) (dU:(A.drop o).take L.length=L) (bU:j+W.length<=L.length):((hC A (o+j) W).drop o).take L.length=hC L j W:=by
 apply List.ext_getElem?;intro q;have aD:((A.drop o).take L.length)[q]? =L[q]? :=by rw [dU]
 rw [NX L j W bU];by_cases aI:q<L.length
 . rw [aq_ aI,art,NX A (o+j) W (by omega)];rw [aq_ aI,art] at aD;by_cases bS:q<j
   . rw [aqw (by omega),aqw bS,aD]
   . rw [aqr (by omega),aqr bS];by_cases cJ:q<j+W.length
     . rw [aqw (by omega),aqw cJ];congr 1;omega
     . rw [aqr (by omega),aqr cJ,aD]
 . rw [List.getElem?_take_eq_none (by omega),aqr (by omega),aqr (by omega),aqL (by omega)]
theorem PN {B:Nat} {h:ae} {size:Nat} {s x:V} {n m:Nat} {us af:List V} (cX:1<=size) (H1:fe B h size s n us) (ey:fD h size x m af) (cU:B<=h.next) (hlen:(n+m) * size<=top) (aU:fs af=true):
 ∃v ab,ml size s x h=.val v ab/\fe B ab size v (n+m) (us++af)/\Mod s.bd h ab/\∀b,v.bd b->s.bd b\/h.next<=cM b:=by
 have oD:n+m<=top:=aqn (Nat.le_mul_of_pos_right _ cX) hlen;have nG:=H1.1;have q4:=ey.1;have jr:(us++af).length=(n+m) * size:=by rw [aqC,nG,q4,arn]
 rw [Y6 ey (by omega)];have ad:=H1.2;cases s<;>simp only at ad ⊢<;>try (exact ad.elim)
 case cn=>
  subst ad;have:us=[]:=arU (by omega);subst this;unfold wL;by_cases hm:m=0
  . subst hm;have:af=[]:=arU (by omega);subst this;exact ⟨.cn,h,rfl,⟨by simp,rfl⟩,Mod.refl _ _,fun b ah=>.inl ah⟩
  . rw [show Nat.beq m 0=false from by rw [<-Bool.not_eq_true,aqT];exact hm];simp only [aqt];rw [L9 (by rw [q4];simpa using hlen) cX];refine ⟨_,_,rfl,?_,(Mod.refl _ _).new _,fun b ah=>.inr (by rw [show b=aE h.next from ah,dj];exact aqh _)⟩;have:=fe.grown (B:=B) (h:=h) (size:=size) (af:=af) (n:=m) (st:=false) q4 cU;simpa using this
 case slice b off len cap=>
  obtain ⟨rfl,av,aH,bP,cE,mc,c',st,dG,fX,eE⟩:=ad;unfold wK;by_cases aq:len+m<=cap
  . rw [show Nat.ble (len+m) cap=true from by rw [aqE];exact aq];simp only [aqo];have gj:off+len * size+af.length<=mc.length:=by
     have:=ari size aq;rw [arn] at this;rw [q4];omega
    rw [Own.lay (af:=mc) (c':=c') (st:=st) dG gj aU];refine ⟨_,_,rfl,⟨jr,rfl,av,aH,aq,cE,_,c',st,fG _ _ _ |>.trans (aqw rfl),?_,?_⟩,(Mod.refl (V.bd (.slice b off len cap)) h).set (fun _=>rfl) _,fun b2 ah=>.inl ah⟩
    . rw [ru _ _ _ gj];exact fX
    . rw [aqC];unfold hC;have bM:off+us.length<=mc.length:=by rw [nG];omega
      have aM:mc.take (off+len * size)=mc.take off++us:=by rw [<-nG,List.take_add,eE]
      rw [aM,aq7,aq7,List.drop_append,ara (by rw [ard];omega),aq5];rw [show off - (mc.take off).length=0 from by rw [ard];omega,arp];rw [<-List.append_assoc,asi (by rw [aqC])]
  . rw [show Nat.ble (len+m) cap=false from by rw [<-Bool.not_eq_true,aqE];exact aq];simp only [aqt];rw [show (Nat.ble (len+m) top&&Nat.ble cap top)=true from by simp only [aqi,aqE];exact ⟨oD,cE⟩];simp only [aqo];have J8:kK h b off us:=⟨aH,mc,.inr ⟨c',st,dG⟩,by rw [nG];have:=ari size bP;omega,eE⟩;rw [Dl J8 nG];simp only;rw [L9 (by rw [jr];exact hlen) cX];exact ⟨_,_,rfl,fe.grown jr cU,(Mod.refl _ _).new _,fun b ah=>.inr (by rw [show b=aE h.next from ah,dj];exact aqh _)⟩
 case fp b off len idx=>
  obtain ⟨rfl,av,aH,rfl,rfl,mc,st,dG,fX,eE⟩:=ad;unfold wJ;by_cases hm:m=0
  . subst hm;have:af=[]:=arU (by omega);subst this;exact ⟨_,h,rfl,⟨jr,rfl,av,aH,rfl,rfl,mc,st,dG,by simpa using fX,by simpa using eE⟩,Mod.refl _ _,fun b ah=>.inl ah⟩
  . rw [show Nat.beq m 0=false from by rw [<-Bool.not_eq_true,aqT];exact hm];simp only [aqt];rw [dG];simp only [cz.bz,cz.on];rw [show (Nat.beq size size&&(Nat.ble (len+m) top&&fs af)&&Nat.beq 0 (0 * size))=true from by
     simp only [aqi,aqT,aqE]
     exact ⟨⟨trivial,oD,aU⟩,by omega⟩]
    simp only [aqo];have J8:kK h b 0 us:=⟨aH,mc,.inr ⟨size,st,dG⟩,by omega,by simpa using eE⟩;rw [Dl J8 nG];simp only;rw [L9 (by rw [jr];exact hlen) cX];exact ⟨_,_,rfl,fe.grown (h:=h.set b .dead) jr cU,((Mod.refl (V.bd (.fp b 0 len 0)) h).set (fun _=>rfl) _).new _,fun b2 ah=>.inr (by rw [show b2=aE h.next from ah,dj];exact aqh _)⟩
theorem fe.put {B:Nat} {h:ae} {size:Nat} {v:V} {n:Nat} {af:List V} (H:fe B h size v n af) {i:Nat} (aG:i<n) {k:IntKind} {y:V} (bg:y.cells.length=size) (aU:fs y.cells=true):
 ∃b off ab,kU size v (.int k i)=some (.ptr b (off+i * size))/\v.bd b/\qv size h (.ptr b (off+i * size)) y=some ab/\fe B ab size v n (hC af (i * size) y.cells)/\Mod v.bd h ab:=by
 obtain ⟨U,ad⟩:=H;have a':i * size+size<=n * size:=by have:=ari size (show i+1<=n from aG);rw [arn] at this;omega
 cases v<;>simp only at ad<;>try (first | omega | exact ad.elim)
 case slice b off len cap=>
  obtain ⟨rfl,av,aH,bP,cE,mc,c',st,dG,fX,eE⟩:=ad;have aq:=ari size bP;have gj:off+i * size+y.cells.length<=mc.length:=by rw [bg];omega
  refine ⟨b,off,_,?_,rfl,Own.store (af:=mc) (c':=c') (st:=st) dG bg (by rw [bg] at gj;exact gj) aU,⟨?_,rfl,av,aH,bP,cE,_,c',st,fG _ _ _ |>.trans (aqw rfl),?_,?_⟩,(Mod.refl (V.bd (.slice b off len cap)) h).set (fun _=>rfl) _⟩
  . rw [Ls,aqw (by omega)];simp
  . rw [ru _ _ _ (by rw [bg,U];omega)];exact U
  . rw [ru _ _ _ gj];exact fX
  . rw [ru _ _ _ (by rw [bg,U];omega)];exact WI mc off (i * size) af y.cells (by rw [U];omega) eE (by rw [bg,U];omega)
 case fp b off len idx=>
  obtain ⟨rfl,av,aH,rfl,rfl,mc,st,dG,fX,eE⟩:=ad;have gj:i * size+y.cells.length<=af.length:=by rw [bg,U];omega
  have Cb:0+i * size+y.cells.length<=mc.length:=by omega
  refine ⟨b,0,_,?_,rfl,Own.store (af:=mc) (c':=size) (st:=st) dG bg (by rw [bg] at Cb;exact Cb) aU,⟨?_,rfl,av,aH,rfl,rfl,_,st,fG _ _ _ |>.trans (aqw rfl),?_,?_⟩,(Mod.refl (V.bd (.fp b 0 len 0)) h).set (fun _=>rfl) _⟩
  . rw [Lr,aqw (by omega)];simp
  . rw [ru _ _ _ gj];exact U
  . rw [ru _ _ _ gj,ru _ _ _ Cb];exact fX
  . rw [ru _ _ _ gj];have:=WI mc 0 (i * size) af y.cells (by omega) (by simpa using eE) gj;simpa using this
theorem WJ (af:List V) (c:Nat) (y:V) (h:c<af.length):hC af c [y]=af.set c y:=by unfold hC;rw [List.set_eq_take_append_cons_drop,aqw h];simp
theorem akW (r:a7):aW.opt r none=none:=(rfl)
theorem akX (r:a7) (x:aW):aW.opt r (some x)=some (x.aS r):=(rfl)
theorem P7 {k:IntKind} {m d y:Nat} (h:m<=y):bound (some (.int k (m:Int))) d y=some m:=by simp only [bound,V.fg,qc];rw [show (decide ((0:Int)<=(m:Int))&&decide ((m:Int)<=(y:Int)))=true from by simp;omega];simp
theorem D6 (d y:Nat):bound none d y=some d:=rfl
theorem aj1 (b:aN) (o:Nat):vD (.ptr b o)=some (.ptr b o):=rfl
theorem ajJ (k bG:IntKind) (a b:Int):l6 (fun b a=>!Int.leB a b) [.int k a,.int bG b]=some (.int k (if b<a then b else a)):=by
 simp only [l6,yg,V.fg,qc];by_cases h:b<a
 . rw [aqw h];have:¬a<=b:=by omega
   simp [this]
 . rw [aqr h];have:a<=b:=by omega
   simp [this]
theorem U7 (k bG:IntKind) (a b:Int):l6 (fun b a=>!Int.leB b a) [.int k a,.int bG b]=some (.int k (if a<b then b else a)):=by
 simp only [l6,yg,V.fg,qc];by_cases h:a<b
 . rw [aqw h];have:¬b<=a:=by omega
   simp [this]
 . rw [aqr h];have:b<=a:=by omega
   simp [this]
theorem kK.cell {h:ae} {b:aN} {off:Nat} {af:List V} (H:kK h b off af) {i j n:Nat} {ws:List V} (hw:(af.drop i).take n=ws) (aG:i+n<=af.length) (bU:j<n):gW (h.get b) (off+i+j)=ws[j]? :=by rw [arl,H.hc (by omega),<-hw,aq_ bU,art,aqm]
end
section
open Go Go.RowKit
set_option linter.defProp false
variable [Lay]
end
section
open Go Go.RowKit
variable [Lay]
theorem abH {P:Program} {aQ:List iZ} {r:a7} {h:ae} {Q:bV->a7->ae->Prop} {a b:bL}:y2 P (.bool true) a b aQ r h Q=bH P (.c a::aQ) .normal r h Q:=by rw [RP];simp
theorem abG {P:Program} {aQ:List iZ} {r:a7} {h:ae} {Q:bV->a7->ae->Prop} {a b:bL}:y2 P (.bool false) a b aQ r h Q=bH P (.c b::aQ) .normal r h Q:=by rw [RP];simp
theorem P3 (a b:List UInt8):qI a b=decide (a=b):=by rw [wR,arc];simp
theorem IK (k:IntKind) (b:Int) (d y:Nat):bound (some (.int k b)) d y=if 0<=b/\b<=(y:Int) then some b.toNat else none:=by simp only [bound,V.fg,qc];by_cases U:0<=b<;>by_cases ad:b<=(y:Int)<;>simp [U,ad]
theorem am0 (s:List UInt8) (k:IntKind) (b:Int):n9 (.str s) none (some (.int k b)) none=if 0<=b/\b<=(s.length:Int) then some (.str (s.take b.toNat)) else none:=by
 simp only [n9,IK];by_cases h:0<=b/\b<=(s.length:Int)
 . simp only [h,and_self,aqu,bound,arp,asd]
 . simp only [h,aqs]
theorem am1 (s:List UInt8) (k:IntKind) (a:Int):n9 (.str s) (some (.int k a)) none none=if 0<=a/\a<=(s.length:Int) then some (.str (s.drop a.toNat)) else none:=by
 simp only [n9,D6,IK];by_cases h:0<=a/\a<=(s.length:Int)
 . simp only [h,and_self,aqu];rw [arY (by rw [aqU];omega)]
 . simp only [h,aqs]
theorem am2 (s:List UInt8) (k bG:IntKind) (a b:Int):n9 (.str s) (some (.int k a)) (some (.int bG b)) none=if 0<=a/\a<=b/\b<=(s.length:Int) then some (.str ((s.drop a.toNat).take (b.toNat-a.toNat))) else none:=by
 simp only [n9,IK];by_cases h:0<=b/\b<=(s.length:Int)
 . simp only [h,and_self,aqu];by_cases ad:0<=a/\a<=b
   . have:0<=a/\a<=((b.toNat:Nat):Int):=by omega
     simp only [this,and_self,aqu,ad,h]
   . have aC:¬(0<=a/\a<=((b.toNat:Nat):Int)):=by omega
     have aX:¬(0<=a/\a<=b/\b<=(s.length:Int)):=by omega
     have bF:¬(0<=a/\a<=b/\True):=fun q=>ad ⟨q.1,q.2.1⟩;rw [aqr bF,aqr aC]
 . have aX:¬(0<=a/\a<=b/\b<=(s.length:Int)):=by omega
   simp only [h,aX,aqs]
theorem amZ (s:List UInt8):n9 (.str s) none none none=some (.str s):=by simp only [n9,D6,arp,asd,ar_]
section
variable {P:Program}
theorem amI (a b:List UInt8):(fK.str .eql).run P (.str a) (.str b)=some (.bool (decide (a=b))):=by simp only [fK.run,ug,sA,P3]
theorem amH (a b:List UInt8):(fK.str .add).run P (.str a) (.str b)=if a.length+b.length<=top then some (.str (a++b)) else none:=by
 simp only [fK.run,ug,Hj];by_cases h:a.length+b.length<=top
 . rw [aqw h,show Nat.ble (a.length+b.length) top=true from by rw [aqE];exact h];rfl
 . rw [aqr h,show Nat.ble (a.length+b.length) top=false from by rw [<-Bool.not_eq_true,aqE];exact h];rfl
theorem amJ (s:List UInt8) (k:IntKind) (i:Int):tG.run (.str s) (.int k i)=if 0<=i/\i < (s.length:Int) then some (.int .u8 (((s[i.toNat]?).getD 0).toNat:Int)) else none:=by
 simp only [tG,V.fg,qc];by_cases U:0<=i
 . simp only [U,decide_true,aqo,arZ];by_cases ad:i < (s.length:Int)
   . rw [aqw ad,aqm (by omega)];rfl
   . rw [aqr ad,aqL (by omega)]
 . simp only [U,ase,aqt,asn,aqs]
theorem amK (a b:List UInt8):(fK.str .neq).run P (.str a) (.str b)=some (.bool (!decide (a=b))):=by simp only [fK.run,ug,sA,P3]
end
end
end Go.Proofs.YtahfljfikfkpnaaGreatDoor.bf
