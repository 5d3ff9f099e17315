/- The abstract machine and its walks (a verified interpreter of the model's code: plain definitions and lemmas, no condition). Printed by a program from longer texts: names made short. -/
import Derived.Test.YtkehcalakofigaaGreatDoorM3
import Derived.IntWalk
import Derived.ChangeArms
import Derived.DataReads
set_option linter.unusedSectionVars false
set_option linter.unusedSimpArgs false
set_option linter.unusedVariables false
namespace Go.Proofs.YtkehcalakofigaaGreatDoor.aS
variable [Lay]
open Go Go.RowKit
inductive aW where
 | t (n:Nat)
 | c (v:V)
abbrev aT:=Nat→V
def aW.a6 (r:aT):aW→V
 | .t n=>r n
 | .c v=>v
def aW.fc (r:aT):List aW→List V
 | []=>[]
 | x::xs=>x.a6 r::aW.fc r xs
def rx:Operand→aW
 | .tmp t=>bif Nat.ble t top then .t t else .c .bad
 | .const v=>.c (gy v)
 | .func f=>bif Nat.beq f c7 then .c .bad else .c (.func f [])
 | .global _=>.c .bad
def mJ:List Operand→List aW
 | []=>[]
 | x::xs=>rx x::mJ xs
def aW.opt (r:aT):Option aW→Option V
 | none=>none
 | some x=>some (x.a6 r)
def qU:Option Operand→Option aW
 | none=>none
 | some x=>some (rx x)
inductive en where
 | int (op:BinOp)
 | str (op:BinOp)
 | shl
 | shr
 | vd (neg:Bool)
 | jL (neg:Bool) (k:Nat)
 | other (op:BinOp) (t:TypeId)
noncomputable def en.run (P:Program):en→V→V→Option V
 | .int op=>(km op).run
 | .str op=>(qY op).run
 | .shl=>(uj true).run
 | .shr=>(uj false).run
 | .vd neg=>(h9 neg oY).run
 | .jL neg k=>(h9 neg (gf k)).run
 | .other op t=>(pY P op t).run
inductive q9 where
 | int (k:IntKind)
 | bytes
 | str
 | other (s d:TypeId)
noncomputable def q9.run (P:Program):q9→V→af→aZ
 | .int k=>fun x h=>x.dV .fail fun _ n=>.val (.int k (k.wrap n)) h
 | .bytes=>xN.run
 | .str=>ru.run
 | .other s d=>(oW P s d).run
inductive kE where
 | int | str | bool
def kE.eq:kE→dp
 | .int=>kO
 | .str=>lB
 | .bool=>oY
inductive Ak where
 | arr (n:Nat)
 | str
 | slice
 | map
inductive G where
 | bad
 | dz (x:aW)
 | pick (c a b:aW)
 | new (z:List V)
 | box (x:aW)
 | build (z:List V) (bd:List (Nat × Nat × aW))
 | hc (len size:Nat) (z:List V) (bd:List (Nat × Nat × aW))
 | gl (x:aW)
 | iQ (size:Nat) (x:aW)
 | st (size:Nat) (x y:aW)
 | r5 (x:aW)
 | bin (k:en) (x y:aW)
 | un (op:UnOp) (x:aW)
 | hT (k:q9) (x:aW)
 | fn (f:FuncId) (ei:List aW)
 | y7 (f:FuncId) (first:List aW)
 | AG (t:TypeId) (z:Option V) (ok:Bool) (x:aW)
 | qB (t:TypeId) (x:aW)
 | wq (size:Nat) (z:List V) (l c:aW)
 | pC (x:aW) (bm av dU:Option aW)
 | eC (size:Nat) (x:aW) (bm av dU:Option aW)
 | fR (off:Nat) (x:aW)
 | s5 (off:Nat) (x:aW)
 | s6 (off size:Nat) (x:aW)
 | b_ (size:Nat) (x i:aW)
 | rO (n size:Nat) (x i:aW)
 | k4 (x i:aW)
 | iC (t:TypeId) (x i:aW)
 | look (k:kE) (z:V) (ok:Bool) (x i:aW)
 | pG (k:kE) (m i x:aW)
 | tQ (x:Option aW)
 | wN (x:aW)
 | wB (x:aW)
 | ext (x:aW) (i:Nat)
 | call (f:FuncId) (args:List aW)
 | ly (f:aW) (args:List aW)
 | len (k:Ak) (x:aW)
 | app (size:Nat) (s x:aW)
 | copy (size:Nat) (d s:aW)
 | wu (args:List aW)
 | dU (args:List aW)
 | LL (z:List V) (x:aW)
def je (r:aT):List (Nat × Nat × aW)→List (Nat × Nat × V)
 | []=>[]
 | (o,s,x)::bd=>(o,s,x.a6 r)::je r bd
def hV:List V→List (Nat × Nat × V)→Option (List V)
 | cells,[]=>some cells
 | cells,(off,size,v)::rest=>bif v.e5&&(Nat.beq v.cells.length size&&Nat.ble (off+v.cells.length) cells.length) then hV (p_ cells off v.cells) rest else none
noncomputable def Ak.run:Ak→V→af→aZ
 | .arr n=>fun _ h=>.val (.int .i64 n) h
 | .str=>fun x h=>aZ.of h ((nr .string).run x)
 | .slice=>fun x h=>aZ.of h ((nr (.slice 0)).run x)
 | .map=>fun x h=>yX [x] h
noncomputable def G.run (P:Program) (g:G) (call:du) (r:aT) (h:af):aZ:=
 match g with
 | .bad=>.fail
 | .dz x=>.val (x.a6 r) h
 | .pick c a b=>match c.a6 r with
   | .bool t=>.val (bif t then a.a6 r else b.a6 r) h
   | _=>.fail
 | .new z=>gO (.ptr (aC h.next) 0) (fE h z)
 | .box x=>bif (x.a6 r).e5 then gO (.ptr (aC h.next) 0) (fE h (x.a6 r).cells) else .fail
 | .build z bd=>(match hV z (je r bd) with
   | some cs=>.val (.agg cs) h
   | none=>.fail)
 | .hc n _ z bd=>match hV (hN z n) (je r bd) with
   | some cs=>(match fE h cs with
     | some ab=>.val (.slice (aC h.next) 0 n n) ab
     | none=>.fail)
   | none=>.fail
 | .gl x=>aZ.of h (lW h (x.a6 r))
 | .iQ n x=>aZ.of h (lV n h (x.a6 r))
 | .st n x y=>gO .bad (oC n h (x.a6 r) (y.a6 r))
 | .r5 x=>aZ.of h (r4 (x.a6 r))
 | .bin k x y=>aZ.of h (k.run P (x.a6 r) (y.a6 r))
 | .un op x=>aZ.of h (pF op (x.a6 r))
 | .hT k x=>k.run P (x.a6 r) h
 | .fn f ei=>.val (.func f (aW.fc r ei)) h
 | .y7 f first=>.val (.k6 f (aW.fc r first)) h
 | .AG t z ok x=>aZ.of h (xz t z ok (x.a6 r))
 | .qB t x=>.val (.iface t (x.a6 r)) h
 | .wq n z l c=>wm n z (l.a6 r) (c.a6 r) h
 | .pC x bm av m3=>aZ.of h (lf (x.a6 r) (aW.opt r bm) (aW.opt r av) (aW.opt r m3))
 | .eC n x bm av m3=>aZ.of h (match x.a6 r with
   | .bW=>wU (aW.opt r bm) (aW.opt r av) (aW.opt r m3)
   | .slice b off tP cap=>pB n b off tP cap (aW.opt r bm) (aW.opt r av) (aW.opt r m3)
   | .dK b off tP idx=>qV n b off tP idx (aW.opt r bm) (aW.opt r av) (aW.opt r m3)
   | .fu b off j0 idx=>wV b off j0 idx (aW.opt r bm) (aW.opt r av) (aW.opt r m3)
   | _=>none)
 | .fR off x=>aZ.of h ((x.a6 r).h1 none fun b o=>some (.ptr b (o+off)))
 | .s5 off x=>aZ.of h (match x.a6 r with
   | .agg cs=>cs[off]?
   | _=>none)
 | .s6 off n x=>aZ.of h (match x.a6 r with
   | .agg cs=>some (.agg ((cs.drop off).take n))
   | _=>none)
 | .b_ n x i=>aZ.of h ((tI n).run (x.a6 r) (i.a6 r))
 | .rO n s x i=>aZ.of h ((qD n s).run (x.a6 r) (i.a6 r))
 | .k4 x i=>aZ.of h (qF.run (x.a6 r) (i.a6 r))
 | .iC t x i=>aZ.of h ((qE P t).run (x.a6 r) (i.a6 r))
 | .look k z ok x i=>aZ.of h (iR k.eq z ok h (x.a6 r) (i.a6 r))
 | .pG k m i x=>gO .bad (nG k.eq h (m.a6 r) (i.a6 r) (x.a6 r))
 | .tQ x=>r1 (aW.opt r x) h
 | .wN x=>(match x.a6 r with
   | .str s=>.val (.ptr (aC h.next) 0) (h.new (.iter s 0))
   | _=>.fail)
 | .wB x=>tT (x.a6 r) h
 | .ext x i=>(match x.a6 r with
   | .tuple ad=>aZ.of h ad[i]?
   | _=>.fail)
 | .call f args=>call f (aW.fc r args) h
 | .ly f args=>(f.a6 r).wD (aW.fc r args) fun g xs=>call g xs h
 | .len k x=>k.run (x.a6 r) h
 | .app n s x=>kH n (s.a6 r) (x.a6 r) h
 | .copy n d s=>copyV n (d.a6 r) (s.a6 r) h
 | .wu args=>aZ.of h (ju (fun b a=>!Int.leB a b) (aW.fc r args))
 | .dU args=>aZ.of h (ju (fun b a=>!Int.leB b a) (aW.fc r args))
 | .LL z x=>AZ z (x.a6 r) h
def Je (P:Program) (op:BinOp) (t:TypeId):en:=
 match op with
 | .shl=>.shl
 | .shr=>.shr
 | op=>match a' P t with
   | none=>.other op t
   | some aP=>match aP.bc with
     | .int _=>.int op
     | .string=>.str op
     | .bool=>(match op with
       | .eql=>.vd false
       | .neq=>.vd true
       | _=>.other op t)
     | .pointer _=>(match op with
       | .eql=>.jL false 1
       | .neq=>.jL true 1
       | _=>.other op t)
     | .slice _=>(match op with
       | .eql=>.jL false 2
       | .neq=>.jL true 2
       | _=>.other op t)
     | .map _ _=>(match op with
       | .eql=>.jL false 3
       | .neq=>.jL true 3
       | _=>.other op t)
     | .func _ _ _=>(match op with
       | .eql=>.jL false 4
       | .neq=>.jL true 4
       | _=>.other op t)
     | _=>.other op t
def Jj (P:Program) (op:BinOp) (t:TypeId) (lit:Bool):en:=
 bif lit then (match a' P t with
  | some aP=>match aP.bc with
    | .interface _=>match op with
      | .eql=>.jL false 5
      | .neq=>.jL true 5
      | _=>.jL false 99
    | _=>.jL false 99
  | none=>.jL false 99) else Je P op t
def Jh (P:Program) (s d:TypeId):q9:=
 match a' P s,a' P d with
 | some sj,some mX=>match mX.bc with
   | .int k=>.int k
   | .string=>match sj.bc with
     | .slice e=>match a' P e with
       | some bf=>match bf.bc with
         | .int .u8=>.str
         | _=>.other s d
       | none=>.other s d
     | _=>.other s d
   | .slice e=>match a' P e with
     | some bf=>match bf.bc with
       | .int .u8=>.bytes
       | _=>.other s d
     | none=>.other s d
   | _=>.other s d
 | _,_=>.other s d
def oy (place:Nat→Option (Nat × Nat)):List (Nat × Operand)→Option (List (Nat × Nat × aW))
 | []=>some []
 | (i,x)::bd=>match place i with
   | none=>none
   | some (off,size)=>match oy place bd with
     | none=>none
     | some l=>some ((off,size,rx x)::l)
def QR (P:Program) (t:TypeId) (bd:List (Nat × Operand)):G:=
 match a' P t with
 | some aP=>match aP.zero with
   | some z=>match aP.bc with
     | .struct bY=>bif Bi P bY.toList then (match oy (vg P bY) bd with
       | some l=>.build z.cells l
       | none=>.bad) else .bad
     | .array _ e=>match a' P e with
       | some bf=>(match oy (fun i=>some (i * bf.size,bf.size)) bd with
         | some l=>.build z.cells l
         | none=>.bad)
       | none=>.bad
     | _=>.bad
   | none=>.bad
 | none=>.bad
def QU (P:Program) (t:TypeId) (len:Nat) (bd:List (Nat × Operand)):G:=
 match a' P t with
 | some aP=>match aP.bc with
   | .slice e=>match a' P e with
     | some bf=>match bf.zero with
       | some z=>bif Nat.ble (len * bf.size) 1000000&&Nat.beq z.cells.length bf.size then
          (match oy (fun i=>some (i * bf.size,bf.size)) bd with
          | some l=>.hc len bf.size z.cells l
          | none=>.bad) else .bad
       | none=>.bad
     | none=>.bad
   | _=>.bad
 | none=>.bad
def tO:TypeDesc→Option kE
 | .int _=>some .int
 | .string=>some .str
 | .bool=>some .bool
 | _=>none
def FK (P:Program) (t:TypeId):Option (List V):=
 match a' P t with
 | some aP=>match aP.bc with
   | .slice e=>match a' P e with
     | some bf=>match bf.zero with
       | some z=>some z.cells
       | none=>none
     | none=>none
   | _=>none
 | none=>none
theorem Yr (P:Program) (t:TypeId):xK P t=FK P t:=rfl
def Jg (P:Program) (c:Call):G:=
 match c.callee with
 | .value (.func f)=>bif Nat.beq f c7 then .bad else .call f (mJ c.args.toList)
 | .value x=>.ly (rx x) (mJ c.args.toList)
 | .invoke _ _=>.bad
 | .builtin b=>match b with
   | .len=>match c.argTypes.toList,c.args.toList with
     | [t],[x]=>(match a' P t with
       | some aP=>(match aP.bc with
         | .map _ _=>.len .map (rx x)
         | .array n _=>.len (.arr n) (rx x)
         | .string=>.len .str (rx x)
         | .slice _=>.len .slice (rx x)
         | _=>.bad)
       | none=>.bad)
     | _,_=>.bad
   | .append=>match c.argTypes.toList,c.args.toList with
     | [t,u],[s,x]=>(match a' P t,a' P u with
       | some aP,some q3=>(match q3.bc with
         | .int _=>.bad
         | _=>match aP.bc with
           | .slice e=>(match a' P e with
             | none=>.bad
             | some bf=>match bf.zero with
               | none=>.bad
               | some z=>bif Nat.ble 1 bf.size&&Nat.ble bf.bytes 4096&&Nat.beq z.cells.length bf.size then .app bf.size (rx s) (rx x) else .bad)
           | _=>.bad)
       | _,_=>.bad)
     | _,_=>.bad
   | .copy=>match c.argTypes.toList,c.args.toList with
     | t::_,[d,s]=>(match a' P t with
       | some aP=>(match aP.bc with
         | .slice e=>(match a' P e with
           | some bf=>.copy bf.size (rx d) (rx s)
           | none=>.bad)
         | _=>.bad)
       | none=>.bad)
     | _,_=>.bad
   | .min=>.wu (mJ c.args.toList)
   | .max=>.dU (mJ c.args.toList)
   | .clear=>match c.argTypes.toList,c.args.toList with
     | [t],[x]=>(match FK P t with
       | some z=>.LL z (rx x)
       | none=>.bad)
     | _,_=>.bad
   | _=>.bad
def C9 (P:Program) (op:Op):G:=
 match op with
 | .move x=>.dz (rx x)
 | .assign x=>.dz (rx x)
 | .pick c a b=>.pick (rx c) (rx a) (rx b)
 | .alloc t=>(match a' P t with
   | some aP=>(match aP.zero with
     | some z=>.new z.cells
     | none=>.bad)
   | none=>.bad)
 | .box _ x=>.box (rx x)
 | .build t bd=>QR P t bd.toList
 | .buildSlice t n bd=>QU P t n bd.toList
 | .load t x=>(match a' P t with
   | none=>.bad
   | some aP=>bif aP.agg then .iQ aP.size (rx x) else bif Nat.beq aP.size 1 then .gl (rx x) else .bad)
 | .store t x y=>(match a' P t with
   | none=>.bad
   | some aP=>.st aP.size (rx x) (rx y))
 | .nilCheck x=>.r5 (rx x)
 | .binOp op t x y _=>.bin (Jj P op t (pq x||pq y)) (rx x) (rx y)
 | .unOp op _ x=>.un op (rx x)
 | .convert s d x=>.hT (Jh P s d) (rx x)
 | .makeFunc (.func f) first ei=>bif first.isEmpty&&!Nat.beq f c7 then .fn f (mJ ei.toList) else bif ei.isEmpty&&!Nat.beq f c7 then .y7 f (mJ first.toList) else .bad
 | .makeInterface t x=>(match a' P t with
   | some aP=>bif Nat.beq (ev aP.bc) 5 then .bad else .qB t (rx x)
   | none=>.bad)
 | .makeSlice t l c=>(match a' P t with
   | some aP=>(match aP.bc with
     | .slice e=>(match a' P e with
       | some bf=>(match bf.zero with
         | some z=>bif Nat.ble bf.bytes 4096 then .wq bf.size z.cells (rx l) (rx c) else .bad
         | none=>.bad)
       | none=>.bad)
     | _=>.bad)
   | none=>.bad)
 | .slice t x bm av dU=>(match a' P t with
   | none=>.bad
   | some aP=>match aP.bc with
     | .string=>.pC (rx x) (qU bm) (qU av) (qU dU)
     | .slice e=>(match a' P e with
       | none=>.bad
       | some bf=>.eC bf.size (rx x) (qU bm) (qU av) (qU dU))
     | _=>.bad)
 | .fieldAddr t x i=>(match o5 P t i with
   | none=>.bad
   | some f=>match a' P f.type with
     | none=>.bad
     | some jf=>bif Nat.beq jf.size 0 then .bad else .fR f.offset (rx x))
 | .field t x i=>(match o5 P t i with
   | none=>.bad
   | some f=>match a' P f.type with
     | none=>.bad
     | some aP=>bif aP.agg then .s6 f.offset aP.size (rx x) else .s5 f.offset (rx x))
 | .indexAddr t x i=>(match a' P t with
   | none=>.bad
   | some aP=>match aP.bc with
     | .slice e=>(match a' P e with
       | none=>.bad
       | some bf=>.b_ bf.size (rx x) (rx i))
     | .array n e=>(match a' P e with
       | none=>.bad
       | some bf=>.rO n bf.size (rx x) (rx i))
     | _=>.bad)
 | .index t x i=>(match a' P t with
   | none=>.bad
   | some aP=>match aP.bc with
     | .string=>.k4 (rx x) (rx i)
     | _=>.iC t (rx x) (rx i))
 | .range t x=>(match a' P t with
   | some aP=>(match aP.bc with
     | .string=>.wN (rx x)
     | _=>.bad)
   | none=>.bad)
 | .next it true=>.wB (rx it)
 | .lookup t x k ok=>(match a' P t with
   | some aP=>(match aP.bc with
     | .map bn e=>(match a' P bn with
       | some gM=>(match a' P e with
         | some bf=>(match bf.zero with
           | some z=>(match tO gM.bc with
             | some cU=>.look cU z ok (rx x) (rx k)
             | none=>.bad)
           | none=>.bad)
         | none=>.bad)
       | none=>.bad)
     | _=>.bad)
   | none=>.bad)
 | .mapUpdate t m k x | .insert t m k x=>(match a' P t with
   | some aP=>(match aP.bc with
     | .map bn _=>(match a' P bn with
       | some gM=>(match tO gM.bc with
         | some cU=>.pG cU (rx m) (rx k) (rx x)
         | none=>.bad)
       | none=>.bad)
     | _=>.bad)
   | none=>.bad)
 | .makeMap t x=>(match a' P t with
   | some aP=>bif Nat.beq (ev aP.bc) 3 then .tQ (qU x) else .bad
   | none=>.bad)
 | .extract x i=>.ext (rx x) i
 | .typeAssert x _ t ok=>(match a' P t with
   | some aP=>bif Nat.beq (ev aP.bc) 5 then .bad else .AG t aP.zero ok (rx x)
   | none=>.bad)
 | .call c=>Jg P c
 | _=>.bad
noncomputable def dQ (cF:bx):aT:=fun t=>T.get .bad (aC t) cF
theorem fz (cF:bx) (x:Operand):(bO x).run cF=(rx x).a6 (dQ cF):=by
 cases x with
 | tmp t=>
   simp only [bO,rx]
   cases Nat.ble t top<;>rfl
 | const v=>rfl
 | func f=>
   simp only [bO,rx]
   cases Nat.beq f c7<;>rfl
 | global g=>rfl
theorem vf (cF:bx):∀xs:List Operand,(o2 xs).run cF=aW.fc (dQ cF) (mJ xs)
 | []=>rfl
 | x::xs=>by simp only [o2,mJ,aW.fc,fz,vf cF xs]
theorem IN (cF:bx) (x:Option Operand):(pt x).run cF=aW.opt (dQ cF) (qU x):=by
 cases x with
 | none=>rfl
 | some x=>simp only [pt,qU,aW.opt,fz]
theorem Bj (cF:bx) {place:Nat→Option (Nat × Nat)}:∀{bd:List (Nat × Operand)} {l:List (Nat × Nat × aW)},oy place bd=some l→∀cells,lC place cells ((r' bd).run cF)=hV cells (je (dQ cF) l)
 | [],l,h,cells=>by
   simp only [oy,Option.some.injEq] at h
   subst h
   rfl
 | (i,x)::bd,l,h,cells=>by
   simp only [oy] at h
   cases aj:place i with
   | none=>rw [aj] at h;cases h
   | some os=>
     obtain ⟨off,size⟩:=os
     rw [aj] at h
     simp only at h
     cases ak:oy place bd with
     | none=>rw [ak] at h;cases h
     | some dL=>
       rw [ak] at h
       simp only [Option.some.injEq] at h
       subst h
       simp only [r',lC,aj,je,hV,fz]
       cases ((rx x).a6 (dQ cF)).e5&&(Nat.beq ((rx x).a6 (dQ cF)).cells.length size&&Nat.ble (off + ((rx x).a6 (dQ cF)).cells.length) cells.length) with
       | false=>rfl
       | true=>exact Bj cF ak _
section
variable {P:Program}
theorem ahA (op:BinOp) (t:TypeId):(Je P op t).run P=(pY P op t).run:=by
 unfold Je pY
 cases op<;>first | rfl | skip
 all_goals
  cases aG:a' P t with
  | none=>simp only [en.run];unfold pY;rw [aG]
  | some aP=>
    simp only
    cases hu:aP.bc<;>first | rfl | (simp only [en.run];unfold pY;rw [aG];simp only [hu];done) | (simp only [en.run];unfold nQ gF;simp only [aG,hu];first | done | rfl)
theorem ahD (op:BinOp) (t:TypeId) (lit:Bool):(Jj P op t lit).run P=(xA P op t lit).run:=by
 unfold Jj xA
 cases lit with
 | false=>simp only [cond_false];exact ahA op t
 | true=>
   simp only [cond_true]
   cases a' P t with
   | none=>rfl
   | some aP=>
     simp only
     cases aP.bc<;>first | rfl | (cases op<;>rfl)
theorem ahC (s d:TypeId):(Jh P s d).run P=(oW P s d).run:=by
 unfold Jh
 split
 · rename_i sj mX aR aY
   split
   · rename_i k hu
     simp only [q9.run];unfold oW;rw [aR,aY];simp only [hu]
   · rename_i hu
     split
     · rename_i e bs
       split
       · rename_i bf he
         split
         · rename_i hw
           simp only [q9.run];unfold oW;rw [aR,aY];simp only [hu,bs,he,hw]
         · rfl
       · rfl
     · rfl
   · rename_i e hu
     split
     · rename_i bf he
       split
       · rename_i hw
         simp only [q9.run];unfold oW;rw [aR,aY];simp only [hu,he,hw]
       · rfl
     · rfl
   · rfl
 · rfl
theorem H' {d:TypeDesc} {cU:kE} (h:tO d=some cU):mu d=true∧jU d=cU.eq:=by
 cases d<;>simp only [tO] at h<;>first | (cases h;done) | (cases h;exact ⟨rfl,rfl⟩)
theorem ahB {c:Call} {call:du} {cF:bx} {h ab:af} {v:V} (he:(Jg P c).run P call (dQ cF) h=.val v ab):(p2 P c).run call cF h=.val v ab:=by
 unfold Jg at he
 unfold p2
 split at he
 · rename_i f aw
   rw [aw]
   cases a1:Nat.beq f c7 with
   | true=>rw [a1] at he;cases he
   | false=>
     rw [a1] at he
     simp only [cond_false,G.run] at he
     simpa only [bO,a1,cond_false,o1,V.wD,vf,List.append_nil] using he
 · rename_i x au aw
   rw [aw]
   simp only [G.run] at he
   simpa only [fz,vf] using he
 · cases he
 · rename_i b aw
   rw [aw]
   simp only [vf]
   cases b<;>simp only at he<;>try (cases he;done)
   case len=>
    split at he
    · rename_i t x aG au
      cases mr:a' P t with
      | none=>rw [mr] at he;cases he
      | some aP=>
        rw [mr] at he
        simp only at he
        simp only [pZ,aG,mr,au,mJ,aW.fc]
        cases hu:aP.bc<;>rw [hu] at he<;>first | (cases he;done) | (simpa only [rU,cond_true,cond_false,G.run,Ak.run,nr,aZ.of] using he)
    · cases he
   case append=>
    split at he
    · rename_i t u s x aG au
      split at he
      · rename_i aP q3 mr vY
        simp only [pZ,aG,au,mJ,aW.fc,AE,mr,vY]
        split at he
        · cases he
        · rename_i dn
          split at he
          · rename_i e cr
            cases eR:a' P e with
            | none=>rw [eR] at he;cases he
            | some bf=>
              rw [eR] at he
              simp only at he
              cases bj:bf.zero with
              | none=>rw [bj] at he;cases he
              | some z=>
                rw [bj] at he
                simp only at he
                cases ai:(Nat.ble 1 bf.size&&Nat.ble bf.bytes 4096&&Nat.beq z.cells.length bf.size) with
                | false=>rw [ai] at he;cases he
                | true=>
                  rw [ai] at he
                  simp only [cond_true,G.run] at he
                  cases HH:q3.bc<;>first
                   | (exact absurd HH (dn _))
                   | (simp only [cr,eR,bj,ai,cond_true];exact he)
          · cases he
      · cases he
    · cases he
   case copy=>
    split at he
    · rename_i t cx d s aG au
      cases mr:a' P t with
      | none=>rw [mr] at he;cases he
      | some aP=>
        rw [mr] at he
        simp only at he
        split at he
        · rename_i e cr
          cases eR:a' P e with
          | none=>rw [eR] at he;cases he
          | some bf=>
            rw [eR] at he
            simp only [G.run] at he
            simp only [pZ,aG,au,mJ,aW.fc,A0,mr,cr,eR]
            exact he
        · cases he
    · cases he
   case min=>exact he
   case max=>exact he
   case clear=>
    split at he
    · rename_i t x aG au
      cases aw:FK P t with
      | none=>rw [aw] at he;cases he
      | some z=>
        rw [aw] at he
        simp only [G.run] at he
        simp only [pZ,aG,au,mJ,aW.fc,Yr,aw]
        exact he
    · cases he
theorem QS {o:Oper} {call:du} {cF:bx} {h ab:af} {v:V} (he:(C9 P o.op).run P call (dQ cF) h=.val v ab):(eG P o).run call cF h=.val v ab:=by
 obtain ⟨dst,op,type,pos,after,guard⟩:=o
 cases op<;>simp only [C9] at he<;>try (cases he;done)
 all_goals simp only [eG]
 case move x=>simpa only [fz,G.run] using he
 case assign x=>simpa only [fz,G.run] using he
 case pick c a b=>
  simp only [fz,G.run] at he ⊢
  generalize (rx c).a6 (dQ cF)=q at he ⊢
  cases q<;>exact he
 case alloc t=>
  cases aG:a' P t with
  | none=>rw [aG] at he;cases he
  | some aP=>
    rw [aG] at he
    simp only at he ⊢
    cases bj:aP.zero with
    | none=>rw [bj] at he;cases he
    | some z=>rw [bj] at he;exact he
 case box t x=>simpa only [fz,G.run] using he
 case build t bd=>
  unfold QR at he
  unfold AN
  cases aG:a' P t with
  | none=>rw [aG] at he;cases he
  | some aP=>
    rw [aG] at he
    simp only at he ⊢
    cases bj:aP.zero with
    | none=>rw [bj] at he;cases he
    | some z=>
      rw [bj] at he
      simp only at he ⊢
      cases hu:aP.bc<;>rw [hu] at he<;>simp only at he ⊢<;>try (cases he;done)
      · rename_i n e
        cases eR:a' P e with
        | none=>rw [eR] at he;cases he
        | some bf=>
          rw [eR] at he
          simp only at he ⊢
          cases aj:oy (fun i=>some (i * bf.size,bf.size)) bd.toList with
          | none=>rw [aj] at he;cases he
          | some l=>
            rw [aj] at he
            simp only [G.run] at he
            rw [Bj cF aj]
            cases aA:hV z.cells (je (dQ cF) l) with
            | none=>rw [aA] at he;cases he
            | some cs=>rw [aA] at he;exact he
      · rename_i bY
        cases aD:Bi P bY.toList with
        | false=>rw [aD] at he;cases he
        | true=>
          rw [aD] at he
          simp only [cond_true] at he ⊢
          cases aj:oy (vg P bY) bd.toList with
          | none=>rw [aj] at he;cases he
          | some l=>
            rw [aj] at he
            simp only [G.run] at he
            rw [Bj cF aj]
            cases aA:hV z.cells (je (dQ cF) l) with
            | none=>rw [aA] at he;cases he
            | some cs=>rw [aA] at he;exact he
 case buildSlice t n bd=>
  unfold QU at he
  unfold sO
  cases aG:a' P t with
  | none=>rw [aG] at he;cases he
  | some aP=>
    rw [aG] at he
    simp only at he ⊢
    cases hu:aP.bc<;>rw [hu] at he<;>simp only at he ⊢<;>try (cases he;done)
    rename_i e
    cases eR:a' P e with
    | none=>rw [eR] at he;cases he
    | some bf=>
      rw [eR] at he
      simp only at he ⊢
      cases bj:bf.zero with
      | none=>rw [bj] at he;cases he
      | some z=>
        rw [bj] at he
        simp only at he ⊢
        cases ai:(Nat.ble (n * bf.size) 1000000&&Nat.beq z.cells.length bf.size) with
        | false=>rw [ai] at he;cases he
        | true=>
          rw [ai] at he
          simp only [cond_true] at he ⊢
          cases aj:oy (fun i=>some (i * bf.size,bf.size)) bd.toList with
          | none=>rw [aj] at he;cases he
          | some l=>
            rw [aj] at he
            simp only [G.run] at he
            rw [Bj cF aj]
            exact he
 case load t x=>
  unfold oq
  cases aG:a' P t with
  | none=>rw [aG] at he;cases he
  | some aP=>
    rw [aG] at he
    simp only at he ⊢
    cases br:aP.agg with
    | true=>rw [br] at he;simpa only [cond_true,fz,G.run] using he
    | false=>
      rw [br] at he
      simp only [cond_false] at he ⊢
      cases aR:Nat.beq aP.size 1 with
      | true=>rw [aR] at he;simpa only [cond_true,fz,G.run] using he
      | false=>rw [aR] at he;cases he
 case store t x y=>
  unfold qW
  cases aG:a' P t with
  | none=>rw [aG] at he;cases he
  | some aP=>rw [aG] at he;simpa only [fz,G.run] using he
 case nilCheck x=>simpa only [fz,G.run] using he
 case binOp op t x y t2=>simpa only [fz,G.run,ahD] using he
 case unOp op t x=>simpa only [fz,G.run] using he
 case convert s d x=>simpa only [fz,G.run,ahC] using he
 case makeFunc fn first ei=>
  cases fn<;>simp only at he<;>try (cases he;done)
  simp only
  cases aA:(first.isEmpty&&!Nat.beq _ c7) with
  | true=>rw [aA] at he;simpa only [cond_true,vf,G.run] using he
  | false=>
    rw [aA] at he
    simp only [cond_false] at he ⊢
    cases h_:(ei.isEmpty&&!Nat.beq _ c7) with
    | true=>rw [h_] at he;simpa only [cond_true,vf,G.run] using he
    | false=>rw [h_] at he;cases he
 case typeAssert x ss t ok=>
  cases aG:a' P t with
  | none=>rw [aG] at he;cases he
  | some aP=>
    rw [aG] at he
    simp only at he ⊢
    cases ai:Nat.beq (ev aP.bc) 5 with
    | true=>rw [ai] at he;cases he
    | false=>rw [ai] at he;simpa only [cond_false,fz,G.run] using he
 case makeInterface t x=>
  cases aG:a' P t with
  | none=>rw [aG] at he;cases he
  | some aP=>
    rw [aG] at he
    simp only at he ⊢
    cases ai:Nat.beq (ev aP.bc) 5 with
    | true=>rw [ai] at he;cases he
    | false=>rw [ai] at he;simpa only [cond_false,fz,G.run] using he
 case makeSlice t l c=>
  unfold Cl
  cases aG:a' P t with
  | none=>rw [aG] at he;cases he
  | some aP=>
    rw [aG] at he
    simp only at he ⊢
    cases hu:aP.bc<;>rw [hu] at he<;>simp only at he ⊢<;>try (cases he;done)
    rename_i e
    cases eR:a' P e with
    | none=>rw [eR] at he;cases he
    | some bf=>
      rw [eR] at he
      simp only at he ⊢
      cases bj:bf.zero with
      | none=>rw [bj] at he;cases he
      | some z=>
        rw [bj] at he
        simp only at he ⊢
        cases ai:Nat.ble bf.bytes 4096 with
        | false=>rw [ai] at he;cases he
        | true=>rw [ai] at he;simpa only [cond_true,fz,G.run] using he
 case slice t x bm av m3=>
  unfold Di
  cases aG:a' P t with
  | none=>rw [aG] at he;cases he
  | some aP=>
    rw [aG] at he
    simp only at he ⊢
    cases hu:aP.bc<;>rw [hu] at he<;>simp only at he ⊢<;>try (cases he;done)
    · simpa only [fz,IN,G.run] using he
    · rename_i e
      cases eR:a' P e with
      | none=>rw [eR] at he;cases he
      | some bf=>
        rw [eR] at he
        simp only [fz,IN,G.run] at he ⊢
        generalize (rx x).a6 (dQ cF)=q at he ⊢
        cases q<;>exact he
 case fieldAddr t x i=>
  unfold Bf
  cases aA:o5 P t i with
  | none=>rw [aA] at he;cases he
  | some f=>
    rw [aA] at he
    simp only at he ⊢
    cases aG:a' P f.type with
    | none=>rw [aG] at he;cases he
    | some jf=>
      rw [aG] at he
      simp only at he ⊢
      cases ai:Nat.beq jf.size 0 with
      | true=>rw [ai] at he;cases he
      | false=>rw [ai] at he;simpa only [cond_false,fz,G.run] using he
 case field t x i=>
  unfold Bg
  cases aA:o5 P t i with
  | none=>rw [aA] at he;cases he
  | some f=>
    rw [aA] at he
    simp only [ox] at he ⊢
    cases aG:a' P f.type with
    | none=>rw [aG] at he;cases he
    | some jf=>
      rw [aG] at he
      simp only at he ⊢
      cases ai:jf.agg with
      | true=>
        rw [ai] at he
        simp only [cond_true,fz,G.run] at he ⊢
        generalize (rx x).a6 (dQ cF)=q at he ⊢
        cases q<;>exact he
      | false=>
        rw [ai] at he
        simp only [cond_false,fz,G.run] at he ⊢
        generalize (rx x).a6 (dQ cF)=q at he ⊢
        cases q<;>exact he
 case indexAddr t x i=>
  unfold B4
  cases aG:a' P t with
  | none=>rw [aG] at he;cases he
  | some aP=>
    rw [aG] at he
    simp only at he ⊢
    cases hu:aP.bc<;>rw [hu] at he<;>simp only at he ⊢<;>try (cases he;done)
    all_goals
     rename_i e
     cases eR:a' P e with
     | none=>rw [eR] at he;cases he
     | some bf=>rw [eR] at he;simpa only [fz,G.run] using he
 case index t x i=>
  cases aG:a' P t with
  | none=>rw [aG] at he;cases he
  | some aP=>
    rw [aG] at he
    simp only at he
    cases hu:aP.bc<;>rw [hu] at he<;>simp only [G.run] at he
    case string=>
     unfold qE
     rw [aG]
     simp only [hu]
     simpa only [fz] using he
    all_goals simpa only [fz] using he
 case range t x=>
  unfold C5
  cases aG:a' P t with
  | none=>rw [aG] at he;cases he
  | some aP=>
    rw [aG] at he
    simp only at he ⊢
    cases hu:aP.bc<;>rw [hu] at he<;>simp only at he ⊢<;>try (cases he;done)
    simp only [fz,G.run] at he ⊢
    generalize (rx x).a6 (dQ cF)=q at he ⊢
    cases q<;>exact he
 case next it b=>
  cases b<;>simp only at he<;>try (cases he;done)
  simpa only [cond_true,fz,G.run] using he
 case lookup t x k ok=>
  unfold Ck
  cases aG:a' P t with
  | none=>rw [aG] at he;cases he
  | some aP=>
    rw [aG] at he
    simp only at he ⊢
    cases hu:aP.bc<;>rw [hu] at he<;>simp only at he ⊢<;>try (cases he;done)
    rename_i bn e
    cases aD:a' P bn with
    | none=>rw [aD] at he;cases he
    | some gM=>
      rw [aD] at he
      simp only at he ⊢
      cases eR:a' P e with
      | none=>rw [eR] at he;cases he
      | some bf=>
        rw [eR] at he
        simp only at he ⊢
        cases bj:bf.zero with
        | none=>rw [bj] at he;cases he
        | some z=>
          rw [bj] at he
          simp only at he ⊢
          cases iy:tO gM.bc with
          | none=>rw [iy] at he;cases he
          | some cU=>
            rw [iy] at he
            obtain ⟨al,aq⟩:=H' iy
            simp only [al,aq,cond_true]
            simpa only [fz,G.run] using he
 case mapUpdate t m k x=>
  unfold nF
  cases aG:a' P t with
  | none=>rw [aG] at he;cases he
  | some aP=>
    rw [aG] at he
    simp only at he ⊢
    cases hu:aP.bc<;>rw [hu] at he<;>simp only at he ⊢<;>try (cases he;done)
    rename_i bn e
    cases aD:a' P bn with
    | none=>rw [aD] at he;cases he
    | some gM=>
      rw [aD] at he
      simp only at he ⊢
      cases iy:tO gM.bc with
      | none=>rw [iy] at he;cases he
      | some cU=>
        rw [iy] at he
        obtain ⟨al,aq⟩:=H' iy
        simp only [al,aq,cond_true]
        simpa only [fz,G.run] using he
 case insert t m k x=>
  unfold nF
  cases aG:a' P t with
  | none=>rw [aG] at he;cases he
  | some aP=>
    rw [aG] at he
    simp only at he ⊢
    cases hu:aP.bc<;>rw [hu] at he<;>simp only at he ⊢<;>try (cases he;done)
    rename_i bn e
    cases aD:a' P bn with
    | none=>rw [aD] at he;cases he
    | some gM=>
      rw [aD] at he
      simp only at he ⊢
      cases iy:tO gM.bc with
      | none=>rw [iy] at he;cases he
      | some cU=>
        rw [iy] at he
        obtain ⟨al,aq⟩:=H' iy
        simp only [al,aq,cond_true]
        simpa only [fz,G.run] using he
 case makeMap t x=>
  unfold wk
  cases aG:a' P t with
  | none=>rw [aG] at he;cases he
  | some aP=>
    rw [aG] at he
    simp only at he ⊢
    cases ai:Nat.beq (ev aP.bc) 3 with
    | false=>rw [ai] at he;cases he
    | true=>rw [ai] at he;simpa only [cond_true,IN,G.run] using he
 case extract x i=>
  simp only [fz,G.run] at he ⊢
  generalize (rx x).a6 (dQ cF)=q at he ⊢
  cases q<;>exact he
 case call c=>exact ahB he
end
end Go.Proofs.YtkehcalakofigaaGreatDoor.aS
namespace Go.Proofs.YtkehcalakofigaaGreatDoor.aS
variable [Lay]
open Go Go.RowKit
def eM (P:Program) (f:FuncId) (args:List V) (h:af) (v:V) (ab:af):Prop:=
 f≠c7∧(((∃fn,P.funcs[f]? =some fn∧fn.body.isSome=true)∧∀(az:Fr) E w xs,a_ E args xs→a8 az E h w→
  Calls P f xs.toArray w fun e ar=>∃ay x,e=.returned x∧E.le ay∧Rel ay v x∧a8 az ay ab ar)∨
 ∀(az:Fr) E w xs,a_ E args xs→a8 az E h w→∃ay x ar,(callFunc f xs.toArray).run P w=.ok (.value x) ar∧E.le ay∧Rel ay v x∧a8 az ay ab ar)
def KI (P:Program) (args:List V) (b:aQ) (h:af) (v:V) (ab:af):Prop:=
 ∀(az:Fr) E w xs p,a_ E args xs→a8 az E h w→E b=some p→
  ∃f tmps assign body,(Instr.yield p.a7 xs.toArray).run P w=.ok (.round p.a7 f tmps assign body) w∧
   RoundIn (b4 none) 0 P p.a7 f tmps assign body w fun e ar=>∃ay x,e=.returned x∧E.le ay∧Rel ay v x∧a8 az ay ab ar
theorem eM.calls {P:Program} (bD:ec P) {f:FuncId} {args:List V} {h ab:af} {v:V} (H:eM P f args h v ab) (ai:∃fn,P.funcs[f]? =some fn∧fn.body.isSome=true) (az:Fr) (E:Env) (w:World) (xs:List Value) (au:a_ E args xs) (s:a8 az E h w):
 Calls P f xs.toArray w fun e ar=>∃ay x,e=.returned x∧E.le ay∧Rel ay v x∧a8 az ay ab ar:=by
 rcases H.2 with ⟨_,H⟩ | H
 · exact H az E w xs au s
 · obtain ⟨ay,x,ar,aJ,_⟩:=H az E w xs au s
   obtain ⟨fn,aa,ae⟩:=ai
   rw [si bD aa ae] at aJ
   cases aJ
def bB (P:Program) (f:FuncId) (args:List V) (h:af) (K:V→af→Prop):Prop:=∃v ab,eM P f args h v ab∧K v ab
def xr (P:Program) (args:List V) (b:aQ) (h:af) (K:V→af→Prop):Prop:=∃v ab,KI P args b h v ab∧K v ab
def KJ (P:Program) (xs:List V) (h:af) (K:V→af→Prop):Prop:=∃cm b,xs=cm++[.ptr b 0]∧xr P cm b h K
def J_ (P:Program) (g:FuncId) (xs:List V) (h:af) (K:V→af→Prop):Prop:=if g=c7 then KJ P xs h K else bB P g xs h K
def V.target (v:V) (args:List V):Option (FuncId × List V):=
 match v with
 | .func g cs=>some (g,args++cs)
 | .k6 g cs=>some (g,cs++args)
 | _=>none
theorem PU {v:V} {args xs:List V} {g:FuncId} (h:v.target args=some (g,xs)) (F:FuncId→List V→aZ):v.wD args F=F g xs:=by
 cases v<;>simp only [V.target] at h<;>try (cases h;done)
 all_goals (simp only [Option.some.injEq,Prod.mk.injEq] at h;obtain ⟨rfl,rfl⟩:=h;rfl)
theorem bB.mono {P:Program} {f:FuncId} {args:List V} {h:af} {K l8:V→af→Prop} (c:bB P f args h K) (aD:∀v ab,K v ab→l8 v ab):bB P f args h l8:=by
 obtain ⟨v,ab,al,aq⟩:=c
 exact ⟨v,ab,al,aD v ab aq⟩
def jZ:du:=fun _ _ _=>.fail
theorem Cv (P:Program):fP P jZ∧f' P jZ:=
 ⟨⟨fun _ f args h v ab _ he=>by simp [jZ] at he,fun _ f args h v ab _ he=>by simp [jZ] at he,fun _ args b h v ab he=>by simp [jZ] at he,fun args h v ab he=>by simp [jZ] at he⟩,fun f args h v ab he=>by simp [jZ] at he⟩
open Classical in
noncomputable def l0 (f:FuncId) (args:List V) (h:af) (v:V) (ab:af):du:=
 fun f1 bM aa=>if f1=f∧bM=args∧aa=h then .val v ab else .fail
theorem P1 {P:Program} {f:FuncId} {args:List V} {h ab:af} {v:V} (H:eM P f args h v ab):fP P (l0 f args h v ab)∧f' P (l0 f args h v ab):=by
 refine ⟨⟨fun az f1 bM aa v1 fB _ he=>?_,fun az f1 bM aa v1 fB _ he=>?_,fun az bM b aa v1 fB he=>?_,fun bM aa v1 fB he=>?_⟩,fun f1 bM aa v1 fB he=>?_⟩
 · unfold l0 at he
   split at he
   · rename_i aw
     obtain ⟨rfl,rfl,rfl⟩:=aw
     simp only [aZ.val.injEq] at he
     obtain ⟨rfl,rfl⟩:=he
     intro E w xs au s
     rcases H.2 with H | H
     · exact .inl ⟨H.1,H.2 az E w xs au s⟩
     · exact .inr (H az E w xs au s)
   · cases he
 · unfold l0 at he
   split at he<;>cases he
 · unfold l0 at he
   split at he
   · rename_i aw
     exact absurd aw.1.symm H.1
   · cases he
 · unfold l0 at he
   split at he<;>cases he
 · trivial
theorem aio {xs cm:List V} {x y:V} (h:xs++[x]=cm++[y]):xs=cm∧x=y:=by
 have:=List.append_inj' h rfl
 exact ⟨this.1,by simpa using this.2⟩
theorem agS {P:Program} {args:List V} {b:aQ} {h ab:af} {v:V} (H:KI P args b h v ab):fP P (l0 c7 (args++[.ptr b 0]) h v ab)∧f' P (l0 c7 (args++[.ptr b 0]) h v ab):=by
 refine ⟨⟨fun az f1 bM aa v1 fB dn he=>?_,fun az f1 bM aa v1 fB _ he=>?_,fun az bM bR aa v1 fB he=>?_,fun bM aa v1 fB he=>?_⟩,fun f1 bM aa v1 fB he=>?_⟩
 · unfold l0 at he
   split at he
   · rename_i aw
     exact absurd aw.1 dn
   · cases he
 · unfold l0 at he
   split at he<;>cases he
 · unfold l0 at he
   split at he
   · rename_i aw
     obtain ⟨_,aw,rfl⟩:=aw
     obtain ⟨rfl,ai⟩:=aio aw
     simp only [V.ptr.injEq,and_true] at ai
     subst ai
     simp only [aZ.val.injEq] at he
     obtain ⟨rfl,rfl⟩:=he
     exact fun E w xs p au s aj=>H az E w xs p au s aj
   · cases he
 · unfold l0 at he
   split at he<;>cases he
 · trivial
theorem IP {f:FuncId} {args:List V} {h ab:af} {v:V}:l0 f args h v ab f args h=.val v ab:=by
 unfold l0
 rw [if_pos ⟨rfl,rfl,rfl⟩]
def aT.set (r:aT) (d:Option Nat) (v:V):aT:=
 match d with
 | none=>r
 | some d=>fun t=>if t=d then v else r t
def aT.trim (r:aT):List Nat→aT
 | [],_=>.bad
 | u::us,t=>if t=u then r t else aT.trim r us t
def aT.bh:List V→aT
 | [],_=>.bad
 | v::ad,t=>if t=0 then v else aT.bh ad (t-1)
noncomputable def zF (r:aT):List Nat→bx
 | []=>.e
 | t::cx=>T.put .bad (r t) (aC t) (zF r cx)
theorem RJ (r:aT):∀cx:List Nat,dQ (zF r cx)=aT.trim r cx
 | []=>by funext t;simp [dQ,zF,aT.trim]
 | u::cx=>by
   funext t
   have bg:=congrFun (RJ r cx) t
   simp only [dQ] at bg
   simp only [dQ,zF,aT.trim,T.hd]
   by_cases h:t=u
   · subst h;simp
   · rw [if_neg (fun e=>h (g' e).symm),if_neg h]
     exact bg
theorem Ds (cF:bx):∀cx:List Nat,dQ (df cF cx)=aT.trim (dQ cF) cx
 | []=>by funext t;simp [dQ,df,aT.trim]
 | u::cx=>by
   funext t
   have bg:=congrFun (Ds cF cx) t
   simp only [dQ] at bg
   simp only [dQ,df,aT.trim,T.hd]
   by_cases h:t=u
   · subst h;simp
   · rw [if_neg (fun e=>h (g' e).symm),if_neg h]
     exact bg
theorem JR {r:aT}:∀{cx:List Nat} {t:Nat},t ∈ cx→aT.trim r cx t=r t
 | [],t,h=>by simp at h
 | u::cx,t,h=>by
   simp only [aT.trim]
   by_cases hu:t=u
   · rw [if_pos hu]
   · rw [if_neg hu]
     simp only [List.mem_cons] at h
     exact JR (h.resolve_left hu)
theorem RM {r:aT}:∀{cx:List Nat} {t:Nat},t ∉ cx→aT.trim r cx t=.bad
 | [],t,_=>rfl
 | u::cx,t,h=>by
   simp only [List.mem_cons,not_or] at h
   simp only [aT.trim]
   rw [if_neg h.1]
   exact RM h.2
theorem C0 (d:Option Nat) (cF:bx) (v:V):dQ ((eZ d).run cF v)=(dQ cF).set d v:=by
 cases d with
 | none=>rfl
 | some d=>
   funext t
   simp only [dQ,eZ,aT.set,T.hd]
   by_cases h:t=d
   · subst h;simp
   · rw [if_neg (fun e=>h (g' e).symm),if_neg h]
abbrev ey:Nat:=17179869185
def Out (ax:Nat) (r:aT):Prop:=∀t,ax≤t→t≠ey→r t=.bad
theorem Bd {ax:Nat} {r:aT} (aU:Out ax r):∃cF,dQ cF=r:=by
 refine ⟨zF r (ey::List.range ax),?_⟩
 rw [RJ]
 funext t
 by_cases h:t<ax
 · exact JR (List.mem_cons_of_mem _ (List.mem_range.2 h))
 · by_cases ae:t=ey
   · exact JR (by rw [ae];exact List.mem_cons_self)
   · rw [RM (by simp only [List.mem_cons,List.mem_range,not_or];exact ⟨ae,h⟩),aU t (by omega) ae]
theorem Out.set {ax:Nat} {r:aT} (aU:Out ax r) {d:Option Nat} (aY:eI ax d=true) (v:V):Out ax (r.set d v):=by
 intro t aG aR
 cases d with
 | none=>exact aU t aG aR
 | some d=>
   simp only [eI,Bool.and_eq_true,Nat.blt_eq] at aY
   simp only [aT.set]
   rw [if_neg (by omega)]
   exact aU t aG aR
theorem Jw {ax:Nat} {r:aT} {d:Option Nat} (aY:eI ax d=true) (v:V):r.set d v ey=r ey:=by
 cases d with
 | none=>rfl
 | some d=>
   simp only [eI,Bool.and_eq_true,Nat.blt_eq,Nat.ble_eq] at aY
   simp only [aT.set]
   rw [if_neg (by have:=aY.2;unfold top at this;unfold ey;omega)]
structure i' (E:Env) (ax:Nat) (r:aT) (a:Act):Prop where
 size:a.tmps.size=ax
 defers:j5 E (r ey) a.defers
 an:∀t,t≠ey→Rel E (r t) (a.tmps.getD t undef)
theorem wx {t:Nat} (h:t≤top):t≠ey:=by unfold top at h;unfold ey;omega
theorem i'.mono {E ay:Env} (h:E.le ay) {ax:Nat} {r:aT} {a:Act} (k:i' E ax r a):i' ay ax r a:=
 ⟨k.size,k.defers.mono h,fun t aG=>Rel.mono h _ _ (k.an t aG)⟩
theorem i'.put {E ay:Env} (h:E.le ay) {ax:Nat} {r:aT} {a:Act} (k:i' E ax r a) {d:Option Nat} (aY:eI ax d=true) {v:V} {x:Value} (au:Rel ay v x):i' ay ax (r.set d v) (a.put d x):=by
 cases d with
 | none=>exact k.mono h
 | some d=>
   have aR:=Jw (r:=r) aY v
   simp only [eI,Bool.and_eq_true,Nat.blt_eq] at aY
   refine ⟨by simp [Act.put,k.size],by rw [aR];exact k.defers.mono h,fun t eS=>?_⟩
   simp only [aT.set,Act.put]
   rw [Array.getD_eq_getD_getElem?,Array.getElem?_setIfInBounds]
   by_cases aG:t=d
   · subst aG
     rw [if_pos rfl,if_pos rfl,if_pos (by rw [k.size];exact aY.1)]
     exact au
   · rw [if_neg aG,if_neg (fun e=>aG e.symm),←Array.getD_eq_getD_getElem?]
     exact Rel.mono h _ _ (k.an t eS)
noncomputable def G.wp (P:Program) (g:G) (r:aT) (h:af) (K:V→af→Prop):Prop:=
 match g with
 | .call f args=>bB P f (aW.fc r args) h K
 | .ly f args=>∃g xs,(f.a6 r).target (aW.fc r args)=some (g,xs)∧J_ P g xs h K
 | g=>∃v ab,g.run P jZ r h=.val v ab∧K v ab
theorem G.w1 {P:Program} {g:G} {r:aT} {h:af} {K:V→af→Prop} (H:g.wp P r h K):∃call v ab,(fP P call∧f' P call)∧g.run P call r h=.val v ab∧K v ab:=by
 cases g
 case call f args=>
  obtain ⟨v,ab,al,aq⟩:=H
  exact ⟨_,v,ab,P1 al,IP,aq⟩
 case ly f args=>
  obtain ⟨g,xs,aA,H⟩:=H
  unfold J_ at H
  split at H
  rotate_left
  · obtain ⟨v,ab,al,aq⟩:=H
    refine ⟨_,v,ab,P1 al,?_,aq⟩
    simp only [G.run]
    rw [PU aA]
    exact IP
  · rename_i aH
    subst aH
    obtain ⟨cm,b,rfl,v,ab,al,aq⟩:=H
    refine ⟨_,v,ab,agS al,?_,aq⟩
    simp only [G.run]
    rw [PU aA]
    exact IP
 all_goals
  obtain ⟨v,ab,al,aq⟩:=H
  exact ⟨jZ,v,ab,Cv P,al,aq⟩
structure bw where
 dst:Option Nat
 g:G
 vm:Option (Nat × Bool)
 rs:List Nat
def bw.bad:bw:=⟨none,.bad,none,[]⟩
def gate (v:V) (want:Bool) (A B:Prop):Prop:=
 match v with
 | .bool b=>(b=want→A)∧(b=!want→B)
 | .tuple _=>B
 | _=>False
noncomputable def bw.wp (P:Program) (o:bw) (r:aT) (h:af) (K:aT→V→af→Prop):Prop:=
 match o.vm with
 | none=>o.g.wp P (r.trim o.rs) h fun v ab=>K (r.set o.dst v) v ab
 | some (d,want)=>gate (r.trim o.rs d) want (o.g.wp P (r.trim o.rs) h fun v ab=>K (r.set o.dst v) v ab) (K (r.set o.dst (.tuple [])) (.tuple []) h)
def C' (P:Program) (ax:Nat) (all:Array Oper) (o:Oper):bw:=
 bif eI ax o.dst&&jz (b2 all o) then
  match o.guard with
  | none=>⟨o.dst,C9 P o.op,none,b2 all o⟩
  | some (j,want)=>match all[j]? with
    | some g=>match g.dst with
      | some d=>bif Nat.blt d ax&&Nat.ble d top then ⟨o.dst,C9 P o.op,some (d,want),b2 all o⟩ else bw.bad
      | none=>bw.bad
    | none=>bw.bad
 else bw.bad
def qQ (P:Program) (ax:Nat) (all:Array Oper):List Oper→List bw
 | []=>[]
 | o::os=>C' P ax all o::qQ P ax all os
theorem QT (P:Program) (ax:Nat) (all:Array Oper):∀l:List Oper,qQ P ax all l=l.map (C' P ax all)
 | []=>rfl
 | o::os=>by simp [qQ,QT P ax all os]
theorem bw.AI {P:Program} {r:aT} {h:af} {K:aT→V→af→Prop}:¬bw.bad.wp P r h K:=by
 rintro ⟨v,ab,q,_⟩
 cases q
theorem bw.w1 {P:Program} {ax:Nat} {all:Array Oper} {o:Oper} {r:aT} {h:af} {K:aT→V→af→Prop} (H:(C' P ax all o).wp P r h K):
 ∃call v ab,(fP P call∧f' P call)∧eI ax o.dst=true∧K (r.set o.dst v) v ab∧∀cF,dQ cF=r→(ct P ax all o).run call cF h=.val v ab:=by
 unfold C' at H
 cases aw:(eI ax o.dst&&jz (b2 all o)) with
 | false=>rw [aw] at H;exact absurd H bw.AI
 | true=>
   have aY:eI ax o.dst=true:=by simp only [Bool.and_eq_true] at aw;exact aw.1
   rw [aw] at H
   simp only [cond_true] at H
   cases aH:o.guard with
   | none=>
     rw [aH] at H
     obtain ⟨call,v,ab,al,aq,aK⟩:=G.w1 H
     refine ⟨call,v,ab,al,aY,aK,fun cF dH=>?_⟩
     unfold ct
     rw [aw]
     simp only [cond_true,aH,hU]
     refine QS ?_
     rw [Ds,dH]
     exact aq
   | some og=>
     obtain ⟨j,want⟩:=og
     rw [aH] at H
     simp only at H
     cases bH:all[j]? with
     | none=>rw [bH] at H;exact absurd H bw.AI
     | some g=>
       rw [bH] at H
       simp only at H
       cases jj:g.dst with
       | none=>rw [jj] at H;exact absurd H bw.AI
       | some d=>
         rw [jj] at H
         simp only at H
         cases ai:(Nat.blt d ax&&Nat.ble d top) with
         | false=>rw [ai] at H;exact absurd H bw.AI
         | true=>
           rw [ai] at H
           simp only [cond_true,bw.wp] at H
           have key:ct P ax all o=⟨hU (some (m' (aC d),want)) (eG P o) (b2 all o)⟩:=by
            unfold ct
            rw [aw]
            simp only [cond_true,aH,bH,jj,ai]
           have GO:∀cF,dQ cF=r→(m' (aC d)).run (df cF (b2 all o))=r.trim (b2 all o) d:=by
            intro cF dH
            rw [←dH,←Ds]
            rfl
           cases bs:r.trim (b2 all o) d<;>rw [bs] at H<;>simp only [gate] at H
           case bool b=>
            by_cases Ns:b=want
            · obtain ⟨call,v,ab,al,aq,aK⟩:=G.w1 (H.1 Ns)
              refine ⟨call,v,ab,al,aY,aK,fun cF dH=>?_⟩
              rw [key]
              simp only [hU,GO cF dH,bs]
              rw [show (bif want then b else !b)=true from by subst Ns;cases b<;>rfl]
              simp only [cond_true]
              refine QS ?_
              rw [Ds,dH]
              exact aq
            · have Nq:b=!want:=by cases b<;>cases want<;>simp_all
              refine ⟨jZ,.tuple [],h,Cv P,aY,H.2 Nq,fun cF dH=>?_⟩
              rw [key]
              simp only [hU,GO cF dH,bs]
              rw [show (bif want then b else !b)=false from by subst Nq;cases want<;>rfl]
              rfl
           case tuple ad=>
            refine ⟨jZ,.tuple [],h,Cv P,aY,H,fun cF dH=>?_⟩
            rw [key]
            simp only [hU,GO cF dH,bs]
noncomputable def q6 (P:Program):List bw→aT→af→(aT→af→Prop)→Prop
 | [],r,h,K=>K r h
 | o::os,r,h,K=>o.wp P r h fun bt _ ab=>q6 P os bt ab K
structure fw where
 r:aT
 h:af
 v:V
noncomputable def j4 (P:Program):List bw→aT→af→(List fw→aT→af→Prop)→Prop
 | [],r,h,K=>K [] r h
 | o::os,r,h,K=>o.wp P r h fun bt v ab=>j4 P os bt ab fun es cL aA=>K (⟨r,h,v⟩::es) cL aA
def vD (es:List fw) (aA:af) (i:Nat):af:=
 match es[i]? with
 | some e=>e.h
 | none=>aA
noncomputable def pV (P:Program) (o:Option bw) (e:Option fw) (es:List fw) (aA:af):List Nat→Prop
 | []=>True
 | s::eL=>(match o,e with
   | some o,some e=>o.wp P e.r (vD es aA s) fun _ cG _=>cG=e.v
   | _,_=>False)∧pV P o e es aA eL
noncomputable def nK (P:Program) (ops:List bw) (es:List fw) (aA:af):List (Nat × List Nat)→Prop
 | []=>True
 | (p,eL)::rest=>pV P ops[p]? es[p]? es aA eL∧nK P ops es aA rest
inductive bC where
 | bad
 | skip
 | an (ops:List bw)
 | draw (ops:List bw) (asks:List (Nat × List Nat))
 | seq (a b:bC)
 | cond (c:aW) (a b:bC)
 | block (id:Nat) (b:bC)
 | loop (b:bC)
 | exit (id:Nat)
 | ret
 | range (f:aW) (bd:List Nat) (ax:Nat) (a b:bC)
def uY (P:Program) (ops:List Oper) (dE aE dY:List Nat):Nat→List Oper→List (Nat × List Nat)
 | _,[]=>[]
 | i,o::os=>bif looks o.op&&!er P o.op then
    (posOf aE i,dY.filter (qJ P dE ops aE i ((dE[i]?).getD 0)))::uY P ops dE aE dY (i+1) os
   else uY P ops dE aE dY (i+1) os
def Ji (P:Program) (ax:Nat) (ops:Array Oper) (order aE:List Nat):bC:=
 bif kt ops.size order aE&&u9 P ops aE then
  .draw (qQ P ax ops (gA ops order)) (bif pS P ops.toList then uY P ops.toList (ef [] ops.toList) aE (gN P aE 0 ops.toList) 0 ops.toList else [])
 else .bad
def b9 (P:Program) (ax:Nat):Code→bC
 | .skip=>.skip
 | .label _=>.skip
 | .region _ ops draw=>bif draw then Ji P ax ops (zi P ops) (CU (zi P ops) 0 ops.toList) else .an (qQ P ax ops ops.toList)
 | .seq a b=>.seq (b9 P ax a) (b9 P ax b)
 | .cond c a b=>.cond (rx c) (b9 P ax a) (b9 P ax b)
 | .block id b=>.block id (b9 P ax b)
 | .loop b=>.loop (b9 P ax b)
 | .exit id=>.exit id
 | .ret=>.ret
 | .scope b=>b9 P ax b
 | .rangeFunc f bd a b=>bif nA ax bd.toList&&(noMark a&&noMark b) then .range (rx f) bd.toList ax (b9 P ax a) (b9 P ax b) else .bad
 | _=>.bad
structure Al (P:Program) (l:mP) (ax:Nat) (r:aT) (bd:List Nat) (zu C6:bC):Prop where
 aX:l.ax=ax
 aJ:dQ l.r=r
 aj:l.bd=bd
 br:b9 P ax l.assign=zu
 ai:b9 P ax l.body=C6
 lE:nA ax bd=true
 akZ:noMark l.assign=true
 ak0:noMark l.body=true
 out:Out ax r
def mP.go (l:mP) (st:Nat) (ed:Option dd):mP:=⟨st,ed,l.d,l.ax,l.r,l.bd,l.assign,l.body⟩
def aT.t_:List Nat→List V→aT→aT
 | p::bd,v::ad,r=>aT.t_ bd ad (r.set (some p) v)
 | _,_,r=>r
def pA (bd:List Nat) (ad:List V) (r:aT):aT:=(aT.t_ bd ad r).set (some ey) .bad
def dd.andThen:dd→Prop→Prop→Prop
 | .normal,A,_=>A
 | _,_,B=>B
def dd.leave (id:Nat):dd→dd
 | .exit i=>if i=id then .normal else .exit i
 | e=>e
noncomputable def b8 (P:Program):bC→aT→af→(dd→aT→af→Prop)→Prop
 | .bad,_,_,_=>False
 | .skip,r,h,Q=>Q .normal r h
 | .an ops,r,h,Q=>q6 P ops r h (Q .normal)
 | .draw ops asks,r,h,Q=>j4 P ops r h fun es cL aA=>nK P ops es aA asks∧Q .normal cL aA
 | .seq a b,r,h,Q=>b8 P a r h fun e bt ab=>e.andThen (b8 P b bt ab Q) (Q e bt ab)
 | .cond c a b,r,h,Q=>match c.a6 r with
   | .bool t=>(t=true→b8 P a r h Q)∧(t=false→b8 P b r h Q)
   | _=>False
 | .block id b,r,h,Q=>b8 P b r h fun e bt ab=>Q (e.leave id) bt ab
 | .loop b,r,h,Q=>∃(I:aT→af→Prop) (μ:aT→af→Nat),I r h∧∀r h,I r h→b8 P b r h fun e bt ab=>e.andThen (I bt ab∧μ bt ab<μ r h) (Q e bt ab)
 | .exit id,r,h,Q=>Q (.exit id) r h
 | .ret,r,h,Q=>Q .ret r h
 | .range f bd ax a b,r,h,Q=>∃g cs,f.a6 r=.func g cs∧g≠c7∧(∃fn,P.funcs[g]? =some fn∧fn.body.isSome=true)∧∀l,Al P l ax r bd a b→l.st=0→l.ed=none→
    bB P g (.func c7 [.ptr (aC (h.next+1)) 0]::cs) ((h.new .fb).new (.dk l)) fun _ ab=>
     ∃dL,ab.get (aC (h.next+1))=.dk dL∧dL.st≠1∧Q (dL.ed.getD .normal) (r.set (some ey) (.tuple (.ptr (aC h.next) 0::(r ey).list))) (ab.set (aC (h.next+1)) .dead)
def bC.plain:bC→Bool
 | .seq a b=>a.plain&&b.plain
 | .cond _ a b=>a.plain&&b.plain
 | .block _ b=>b.plain
 | .loop b=>b.plain
 | .range _ _ _ _ _=>false
 | _=>true
def zW (P:Program) (ax:Nat) (c:Code) (r:aT) (h:af) (e:dd) (bt:aT) (ab:af):Prop:=
 ∀(rd:Option Nat) (az:Fr) E a w,(rd=none∨noMark c=true)→i' E ax r a→a8 az E h w→∀Q:Exit→Act→World→Prop,
  (∀ay bk ar,E.le ay→i' ay ax bt bk→a8 az ay ab ar→Q (toExit e) bk ar)→Dt rd P c Q a w
section
variable {P:Program} {ax:Nat}
theorem R9 (bD:ec P) {all:Array Oper}:∀(l:List Oper) (i:Nat),(∀j,l[j]? =all[i+j]?)→∀(r:aT) (h:af) (K:aT→af→Prop),Out ax r→q6 P (qQ P ax all l) r h K→
 ∃bt ab,K bt ab∧(Out ax bt∧bt ey=r ey)∧∀(rd:Option Nat) (az:Fr) E a w,i' E ax r a→a8 az E h w→∀Q:Exit→Act→World→Prop,
  (∀ay bk ar,E.le ay→i' ay ax bt bk→a8 az ay ab ar→Q .normal bk ar)→wpOpsIn (b4 rd) 0 P all Q (List.range' i l.length) a w
 | [],i,_,r,h,K,aU,H=>by
   refine ⟨r,h,H,⟨aU,rfl⟩,fun rd az E a w k s Q c2=>?_⟩
   simp only [List.length_nil,List.range'_zero,wpOpsIn]
   exact c2 E a w (Env.le.refl E) k s
 | o::os,i,ak,r,h,K,aU,H=>by
   have av:all[i]? =some o:=by have:=ak 0;simpa using this.symm
   simp only [qQ,q6] at H
   obtain ⟨call,v,aa,aw,aY,H1,cK⟩:=bw.w1 H
   obtain ⟨bT,ae,al,aq,aK⟩:=R9 bD os (i+1) (fun j=>by
    have:=ak (j+1)
    simp only [List.getElem?_cons_succ] at this
    rw [this]
    congr 1
    omega) _ aa K (aU.set aY v) H1
   refine ⟨bT,ae,al,⟨aq.1,aq.2.trans (Jw aY v)⟩,fun rd az E a w k s Q c2=>?_⟩
   obtain ⟨cF,dH⟩:=Bd aU
   rw [List.length_cons,List.range'_succ,wpOpsIn_cons]
   refine oX bD aw.1 aw.2 av (cK cF dH) k.size (fun t aG=>?_) s fun ay x ar b1 cg cZ=>?_
   · have:=congrFun dH t
     simp only [dQ] at this
     rw [this]
     exact k.an t (wx (Nat.le_of_ble_eq_true (List.all_eq_true.1 (jc (cK cF dH)).2 t aG)))
   · exact aK rd az ay _ ar (k.put b1 aY cg) cZ Q fun bV a2 bQ cy z2 z3=>c2 bV a2 bQ (b1.trans cy) z2 z3
noncomputable def toF (e:eo):fw:=⟨dQ e.r,e.h,e.v⟩
theorem aa3 (es:List eo) (aA:af) (i:Nat):vD (es.map toF) aA i=b' es aA i:=by
 unfold vD b'
 rw [List.getElem?_map]
 cases es[i]? <;>rfl
theorem R8 {all:Array Oper}:∀(l:List Oper) (lp:bx) (h:af) (K:List fw→aT→af→Prop),j4 P (qQ P ax all l) (dQ lp) h K→Out ax (dQ lp)→
 ∃es mS aA,K (es.map toF) (dQ mS) aA∧(Out ax (dQ mS)∧dQ mS ey=dQ lp ey)∧es.length=l.length∧b' es aA 0=h∧dS es mS 0=lp∧
  ∀j o,l[j]? =some o→∃e call,es[j]? =some e∧(fP P call∧f' P call)∧(ct P ax all o).run call e.r e.h=.val e.v (b' es aA (j+1))∧dS es mS (j+1)=(eZ o.dst).run e.r e.v
 | [],lp,h,K,H,aU=>⟨[],lp,h,H,⟨aU,rfl⟩,rfl,rfl,rfl,fun j o bH=>by simp at bH⟩
 | o::os,lp,h,K,H,aU=>by
   simp only [qQ,j4] at H
   obtain ⟨call,v,aa,aw,aY,H1,cK⟩:=bw.w1 H
   rw [←C0] at H1
   obtain ⟨es,mS,aA,al,aq,aK,bG,di,e0⟩:=R8 os _ aa _ H1 (by rw [C0];exact aU.set aY v)
   refine ⟨⟨lp,h,v⟩::es,mS,aA,al,⟨aq.1,aq.2.trans (by rw [C0];exact Jw aY v)⟩,by simp [aK],by simp [b'],by simp [dS],fun j b6 bH=>?_⟩
   cases j with
   | zero=>
     simp only [List.getElem?_cons_zero,Option.some.injEq] at bH
     subst bH
     exact ⟨⟨lp,h,v⟩,call,rfl,aw,by rw [vC,bG];exact cK lp rfl,by rw [wM,di]⟩
   | succ j=>
     obtain ⟨e,c,b1,cg,cZ,fX⟩:=e0 j b6 (by simpa using bH)
     exact ⟨e,c,by simpa using b1,cg,by rw [vC];exact cZ,by rw [wM];exact fX⟩
theorem KW {o:Option bw} {e:Option fw} {es:List fw} {aA:af}:∀{eL:List Nat},pV P o e es aA eL→∀s ∈ eL,∃b6 db,o=some b6∧e=some db∧b6.wp P db.r (vD es aA s) fun _ cG _=>cG=db.v
 | [],_,s,h=>by simp at h
 | fY::eL,H,s,hm=>by
   simp only [pV] at H
   simp only [List.mem_cons] at hm
   rcases hm with rfl | hm
   · cases o with
     | none=>exact H.1.elim
     | some o=>
       cases e with
       | none=>exact H.1.elim
       | some e=>exact ⟨o,e,rfl,rfl,H.1⟩
   · exact KW H.2 s hm
theorem KZ {ops:List Oper} {dE aE dY:List Nat} {gs:List bw} {es:List fw} {aA:af}:∀{l:List Oper} {i:Nat},nK P gs es aA (uY P ops dE aE dY i l)→∀j o,l[j]? =some o→looks o.op=true→er P o.op=false→
 pV P gs[posOf aE (i+j)]? es[posOf aE (i+j)]? es aA (dY.filter (qJ P dE ops aE (i+j) ((dE[i+j]?).getD 0)))
 | [],i,_,j,o,h,_,_=>by simp at h
 | b6::os,i,H,j,o,h,aa,ae=>by
   simp only [uY] at H
   cases j with
   | zero=>
     simp only [List.getElem?_cons_zero,Option.some.injEq] at h
     subst h
     rw [aa,ae] at H
     simp only [Bool.not_false,Bool.and_true,cond_true,nK] at H
     exact H.1
   | succ j=>
     have iY:nK P gs es aA (uY P ops dE aE dY (i+1) os):=by
      cases aw:(looks b6.op&&!er P b6.op) with
      | true=>rw [aw] at H;simp only [cond_true,nK] at H;exact H.2
      | false=>rw [aw] at H;exact H
     have:=KZ iY j o (by simpa using h) aa ae
     rw [show i+1+j=i + (j+1) from by omega] at this
     exact this
theorem Y0 (gg:ax≤top) (c1:P.follows .mixedOrders=true) (bD:ec P) {id:Nat} {ops:Array Oper} {order aE:List Nat} {r:aT} {h:af} {Q:dd→aT→af→Prop} (aU:Out ax r)
 (H:b8 P (Ji P ax ops order aE) r h Q):∃bt ab,Q .normal bt ab∧(Out ax bt∧bt ey=r ey)∧zW P ax (.region id ops true) r h .normal bt ab:=by
 unfold Ji at H
 cases aA:(kt ops.size order aE&&u9 P ops aE) with
 | false=>rw [aA] at H;exact H.elim
 | true=>
   rw [aA] at H
   simp only [cond_true,b8] at H
   simp only [Bool.and_eq_true] at aA
   obtain ⟨fk,gv⟩:=aA
   unfold kt at fk
   simp only [Bool.and_eq_true,Nat.beq_eq] at fk
   obtain ⟨nf,vL,yn,yo⟩:=fk
   have hl:∀k,k<ops.size→posOf aE k<ops.size∧order[posOf aE k]? =some k:=by
    intro k aD
    have aH:aE[k]? =some (posOf aE k):=by
     unfold posOf
     rw [List.getElem?_eq_getElem (by omega)]
     rfl
    have:=sa yn aH
    rw [Nat.zero_add] at this
    exact ⟨by have:=(List.getElem?_eq_some_iff.1 this).1;omega,this⟩
   have j1:∀p,p<ops.size→∃i,i<ops.size∧posOf aE i=p:=by
    intro p aj
    have aH:order[p]? =some (order[p]'(by omega)):=List.getElem?_eq_getElem (by omega)
    have:=sa yo aH
    rw [Nat.zero_add] at this
    refine ⟨order[p]'(by omega),by have:=(List.getElem?_eq_some_iff.1 this).1;omega,?_⟩
    unfold posOf
    rw [this]
    rfl
   obtain ⟨lp,vw⟩:=Bd aU
   rw [←vw] at H aU
   obtain ⟨es,mS,ba,⟨x3,c2⟩,⟨qu,N6⟩,al,aq,aK,bG⟩:=R8 _ lp h _ H aU
   refine ⟨_,ba,c2,⟨qu,by rw [←vw];exact N6⟩,fun rd az E a w aJ k s hp Gw=>?_⟩
   have step:∀i:Nat,∃call,(fP P call∧f' P call)∧∀o,ops[i]? =some o→∃e,es[posOf aE i]? =some e∧(ct P ax ops o).run call e.r e.h=.val e.v (b' es ba (posOf aE i+1))∧dS es mS (posOf aE i+1)=(eZ o.dst).run e.r e.v:=by
    intro i
    cases av:ops[i]? with
    | none=>exact ⟨jZ,Cv P,fun o h=>by cases h⟩
    | some o=>
      obtain ⟨e,call,b1,cg,cZ,fX⟩:=bG _ o (lZ (hl i (Array.getElem?_eq_some_iff.1 av).1).2 av)
      exact ⟨call,cg,fun b6 gh=>by cases gh;exact ⟨e,b1,cZ,fX⟩⟩
   obtain ⟨calls,vz⟩:=Classical.axiomOfChoice step
   have rE:∀j o,ops[j]? =some o→looks o.op=true→er P o.op=false→∃e,es[posOf aE j]? =some e∧∀s ∈ gN P aE 0 ops.toList,
    qJ P (ef [] ops.toList) ops.toList aE j (((ef [] ops.toList)[j]?).getD 0) s=true→∃c ab,(fP P c∧f' P c)∧(ct P ax ops o).run c e.r (b' es ba s)=.val e.v ab:=by
    intro j o pa dI aa8
    have bH:=(Array.getElem?_eq_some_iff.1 pa).1
    obtain ⟨e,b1,cg,cZ⟩:=(vz j).2 o pa
    refine ⟨e,b1,fun s aR hm=>?_⟩
    cases ak:pS P ops.toList with
    | true=>
      rw [ak] at x3
      simp only [cond_true] at x3
      have:=KZ x3 j o (by simpa using pa) dI aa8
      rw [Nat.zero_add] at this
      obtain ⟨b6,db,cy,z2,z3⟩:=KW this s (List.mem_filter.2 ⟨aR,hm⟩)
      rw [QT,List.getElem?_map,lZ (hl j bH).2 pa] at cy
      simp only [Option.map_some,Option.some.injEq] at cy
      rw [List.getElem?_map,b1] at z2
      simp only [Option.map_some,Option.some.injEq] at z2
      subst cy;subst z2
      rw [aa3] at z3
      obtain ⟨c,v,ab,d_,_,y3,y4⟩:=bw.w1 z3
      have Sa:=y4 e.r rfl
      rw [show v=e.v from y3] at Sa
      exact ⟨c,ab,d_,Sa⟩
    | false=>
      have none:∀(l:List Oper),pS P l=false→∀(j:Nat) (o:Oper),l[j]? =some o→er P o.op=false:=by
       intro l
       induction l with
       | nil=>intro _ j o h;simp at h
       | cons x l bg=>
         intro h j o aU
         simp only [pS,Bool.or_eq_false_iff] at h
         cases j with
         | zero=>simp only [List.getElem?_cons_zero,Option.some.injEq] at aU;subst aU;exact h.1
         | succ j=>exact bg h.2 j o (by simpa using aU)
      have gT:s=ops.size:=by
       rcases r0 aR with h | ⟨B9,b6,aa,ae,aI⟩
       · simpa using h
       · have:=none _ ak B9 b6 aa
         unfold dP at ae
         rw [this] at ae
         cases ae
      have flat:∀d,d≤ops.size→b' es ba d=b' es ba 0:=by
       intro d
       induction d with
       | zero=>intro _;rfl
       | succ d bg=>
         intro aY
         obtain ⟨i,tm,mh⟩:=j1 d (by omega)
         have cn:ops[i]? =some ops[i]:=Array.getElem?_eq_getElem tm
         obtain ⟨Y4,bU,bQ,_⟩:=(vz i).2 ops[i] cn
         rw [mh] at bU bQ
         have dn:er P ops[i].op=false:=none _ ak i _ (by simp)
         rw [(sT dn bQ).1,←bg (by omega)]
         simp [b',bU]
      have akG:=(hl j bH).1
      have:e.h=b' es ba s:=by rw [gT,flat ops.size (Nat.le_refl _),←flat (posOf aE j) (by omega)];simp [b',b1]
      rw [←this]
      exact ⟨_,_,(vz j).1,cg⟩
   have hlen:es.length=ops.size:=by rw [al,ov,nf]
   have C:Cert P ax ops calls es lp h mS ba (gN P aE 0 ops.toList) order aE ops.size ops.size false:=
    ⟨hlen,Nat.le_refl _,Nat.le_refl _,hl,j1,aq,aK,fun i o cn _=>(vz i).2 o cn,
      fun i o cn=>by
       obtain ⟨cB,cy,z2,z3⟩:=Ma gv i o cn
       exact ⟨cB,cy,z2,fun _ k ok aD _=>by
        obtain ⟨mk,d_,gC,y3⟩:=z3 k ok aD
        exact ⟨mk,d_,gC,fun aB aO cc=>.inl (y3 aB aO cc)⟩⟩,
      by simpa using Ch (P:=P) (aE:=aE) (l:=ops.toList) (i:=0),
      fun j o aa ae=>by simpa using wi (aE:=aE) (i:=0) (j:=j) (l:=ops.toList) (by simpa using aa) ae,
      fun s aR=>by
       rcases r0 aR with h | ⟨j,o,aa,ae,aI⟩
       · exact .inl (.inl (by simpa using h))
       · exact .inr ⟨j,o,by simpa using aa,ae,by simpa using aI⟩,
      fun j o aa ae aI _=>rE j o aa ae aI,fun h=>absurd h (Nat.lt_irrefl _),fun h=>absurd h (Nat.lt_irrefl _)⟩
   have aD:RegRel0 E ax lp a:=⟨k.size,fun t aG=>by
    have:=congrFun vw t
    simp only [dQ] at this
    rw [this]
    exact k.an t (wx aG)⟩
   have de:∀k,¬(Array.replicate ops.size false).getD k false=true:=by
    intro k
    rw [rA,Array.getElem?_replicate]
    split<;>simp
   have iP:Holds az az es ba aE (iI ops es ba aE (Array.replicate ops.size false) 0):=
    ⟨rfl,fun _ _=>rfl,fun k aD=>(by obtain ⟨_,_,_,_,bb⟩:=aD;omega),fun k bn aD=>(by obtain ⟨_,_,_,_,bb⟩:=aD;omega)⟩
   obtain ⟨fY,dJ,g1,g2,g3,g4,g5,g6⟩:=C.advance ops.size 0 (by omega) (fun k o _ _ _=>de k) az iP (E:=E) (w:={w with drawn:=w.drawn}) (by rw [aq];exact s.same rfl rfl rfl rfl)
   have hi:dQ mS ey=r ey:=by rw [←vw];exact N6
   have fin:∀ay bk ar,E.le ay→RegRel0 ay ax mS bk→bk.defers=a.defers→a8 az ay ba ar→hp .normal bk ar:=by
    intro ay bk ar cy z2 ajR z3
    refine Gw ay bk ar cy ⟨z2.size,by rw [hi,ajR];exact k.defers.mono cy,fun t eS=>?_⟩ z3
    by_cases aG:t≤top
    · exact z2.an t aG
    · have b7:=z2.size
      rw [qu t (by omega) eS]
      simp [Rel]
   refine R6 c1 (Mc bD (fun i=>(vz i).1.1) (fun i=>(vz i).1.2) C (fQ:=E) (D:=a.defers) (fun _=>fin)
    (fun _ _ _ _ _ _ _ h=>absurd h (Nat.lt_irrefl _)) (fun h=>absurd h (Nat.lt_irrefl _)) ops.size _ a _ ?_ ?_)
   · exact Nat.le_trans List.countP_le_length (by simp)
   · refine ⟨by simp,aD.size,rfl,fun bn aD=>absurd aD (de bn),fun bn o e aD=>absurd aD (de bn),E,fY,dJ,Env.le.refl E,g1,g3,fun bn o aa ae=>⟨fun h=>absurd h (de bn),fun h=>by have:=g4 bn o aa ae (Nat.zero_le _);omega⟩,
      fun bn o _ _ h=>absurd h (de bn),g5,?_,fun t aG=>.inr ⟨fun bn o aD=>absurd aD (de bn),aD.an t aG⟩⟩
     exact g6.same rfl rfl rfl rfl
theorem Zm {rd:Option Nat} {e:dd} {Q:Exit→Act→World→Prop} {a:Act} {w:World} (h:Q (toExit e) a w):(F8 e).wpIn (b4 rd) 0 P Q a w:=by
 cases e with
 | normal=>exact wpIn_skip h
 | exit id=>exact wpIn_exit h
 | ret=>exact wpIn_ret h
theorem ahv (gg:ax≤top) (c1:P.follows .mixedOrders=true) (bD:ec P) {f:Operand} {bd:Array Tmp} {x y:Code} {r:aT} {h:af} {Q:dd→aT→af→Prop} (aU:Out ax r)
 (H:b8 P (b9 P ax (.rangeFunc f bd x y)) r h Q):∃e bt ab,Q e bt ab∧(Out ax bt∧((b9 P ax (.rangeFunc f bd x y)).plain=true→bt ey=r ey))∧zW P ax (.rangeFunc f bd x y) r h e bt ab:=by
 simp only [b9] at H ⊢
 cases gv:(nA ax bd.toList&&(noMark x&&noMark y)) with
 | false=>rw [gv] at H;exact H.elim
 | true=>
   rw [gv] at H
   simp only [cond_true,b8] at H ⊢
   simp only [Bool.and_eq_true] at gv
   obtain ⟨g,cs,bs,aH,qj,H⟩:=H
   obtain ⟨cF,dH⟩:=Bd aU
   obtain ⟨v,ab,cH,dL,aB,aO,c2⟩:=H ⟨0,none,aC h.next,ax,cF,bd.toList,x,y⟩ ⟨rfl,dH,rfl,rfl,rfl,gv.1,gv.2.1,gv.2.2,aU⟩ rfl rfl
   refine ⟨_,_,_,c2,⟨fun t aa ae=>by simp only [aT.set];rw [if_neg ae];exact aU t aa ae,fun z=>by cases z⟩,fun rd az E a w aJ k s hp Gw=>?_⟩
   have qx:rd=none:=aJ.resolve_right (by simp [noMark])
   subst qx
   have aA:Rel E (.func g cs) (a.eval f):=by
    rw [←bs]
    cases f with
    | tmp t=>
      simp only [rx]
      cases ai:Nat.ble t top with
      | false=>simp [aW.a6,Rel]
      | true=>
        simp only [cond_true,aW.a6]
        exact k.an t (wx (Nat.le_of_ble_eq_true ai))
    | const v=>exact r7 E v
    | func f=>
      simp only [rx]
      cases ai:Nat.beq f c7 with
      | true=>simp [aW.a6,Rel]
      | false=>
        simp only [cond_false,aW.a6,Rel]
        exact .inl ⟨fun e=>by subst e;simp at ai,_,rfl,by simp [a_]⟩
    | global g=>simp [rx,aW.a6,Rel]
   simp only [Rel] at aA
   rcases aA with ⟨_,ei,c4,ak⟩ | ⟨GW,_⟩
   case inr=>exact absurd GW aH
   refine (wpIn_rangeFunc fun fn _=>?_:(Code.rangeFunc f bd x y).wpIn (b4 none) 0 P hp a w)
   have f0:=s.fresh h.next (Nat.le_refl _)
   obtain ⟨fv,s9⟩:∃fv,fv=E.put (aC h.next) ⟨w.heap.size,0,0⟩:=⟨_,rfl⟩
   obtain ⟨bU,oe⟩:∃bU:World,bU={w with heap:=w.heap.push (.deferred (some []))}:=⟨_,rfl⟩
   have yt:fv (aC h.next)=some ⟨w.heap.size,0,0⟩:=by rw [s9];unfold Env.put;rw [if_pos rfl]
   have s1:a8 az fv (h.new .fb) bU:=by
    rw [s9,oe]
    refine s.alloc 0 ⟨⟨w.heap.size,0,0⟩,by unfold Env.put;rw [if_pos rfl],s.frame.size,by simp⟩
   have np:E.le fv:=by rw [s9];exact Env.jW f0
   have tD:bU.heap.size=w.heap.size+1:=by rw [oe];simp
   obtain ⟨o,gh⟩:∃o:Loop,o={state:=.ready,pending:=none,fn,tmps:=a.tmps,params:=bd,assign:=x,body:=y,defers:=w.heap.size}:=⟨_,rfl⟩
   obtain ⟨bV,qc⟩:∃bV,bV=fv.put (aC (h.next+1)) ⟨bU.heap.size,0,0⟩:=⟨_,rfl⟩
   obtain ⟨bQ,rM⟩:∃bQ:World,bQ={bU with heap:=bU.heap.push (.loop o)}:=⟨_,rfl⟩
   have f1:fv (aC (h.next+1))=none:=s1.fresh (h.next+1) (Nat.le_refl _)
   have kp:fv.le bV:=by rw [qc];exact Env.jW f1
   have yu:bV (aC (h.next+1))=some ⟨bU.heap.size,0,0⟩:=by rw [qc];unfold Env.put;rw [if_pos rfl]
   have dk:sD bV ⟨0,none,aC h.next,ax,cF,bd.toList,x,y⟩ o:=by
    subst gh
    refine ⟨rfl,rfl,rfl,rfl,rfl,k.size,fun t aG=>?_,_,kp _ _ yt,rfl⟩
    have:=congrFun dH t
    simp only [dQ] at this
    simp only [this]
    exact Rel.mono (np.trans kp) _ _ (k.an t (wx aG))
   have s2:a8 az bV ((h.new .fb).new (.dk ⟨0,none,aC h.next,ax,cF,bd.toList,x,y⟩)) bQ:=by
    rw [qc,rM]
    refine s1.alloc 0 ⟨⟨bU.heap.size,0,0⟩,o,by show fv.put (aC (h.next+1)) _ (aC (h.next+1))=_;unfold Env.put;rw [if_pos rfl],by show az.w.heap.size≤bU.heap.size;rw [tD];have:=s.frame.size;omega,by simp,?_⟩
    have:=dk
    rw [qc] at this
    exact this
   obtain ⟨gV,n2⟩:∃gV,gV=bU.heap.size:=⟨_,rfl⟩
   have a1:Rel bV (.func c7 [.ptr (aC (h.next+1)) 0]) (.func (.yield gV) #[] #[]):=by
    simp only [Rel]
    exact .inr ⟨trivial,_,_,rfl,yu,by rw [n2]⟩
   have nW:a_ bV (.func c7 [.ptr (aC (h.next+1)) 0]::cs) (.func (.yield gV) #[] #[]::ei.toList):=by
    simp only [a_]
    exact ⟨_,_,rfl,a1,a_.mono (np.trans kp) _ _ ak⟩
   have aw:Calls P g (Value.func (Fn.yield gV) #[] #[]::ei.toList).toArray bQ (rangePost (b4 none) 0 P gV hp {a with defers:=[{target:=.collected w.heap.size,args:=#[]}]++a.defers}):=(cH.calls bD qj az bV bQ _ nW s2).mono fun e ar aF=>by
    obtain ⟨ay,alG,rfl,al,_,aK⟩:=aF
    simp only [rangePost]
    have hX:=al _ _ yu
    have ai:=aK.at hX
    rw [aB] at ai
    obtain ⟨p',b6,gi,cS,ba,G'⟩:=ai
    rw [hX] at gi;cases gi
    obtain ⟨t1,t2,t3,t4,t5,t6,t7,t8⟩:=G'
    simp only at ba
    rw [←n2] at ba
    have Hg:(b6.state == LoopState.busy)=false:=by
     rw [t1]
     match mj:dL.st with
     | 0=>rfl
     | 1=>exact absurd mj aO
     | n+2=>rfl
    have kh:=(Array.getElem?_eq_some_iff.1 ba).1
    let hO:World:={ar with heap:=ar.heap.setIfInBounds gV (.loop {b6 with state:=.exhausted})}
    have fq:(Instr.endLoop gV).run P ar=.ok b6.pending hO:=by
     have qz:(setObj gV (.loop {b6 with state:=.exhausted})).run P ar=.ok () hO:=by simp only [setObj,Sem.run,ba];rfl
     simp only [Instr.endLoop,Sem.run_bind,run_getLoop ba,Result.andThen_ok,Hg,Bool.false_eq_true,if_false,qz,Sem.run_pure]
    have wR:a8 az ay (ab.set (aC (h.next+1)) .dead) hO:=by
     refine aK.gone (p:=⟨bU.heap.size,0,0⟩) (by rw [aB];rfl) hX cS (by simp [hO]) (fun j bH=>?_) rfl rfl rfl
     simp only at bH
     simp only [hO,Array.getElem?_setIfInBounds]
     rw [if_neg (fun e=>bH (by rw [←e,n2]))]
    have gw:i' ay ax (r.set (some ey) (.tuple (.ptr (aC h.next) 0::(r ey).list))) {a with defers:=[{target:=.collected w.heap.size,args:=#[]}]++a.defers}:=by
     refine ⟨k.size,?_,fun t aG=>?_⟩
     · simp only [aT.set,if_true,j5,l6,List.cons_append,List.nil_append]
       exact ⟨_,_,rfl,⟨_,al _ _ (kp _ _ yt),rfl⟩,(k.defers.mono (np.trans (kp.trans al))).list⟩
     · simp only [aT.set]
       rw [if_neg aG]
       exact Rel.mono (np.trans (kp.trans al)) _ _ (k.an t aG)
    refine ⟨b6.pending,hO,fq,?_⟩
    rw [t2]
    have fin:=Gw ay _ hO (np.trans (kp.trans al)) gw wR
    cases ib:dL.ed with
    | none=>rw [ib] at fin;exact fin
    | some e=>rw [ib] at fin;exact Zm fin
   obtain ⟨M4,abc,qj⟩:=qj
   refine ⟨gV,[{target:=.collected w.heap.size,args:=#[]}],bQ,{target:=.fn (.func g) ei,args:=#[]++#[.func (.yield gV) #[] #[]]},bQ,g,_,bQ,?_,?_,fun _ _=>trivial,?_,fun h=>by simp at h,rr.2 aw⟩
   · subst gh rM oe
     have he:=run_enterLoop_outer (P:=P) (w:=w) fn a.tmps bd x y
     rw [World.alloc,World.alloc] at he
     simp only [Array.size_push] at n2 ⊢
     rw [n2]
     exact he
   · simp only [resolve,c4,Deferred.ofValue,Sem.run_pure]
     simp [Act.eval]
   · simp only [invoke]
     have e:(#[]++#[Value.func (.yield gV) #[] #[]]:Array Value)++ei=(Value.func (.yield gV) #[] #[]::ei.toList).toArray:=by apply Array.ext';simp
     rw [e]
     exact si bD abc qj _ bQ
theorem J0 (gg:ax≤top) (c1:P.follows .mixedOrders=true) (bD:ec P):∀(c:Code) (r:aT) (h:af) (Q:dd→aT→af→Prop),Out ax r→b8 P (b9 P ax c) r h Q→
 ∃e bt ab,Q e bt ab∧(Out ax bt∧((b9 P ax c).plain=true→bt ey=r ey))∧zW P ax c r h e bt ab:=by
 intro c
 induction c with
 | skip=>
   intro r h Q aU H
   exact ⟨.normal,r,h,H,⟨aU,fun _=>rfl⟩,fun rd az E a w aJ k s hp c2=>wpIn_skip (c2 E a w (Env.le.refl E) k s)⟩
 | label l=>
   intro r h Q aU H
   exact ⟨.normal,r,h,H,⟨aU,fun _=>rfl⟩,fun rd az E a w aJ k s hp c2=>wpIn_label (c2 E a w (Env.le.refl E) k s)⟩
 | exit id=>
   intro r h Q aU H
   exact ⟨.exit id,r,h,H,⟨aU,fun _=>rfl⟩,fun rd az E a w aJ k s hp c2=>wpIn_exit (c2 E a w (Env.le.refl E) k s)⟩
 | ret=>
   intro r h Q aU H
   exact ⟨.ret,r,h,H,⟨aU,fun _=>rfl⟩,fun rd az E a w aJ k s hp c2=>wpIn_ret (c2 E a w (Env.le.refl E) k s)⟩
 | region id ops draw=>
   intro r h Q aU H
   cases draw with
   | true=>
     simp only [b9,cond_true] at H
     obtain ⟨bt,ab,al,aq,aK⟩:=Y0 gg c1 bD (id:=id) aU H
     exact ⟨.normal,bt,ab,al,⟨aq.1,fun _=>aq.2⟩,aK⟩
   | false=>
     simp only [b9,cond_false,b8] at H
     obtain ⟨bt,ab,al,aq,aK⟩:=R9 bD ops.toList 0 (fun j=>by simp) r h _ aU H
     refine ⟨.normal,bt,ab,al,⟨aq.1,fun _=>aq.2⟩,fun rd az E a w aJ k s hp c2=>?_⟩
     refine wpIn_region ?_
     have:=aK rd az E a w k s hp c2
     rw [List.range_eq_range']
     simpa using this
 | seq x y tG tH=>
   intro r h Q aU H
   simp only [b9,b8] at H
   obtain ⟨e,bp,aa,al,aq,aK⟩:=tG r h _ aU H
   cases e with
   | normal=>
     obtain ⟨e,bT,ae,b1,cg,cZ⟩:=tH bp aa Q aq.1 al
     refine ⟨e,bT,ae,b1,⟨cg.1,fun z=>by simp only [b9,bC.plain,Bool.and_eq_true] at z;exact (cg.2 z.2).trans (aq.2 z.1)⟩,fun rd az E a w aJ k s hp c2=>?_⟩
     refine wpIn_seq (aK rd az E a w (aJ.imp (fun h=>h) fun h=>by simp only [noMark,Bool.and_eq_true] at h;exact h.1) k s _ fun ay bk ar cy z2 z3=>?_).wp
     exact (cZ rd az ay bk ar (aJ.imp (fun h=>h) fun h=>by simp only [noMark,Bool.and_eq_true] at h;exact h.2) z2 z3 hp fun bV a2 bQ d_ gC y3=>c2 bV a2 bQ (cy.trans d_) gC y3).wp
   | exit i=>
     refine ⟨.exit i,bp,aa,al,⟨aq.1,fun z=>by simp only [b9,bC.plain,Bool.and_eq_true] at z;exact aq.2 z.1⟩,fun rd az E a w aJ k s hp c2=>?_⟩
     refine wpIn_seq (aK rd az E a w (aJ.imp (fun h=>h) fun h=>by simp only [noMark,Bool.and_eq_true] at h;exact h.1) k s _ fun ay bk ar cy z2 z3=>?_).wp
     exact c2 ay bk ar cy z2 z3
   | ret=>
     refine ⟨.ret,bp,aa,al,⟨aq.1,fun z=>by simp only [b9,bC.plain,Bool.and_eq_true] at z;exact aq.2 z.1⟩,fun rd az E a w aJ k s hp c2=>?_⟩
     refine wpIn_seq (aK rd az E a w (aJ.imp (fun h=>h) fun h=>by simp only [noMark,Bool.and_eq_true] at h;exact h.1) k s _ fun ay bk ar cy z2 z3=>?_).wp
     exact c2 ay bk ar cy z2 z3
 | cond c x y tG tH=>
   intro r h Q aU H
   simp only [b9,b8] at H
   cases bs:(rx c).a6 r<;>rw [bs] at H<;>simp only at H<;>try (exact H.elim)
   rename_i t
   have aw:∀E a,i' E ax r a→a.eval c=.bool t:=by
    intro E a k
    cases c with
    | tmp d=>
      simp only [rx] at bs
      cases ai:Nat.ble d top with
      | false=>rw [ai] at bs;simp [aW.a6] at bs
      | true=>
        rw [ai] at bs
        simp only [cond_true,aW.a6] at bs
        have:=k.an d (wx (Nat.le_of_ble_eq_true ai))
        rw [bs] at this
        simp only [Rel] at this
        exact this
    | const v=>
      simp only [rx,aW.a6] at bs
      have:=r7 E v
      rw [bs] at this
      simp only [Rel] at this
      exact this
    | func f=>
      simp only [rx] at bs
      cases ai:Nat.beq f c7<;>rw [ai] at bs<;>simp [aW.a6] at bs
    | global g=>simp [rx,aW.a6] at bs
   cases t with
   | true=>
     obtain ⟨e,bp,aa,al,aq,aK⟩:=tG r h Q aU (H.1 rfl)
     exact ⟨e,bp,aa,al,⟨aq.1,fun z=>by simp only [b9,bC.plain,Bool.and_eq_true] at z;exact aq.2 z.1⟩,fun rd az E a w aJ k s hp c2=>wpIn_cond_true (aw E a k) (aK rd az E a w (aJ.imp (fun h=>h) fun h=>by simp only [noMark,Bool.and_eq_true] at h;exact h.1) k s hp c2).wp⟩
   | false=>
     obtain ⟨e,bp,aa,al,aq,aK⟩:=tH r h Q aU (H.2 rfl)
     exact ⟨e,bp,aa,al,⟨aq.1,fun z=>by simp only [b9,bC.plain,Bool.and_eq_true] at z;exact aq.2 z.2⟩,fun rd az E a w aJ k s hp c2=>wpIn_cond_false (aw E a k) (aK rd az E a w (aJ.imp (fun h=>h) fun h=>by simp only [noMark,Bool.and_eq_true] at h;exact h.2) k s hp c2).wp⟩
 | block id x bg=>
   intro r h Q aU H
   simp only [b9,b8] at H
   obtain ⟨e,bp,aa,al,aq,aK⟩:=bg r h _ aU H
   refine ⟨e.leave id,bp,aa,al,aq,fun rd az E a w aJ k s hp c2=>?_⟩
   refine wpIn_block (aK rd az E a w (aJ.imp (fun h=>h) fun h=>h) k s _ fun ay bk ar cy z2 z3=>?_).wp
   cases e with
   | normal=>exact c2 ay bk ar cy z2 z3
   | ret=>exact c2 ay bk ar cy z2 z3
   | exit i=>
     have:=c2 ay bk ar cy z2 z3
     simp only [toExit,Exit.inBlock]
     simp only [dd.leave] at this
     by_cases av:i=id
     · rw [if_pos av] at this ⊢;exact this
     · rw [if_neg av] at this ⊢;exact this
 | loop x bg=>
   intro r h Q aU H
   simp only [b9,b8] at H
   obtain ⟨I,μ,qd,abY⟩:=H
   have key:∀n r h,μ r h=n→I r h→Out ax r→∃e bt ab,Q e bt ab∧(Out ax bt∧((b9 P ax (.loop x)).plain=true→bt ey=r ey))∧zW P ax (.loop x) r h e bt ab:=by
    intro n
    induction n using Nat.strongRecOn with
    | _ n acC=>
      intro r h aX qd aU
      obtain ⟨e,bp,aa,al,aq,aK⟩:=bg r h _ aU (abY r h qd)
      have body:∀(rd:Option Nat) (az:Fr) E a w,(rd=none∨noMark x=true)→i' E ax r a→a8 az E h w→∀(b:Frame) (cU:List Item) (cs:List Frame),b.roundOf=rd→∃bk ar ay,E.le ay∧i' ay ax bp bk∧a8 az ay aa ar∧ArrivesIn (Machine.fenced P (b4 rd)) P (lone (b.atR a (.code x::.inLoop x::cU)) cs w) b (.inLoop x::cU) cs (toExit e) bk ar:=by
       intro rd az E a w aJ k s b cU cs kk
       have:=(aK rd az E a w aJ k s (fun db bk ar=>db=toExit e∧∃ay,E.le ay∧i' ay ax bp bk∧a8 az ay aa ar) (fun ay bk ar al aq aK=>⟨rfl,ay,al,aq,aK⟩)).wp b (.inLoop x::cU) cs kk trivial (Jo _)
       obtain ⟨aO,a2,bQ,⟨rfl,bV,cy,z2,z3⟩,iu⟩:=this
       exact ⟨a2,bQ,bV,cy,z2,z3,iu⟩
      cases e with
      | normal=>
        obtain ⟨aaC,aN⟩:=al
        obtain ⟨aO,bT,ae,b1,cg,cZ⟩:=acC (μ bp aa) (aX ▸ aN) bp aa rfl aaC aq.1
        refine ⟨aO,bT,ae,b1,⟨cg.1,fun z=>(cg.2 z).trans (aq.2 z)⟩,fun rd az E a w aJ k s hp c2 b cU cs kk=>?_⟩
        obtain ⟨a2,bQ,bV,cy,z2,z3,iu⟩:=body rd az E a w (aJ.imp (fun h=>h) fun h=>h) k s b cU cs kk
        obtain ⟨cc,a3,kz,d_,gC⟩:=cZ rd az bV a2 bQ aJ z2 z3 hp (fun iX a4 hO t1 t2 t3=>c2 iX a4 hO (cy.trans t1) t2 t3) b cU cs kk
        exact ⟨cc,a3,kz,d_,.of_steps (StepsIn.trans iu (.one (o4 _) stepR_inLoop)) gC⟩
      | exit i=>
        refine ⟨.exit i,bp,aa,al,aq,fun rd az E a w aJ k s hp c2 b cU cs kk=>?_⟩
        obtain ⟨a2,bQ,bV,cy,z2,z3,iu⟩:=body rd az E a w (aJ.imp (fun h=>h) fun h=>h) k s b cU cs kk
        exact ⟨.exit i,a2,bQ,c2 bV a2 bQ cy z2 z3,.pass (x:=.inLoop x) rfl (fun _ _=>.inl (by simp)) iu⟩
      | ret=>
        refine ⟨.ret,bp,aa,al,aq,fun rd az E a w aJ k s hp c2 b cU cs kk=>?_⟩
        obtain ⟨a2,bQ,bV,cy,z2,z3,iu⟩:=body rd az E a w (aJ.imp (fun h=>h) fun h=>h) k s b cU cs kk
        exact ⟨.ret,a2,bQ,c2 bV a2 bQ cy z2 z3,.pass (x:=.inLoop x) rfl (fun _ _=>.inl (by simp)) iu⟩
   exact key _ r h rfl qd aU
 | scope x bg=>
   intro r h Q aU H
   obtain ⟨e,bp,aa,al,aq,aK⟩:=bg r h Q aU H
   refine ⟨e,bp,aa,al,aq,fun rd az E a w aJ k s hp c2=>?_⟩
   refine Rb (aK rd az E a w (aJ.imp (fun h=>h) fun h=>h) k s _ fun ay bk ar cy z2 z3=>?_).wp
   have:=c2 ay bk ar cy z2 z3
   cases e<;>exact this
 | rangeFunc f bd x y _ _=>intro r h Q aU H;exact ahv gg c1 bD aU H
 | goto l=>intro r h Q aU H;exact H.elim
 | refuse ajp=>intro r h Q aU H;exact H.elim
inductive xo where
 | t (n:Nat)
 | bz (n:Nat)
 | j' (n size:Nat)
 | bad
def cC (P:Program) (ax:Nat):List ResultVar→List xo
 | []=>[]
 | .tmp t::rs=>(bif Nat.ble t top&&Nat.blt t ax then .t t else .bad)::cC P ax rs
 | .cell a t::rs=>(bif Nat.ble a top&&Nat.blt a ax then (match a' P t with
   | none=>.bad
   | some aP=>bif aP.agg then .j' a aP.size else bif Nat.beq aP.size 1 then .bz a else .bad) else .bad)::cC P ax rs
noncomputable def cv (r:aT) (h:af):List xo→Option (List V)
 | []=>some []
 | x::xs=>match (match x with
   | .t n=>some (r n)
   | .bz n=>lW h (r n)
   | .j' n size=>lV size h (r n)
   | .bad=>none) with
   | none=>none
   | some v=>match cv r h xs with
     | none=>none
     | some ad=>some (v::ad)
theorem Bc {r:aT} {h:af} {cF:bx} (dH:dQ cF=r):∀{l:List ResultVar} {ad:List V},cv r h (cC P ax l)=some ad→(jw P ax l).run cF h=some ad
 | [],ad,he=>by simpa [cv,cC,jw] using he
 | .tmp t::rs,ad,he=>by
   simp only [cC,cv] at he
   unfold jw
   cases aw:(Nat.ble t top&&Nat.blt t ax) with
   | false=>rw [aw] at he;simp at he
   | true=>
     rw [aw] at he
     simp only [cond_true] at he ⊢
     cases aJ:cv r h (cC P ax rs) with
     | none=>rw [aJ] at he;cases he
     | some uv=>
       rw [aJ] at he
       rw [Bc dH aJ]
       have:=congrFun dH t
       simp only [dQ] at this
       rw [this]
       exact he
 | .cell a t::rs,ad,he=>by
   simp only [cC,cv] at he
   unfold jw
   cases aw:(Nat.ble a top&&Nat.blt a ax) with
   | false=>rw [aw] at he;simp at he
   | true=>
     rw [aw] at he
     simp only [cond_true] at he ⊢
     have N2:=congrFun dH a
     simp only [dQ] at N2
     rw [N2]
     unfold oq
     cases aG:a' P t with
     | none=>rw [aG] at he;simp at he
     | some aP=>
       rw [aG] at he
       simp only at he ⊢
       cases Nl:aP.agg with
       | true=>
         rw [Nl] at he
         simp only [cond_true] at he ⊢
         cases ak:lV aP.size h (r a) with
         | none=>rw [ak] at he;cases he
         | some v=>
           rw [ak] at he
           simp only at he ⊢
           cases aJ:cv r h (cC P ax rs) with
           | none=>rw [aJ] at he;cases he
           | some uv=>rw [aJ] at he;rw [Bc dH aJ];exact he
       | false=>
         rw [Nl] at he
         simp only [cond_false] at he ⊢
         cases aR:Nat.beq aP.size 1 with
         | false=>rw [aR] at he;simp at he
         | true=>
           rw [aR] at he
           simp only [cond_true] at he ⊢
           cases ak:lW h (r a) with
           | none=>rw [ak] at he;cases he
           | some v=>
             rw [ak] at he
             simp only at he ⊢
             cases aJ:cv r h (cC P ax rs) with
             | none=>rw [aJ] at he;cases he
             | some uv=>rw [aJ] at he;rw [Bc dH aJ];exact he
theorem CB:∀(l:List V) (t:Nat),aT.bh l t=(l[t]?).getD .bad
 | [],t=>by simp [aT.bh]
 | v::ad,t=>by
   simp only [aT.bh]
   cases t with
   | zero=>simp
   | succ t=>simp [CB ad t]
def dd.ends:dd→Prop
 | .exit _=>False
 | _=>True
noncomputable def rY:List V→af→Option af
 | [],h=>some h
 | .ptr b _::ds,h=>(match h.get b with
   | .fb=>rY ds (h.set b .dead)
   | _=>none)
 | _::_,_=>none
theorem O0 {jb:sz}:∀{ds:List V} {h ae:af},rY ds h=some ae→lT jb ds none h=.go none ae
 | [],h,ae,e=>by simp only [rY,Option.some.injEq] at e;subst e;rfl
 | d::ds,h,ae,e=>by
   cases d<;>simp only [rY] at e<;>try (cases e;done)
   rename_i b o
   simp only [lT]
   cases aH:h.get b<;>rw [aH] at e<;>simp only at e<;>try (cases e;done)
   exact O0 e
theorem LX (c1:P.follows .mixedOrders=true) (bD:ec P) {f:FuncId} {fn:Func} {c:Code} {args:List V} {h:af} {K:V→af→Prop} (aA:P.funcs[f]? =some fn) (ai:fn.body=some c)
 (gg:Nat.ble fn.ntmps top=true) (a1:Nat.beq f c7=false) (kb:Nat.ble args.length fn.ntmps=true) {rc:bC} {eK:List xo} (yv:b9 P fn.ntmps c=rc) (tC:cC P fn.ntmps fn.results.toList=eK) {Q:dd→aT→af→Prop} (H:b8 P rc (aT.bh args) h Q)
 (c2:∀e r ab,(rc.plain=true→r ey=.bad)→Q e r ab→e.ends∧∃ae,rY (r ey).list ab=some ae∧∃ad,cv r ae eK=some ad∧K (oneOf ad) ae):bB P f args h K:=by
 subst yv tC
 rw [Nat.ble_eq] at gg kb
 have aU:Out fn.ntmps (aT.bh args):=by
  intro t aG _
  rw [CB,List.getElem?_eq_none (by omega)]
  rfl
 have mq:(aT.bh args) ey=.bad:=by
  rw [CB,List.getElem?_eq_none (by unfold ey;unfold top at gg;omega)]
  rfl
 obtain ⟨e,bt,ab,aF,qu,aaX⟩:=J0 gg c1 bD c _ h _ aU H
 obtain ⟨fq,ae,abx,ad,ack,dC⟩:=c2 e bt ab (fun z=>(qu.2 z).trans mq) aF
 have hx:f≠c7:=fun e=>by subst e;simp at a1
 refine ⟨oneOf ad,ae,⟨hx,.inl ⟨⟨fn,aA,by rw [ai];rfl⟩,fun az E w xs au s=>?_⟩⟩,dC⟩
 have hlen:=au.length
 have b7:xs.toArray.size≤fn.ntmps:=by simp;omega
 refine rr.1 (callsIn_of_wp_marks (F:=b4 none) (n:=0) aA ai trivial ?_)
 have k:i' E fn.ntmps (aT.bh args) {tmps:=xs.toArray++Array.replicate (fn.ntmps-xs.toArray.size) undef,defers:=[]}:=by
  refine ⟨by simp;omega,by rw [mq];simp [j5],fun t _=>?_⟩
  rw [CB]
  cases aH:args[t]? with
  | none=>simp [Rel]
  | some v=>
    obtain ⟨y,a1,aJ⟩:=au.get t v aH
    simp only [Option.getD_some]
    have BW:t<xs.length:=(List.getElem?_eq_some_iff.1 a1).1
    rw [Array.getD_eq_getD_getElem?,Array.getElem?_append_left (by simpa using BW)]
    simp only [List.getElem?_toArray,a1,Option.getD_some]
    exact aJ
 have kd:zY P (fun _ _ _ _=>.fail):=fun f args u h fZ ab he=>by cases he
 have fin:∀ay bk ar,E.le ay→i' ay fn.ntmps bt bk→a8 az ay ab ar→LeavesInM (b4 none) 0 P fn bk.tmps (fun e ar=>∃ay x,e=.returned x∧E.le ay∧Rel ay (oneOf ad) x∧a8 az ay ae ar) bk.defers .returning ar:=by
  intro ay bk ar al aq aK
  obtain ⟨cF,dH⟩:=Bd qu.1
  have aY:T.get .bad ep cF=bt ey:=by
   have:=congrFun dH ey
   simp only [dQ] at this
   exact this
  have aD:eP ay fn.ntmps cF bk:=⟨⟨aq.size,fun t aG=>by
   have:=congrFun dH t
   simp only [dQ] at this
   rw [this]
   exact aq.an t (wx aG)⟩,by rw [aY];exact aq.defers⟩
  refine F9 (C:=⟨P,fun _=>none,fun _=>none⟩) (u:=none) bD kd aD rfl aK ?_
  rw [aY,O0 abx]
  simp only [finish]
  rw [Bc dH ack]
  exact fun bV x bQ b1 cg cZ=>⟨bV,x,rfl,al.trans b1,cg,cZ⟩
 refine (aaX none az E _ w (.inl rfl) k s _ fun ay bk ar al aq aK=>?_).wp
 have:=fin ay bk ar al aq aK
 cases e with
 | normal=>exact this
 | ret=>exact this
 | exit i=>exact fq.elim
theorem P':∀(bd:List Nat) (ad:List V) (cF:bx),dQ (qO bd ad cF)=aT.t_ bd ad (dQ cF)
 | p::bd,v::ad,cF=>by
   rw [qO,aT.t_,P' bd ad]
   congr 1
   exact C0 (some p) cF v
 | [],[],_=>rfl
 | [],_::_,_=>rfl
 | _::_,[],_=>rfl
theorem P_:∀{bd:List Nat} {ad:List V} {r:aT},nA ax bd=true→Out ax r→Out ax (aT.t_ bd ad r)
 | p::bd,v::ad,r,aj,aU=>by
   simp only [nA,List.all_cons,Bool.and_eq_true] at aj
   exact P_ (r:=r.set (some p) v) aj.2 (aU.set (d:=some p) (by simp only [eI,Bool.and_eq_true];exact aj.1) v)
 | [],[],_,_,aU=>aU
 | [],_::_,_,_,aU=>aU
 | _::_,[],_,_,aU=>aU
theorem QZ {bd:List Nat} {ad:List V} {r:aT} (aj:nA ax bd=true) (aU:Out ax r):Out ax (pA bd ad r):=fun t aa ae=>by
 unfold pA
 simp only [aT.set]
 rw [if_neg ae]
 exact P_ aj aU t aa ae
theorem ajP (gg:ax≤top) (c1:P.follows .mixedOrders=true) (bD:ec P) {l:mP} {r:aT} {bd:List Nat} {zu C6:bC} {xs:List V} {b:aQ} {h:af} {K:V→af→Prop} (F:Al P l ax r bd zu C6) (aH:h.get b=.dk l) (bb:l.st=0) (hlen:xs.length=bd.length)
 (H:b8 P zu (pA bd xs r) h fun e bp aa=>e=.normal∧aa.get b=.dk l∧b8 P C6 bp (aa.set b (.dk (l.go 1 l.ed))) fun e bT ae=>ae.get b=.dk (l.go 1 l.ed)∧(match e with
   | .normal=>K (.bool true) (ae.set b (.dk (l.go 0 none)))
   | e=>K (.bool false) (ae.set b (.dk (l.go 2 (some e)))))):xr P xs b h K:=by
 obtain ⟨zZ,DH,DI,SJ,SK,DJ,SL,SM,Ki⟩:=F
 subst SJ SK
 obtain ⟨aB,bp,aa,⟨rfl,g1,cD⟩,c_,bz⟩:=J0 gg c1 bD l.assign _ h _ (QZ DJ Ki) H
 obtain ⟨aO,bT,ae,⟨g2,SR⟩,cW,bN⟩:=J0 gg c1 bD l.body _ _ _ c_.1 cD
 obtain ⟨v,ab,fq,dC⟩:∃v ab,ug b aO ae=.val v ab∧K v ab:=by
  unfold ug
  rw [g2]
  cases aO<;>exact ⟨_,_,rfl,SR⟩
 refine ⟨v,ab,fun az E w uZ p ak s aj=>?_,dC⟩
 have ai:=s.at aj
 rw [aH] at ai
 obtain ⟨p',o,gi,cS,ba,aJ⟩:=ai
 rw [aj] at gi;cases gi
 obtain ⟨t1,t2,t3,t4,t5,t6,t7,t8⟩:=aJ
 have gR:=ak.length
 have BU:o.params.size=uZ.length:=by rw [←Array.length_toList,t3,DI,←hlen,gR]
 refine ⟨o.fn,(o.params.zip uZ.toArray).foldl (fun tmps (t,a)=>tmps.setIfInBounds t a) o.tmps,o.assign,o.body,?_,?_⟩
 · simp only [Instr.yield,Sem.run_bind,run_getLoop ba,Result.andThen_ok]
   rw [if_neg (by simp [BU])]
   rfl
 · rw [t4,t5]
   refine roundIn_of_wpIn (F:=b4 none) trivial ?_
   have pj:RegRel0 E l.ax l.r ⟨o.tmps,[]⟩:=⟨t6,t7⟩
   have xI:nA l.ax o.params.toList=true:=by rw [t3,DI,zZ];exact DJ
   have ck:=QA xI ak pj
   have k:i' E ax (pA bd xs r) ⟨(o.params.zip uZ.toArray).foldl (fun t (p:Nat × Value)=>t.setIfInBounds p.1 p.2) o.tmps,[]⟩:=by
    refine ⟨by rw [←zZ];exact ck.size,by unfold pA;simp [aT.set,j5],fun t aG=>?_⟩
    by_cases ab_:t≤top
    · have:=ck.an t ab_
      rw [t3,DI] at this
      have e:=congrFun (P' bd xs l.r) t
      rw [DH] at e
      unfold pA
      simp only [aT.set]
      rw [if_neg aG,←e]
      exact this
    · rw [QZ DJ Ki t (by omega) aG]
      simp [Rel]
   refine (bz (some p.a7) az E _ w (.inr SL) k s (Exit.then (fun pX q7=>∃zK,(Instr.beginRound p.a7).run P q7=.ok () zK∧
    l.body.wpIn (b4 (some p.a7)) 0 P (roundPost P p.a7 fun e ar=>∃ay x,e=.returned x∧E.le ay∧Rel ay v x∧a8 az ay ab ar) pX zK) (fun _ _ _=>False)) fun fv bM bU al aq aK=>?_).wp
   have hH:=al _ _ aj
   have jg:=aK.at hH
   rw [g1] at jg
   obtain ⟨b1,cX,yq,o6,o9,qw⟩:=jg
   rw [hH] at yq;cases yq
   obtain ⟨d_,gC,y3,y4,J1,y6,ajM,ajN⟩:=qw
   obtain ⟨cy,z2⟩:=aK.loop (P:=P) (dL:=l.go 1 l.ed) (b6:={cX with state:=.busy}) g1 hH o6 o9 ⟨rfl,gC,y3,y4,J1,y6,ajM,ajN⟩
   refine ⟨{bU with heap:=bU.heap.setIfInBounds p.a7 (.loop {cX with state:=.busy})},?_,?_⟩
   · have yw:cX.state=.ready:=by rw [d_,bb];rfl
     simp only [Instr.beginRound,Sem.run_bind,run_getLoop o9,Result.andThen_ok,cy,yw,Sem.run_pure]
   · refine (bN (some p.a7) az fv _ _ (.inr SM) aq z2 _ fun bV a2 bQ bo dR fG=>?_).wp
     exact QY fG (bo _ _ hH) fq fun x ar uq zG=>⟨bV,x,rfl,al.trans bo,uq,zG⟩
theorem cY (c1:P.follows .mixedOrders=true) (bD:ec P) {f:FuncId} {fn:Func} {c:Code} {args:List V} {h:af} {K:V→af→Prop} (aA:P.funcs[f]? =some fn) (ai:fn.body=some c)
 (gg:Nat.ble fn.ntmps top=true) (a1:Nat.beq f c7=false) (kb:Nat.ble args.length fn.ntmps=true) {rc:bC} {eK:List xo} (yv:b9 P fn.ntmps c=rc) (tC:cC P fn.ntmps fn.results.toList=eK) (hX:rc.plain=true)
 (H:b8 P rc (aT.bh args) h fun e r ab=>e.ends∧∃ad,cv r ab eK=some ad∧K (oneOf ad) ab):bB P f args h K:=by
 refine LX c1 bD aA ai gg a1 kb yv tC H fun e r ab aR ⟨aa,ad,ae,aI⟩=>⟨aa,ab,?_,ad,ae,aI⟩
 rw [aR hX]
 rfl
theorem YH (c1:P.follows .mixedOrders=true) (bD:ec P) {f:FuncId} {fn:Func} {c:Code} {args:List V} {h:af} {K:V→af→Prop} (aA:P.funcs[f]? =some fn) (ai:fn.body=some c)
 (gg:Nat.ble fn.ntmps top=true) (a1:Nat.beq f c7=false) (kb:Nat.ble args.length fn.ntmps=true) {rc:bC} {eK:List xo} (yv:b9 P fn.ntmps c=rc) (tC:cC P fn.ntmps fn.results.toList=eK)
 (H:b8 P rc (aT.bh args) h fun e r ab=>e.ends∧∃ae,rY (r ey).list ab=some ae∧∃ad,cv r ae eK=some ad∧K (oneOf ad) ae):bB P f args h K:=
 LX c1 bD aA ai gg a1 kb yv tC H fun e r ab _ q=>q
end
end Go.Proofs.YtkehcalakofigaaGreatDoor.aS
namespace Go.Proofs.YtkehcalakofigaaGreatDoor.aS
variable [Lay]
open Go Go.RowKit
theorem qN (i j:Nat):(aC i=aC j)=(i=j):=by
 apply propext
 exact ⟨g',fun h=>by rw [h]⟩
theorem ahg (ad:List V):∀(i off:Nat) (x:V) (t:T V),i<off→T.put .bad x (aC i) (e9 t off ad)=e9 (T.put .bad x (aC i) t) off ad:=by
 induction ad with
 | nil=>intro i off x t _;rfl
 | cons v ad bg=>
   intro i off x t h
   simp only [e9]
   rw [bg i (off+1) x _ (by omega),T.put_comm _ _ _ _ _ _ (fun e=>by rw [qN] at e;omega)]
def gp (ad:List V) (off:Nat) (ws:List V):List V:=ad.take off++ws++ad.drop (off+ws.length)
theorem QE:∀(ad:List V) (base i:Nat) (x:V) (t:T V),i<ad.length→T.put .bad x (aC (base+i)) (e9 t base ad)=e9 t base (ad.set i x)
 | [],_,i,_,_,h=>by simp at h
 | v::ad,base,i,x,t,h=>by
   cases i with
   | zero=>
     simp only [e9,Nat.add_zero,List.set]
     rw [ahg ad base (base+1) x _ (by omega),T.QD]
   | succ i=>
     simp only [e9,List.set]
     have:=QE ad (base+1) i x (T.put .bad v (aC base) t) (by simpa using h)
     rw [show base + (i+1)=base+1+i from by omega]
     exact this
theorem Rf (ad:List V) (off:Nat) (w:V) (ws:List V) (h:off<ad.length):gp (ad.set off w) (off+1) ws=gp ad off (w::ws):=by
 unfold gp
 have aa:(ad.set off w).take (off+1)=ad.take off++[w]:=by
  rw [List.take_succ_eq_append_getElem (by simpa using h)]
  simp [List.take_set_of_le]
 have ae:(ad.set off w).drop (off+1+ws.length)=ad.drop (off + (w::ws).length):=by
  rw [List.drop_set_of_lt (by omega)]
  congr 1
  simp
  omega
 rw [aa,ae]
 simp
theorem oB (ad:List V) (off:Nat) (ws:List V) (h:off+ws.length≤ad.length):(gp ad off ws).length=ad.length:=by
 unfold gp
 simp
 omega
theorem C1:∀(ws ad:List V) (off:Nat),off+ws.length≤ad.length→e9 (e9 .e 0 ad) off ws=e9 .e 0 (gp ad off ws)
 | [],ad,off,h=>by simp [e9,gp]
 | w::ws,ad,off,h=>by
   simp only [List.length_cons] at h
   simp only [e9]
   have aa:=QE ad 0 off w .e (by omega)
   rw [Nat.zero_add] at aa
   rw [aa,C1 ws (ad.set off w) (off+1) (by simp;omega),Rf ad off w ws (by omega)]
theorem xY (ad:List V):∀(off i:Nat) (t:T V),T.get .bad (aC (off+i)) (e9 t off ad)=if i<ad.length then (ad[i]?).getD .bad else T.get .bad (aC (off+i)) t:=by
 induction ad with
 | nil=>intro off i t;simp [e9]
 | cons v ad bg=>
   intro off i t
   simp only [e9]
   cases i with
   | zero=>
     have:∀(ws:List V) (o:Nat) (s:T V),off<o→T.get .bad (aC off) (e9 s o ws)=T.get .bad (aC off) s:=by
      intro ws
      induction ws with
      | nil=>intro o s _;rfl
      | cons w ws acD=>
        intro o s aU
        simp only [e9]
        rw [acD (o+1) _ (by omega),T.hd,if_neg (fun e=>by rw [qN] at e;omega)]
     rw [Nat.add_zero,this ad (off+1) _ (by omega),T.hd]
     simp
   | succ i=>
     have:=bg (off+1) i (T.put .bad v (aC off) t)
     rw [show off+1+i=off + (i+1) from by omega] at this
     rw [this,T.hd]
     have dn:¬aC off=aC (off + (i+1)):=fun e=>by rw [qN] at e;omega
     rw [if_neg dn]
     simp
theorem Bt (ad:List V):∀(n i:Nat),i+n≤ad.length→gH (e9 .e 0 ad) i n=(ad.drop i).take n
 | 0,i,h=>by simp [gH]
 | n+1,i,h=>by
   simp only [gH]
   have aa:=xY ad 0 i .e
   rw [Nat.zero_add] at aa
   rw [aa,if_pos (by omega),Bt ad n (i+1) (by omega)]
   have aY:ad.drop i=ad[i]::ad.drop (i+1):=List.drop_eq_getElem_cons (by omega)
   rw [aY,List.take_succ_cons]
   simp [List.getElem?_eq_getElem (by omega:i<ad.length)]
noncomputable def b3.bh (ad:List V) (cp:Nat) (st:Bool):b3:=.cells ad.length (e9 .e 0 ad) cp st
noncomputable def b3.ro (ad:List V):b3:=.view ad.length (e9 .e 0 ad)
def Rd (h:af) (b:aQ) (ad:List V):Prop:=h.get b=.ro ad∨∃cp st,h.get b=.bh ad cp st
def Own (h:af) (b:aQ) (ad:List V) (cp:Nat) (st:Bool):Prop:=h.get b=.bh ad cp st
theorem Rd.nC {α:Type} {h:af} {b:aQ} {ad:List V} (H:Rd h b ad) (d:α) (f:Nat→T V→α):(h.get b).nC d f=f ad.length (e9 .e 0 ad):=by
 rcases H with H | ⟨_,_,H⟩<;>rw [H]<;>rfl
theorem Own.lay {h:af} {b:aQ} {ad:List V} {cp:Nat} {st:Bool} (H:Own h b ad cp st) {off:Nat} {ws:List V} (aU:off+ws.length≤ad.length) (aa:eg ws=true):
 lay h b off ws=some (h.set b (.bh (gp ad off ws) cp st)):=by
 unfold aS.lay
 rw [show h.get b=.cells ad.length (e9 .e 0 ad) cp st from H]
 simp only [b3.on]
 rw [show Nat.ble (off+ws.length) ad.length=true from by rw [Nat.ble_eq];exact aU,aa]
 simp only [Bool.and_true,cond_true,Option.some.injEq,b3.bh]
 rw [oB ad off ws aU,C1 ws ad off aU]
theorem Own.store {h:af} {b:aQ} {ad:List V} {cp:Nat} {st:Bool} (H:Own h b ad cp st) {off n:Nat} {y:V} (aX:y.cells.length=n) (aU:off+n≤ad.length) (aa:eg y.cells=true):
 oC n h (.ptr b off) y=some (h.set b (.bh (gp ad off y.cells) cp st)):=by
 simp only [oC,V.h1]
 rw [show Nat.beq y.cells.length n=true from by rw [Nat.beq_eq];exact aX]
 simp only [cond_true]
 exact H.lay (by rw [aX];exact aU) aa
theorem Py {h:af} {ad:List V} (ak:ad.length≤top):fE h ad=some (h.new (.bh ad 0 false)):=by
 unfold fE
 rw [show Nat.ble ad.length top=true from by rw [Nat.ble_eq];exact ak]
 rfl
theorem Cr {h:af} {ad:List V} {cp:Nat} {st:Bool} (ak:ad.length≤top) (he:1≤cp):hK h ad cp st=some (h.new (.bh ad cp st)):=by
 unfold hK
 rw [show Nat.ble ad.length top=true from by rw [Nat.ble_eq];exact ak,show Nat.ble 1 cp=true from by rw [Nat.ble_eq];exact he]
 rfl
theorem gx (h:af) (k:b3):(h.new k).next=h.next+1:=rfl
theorem nx (h:af) (b:aQ) (k:b3):(h.set b k).next=h.next:=rfl
section
variable {P:Program} {r:aT} {h:af}
theorem ah' (r:aT) (d:Nat) (v:V) (t:Nat):aT.set r (some d) v t=if t=d then v else r t:=(rfl)
theorem ah_ (r:aT) (v:V):aT.set r none v=r:=(rfl)
theorem ai7 (r:aT) (u:Nat) (us:List Nat) (t:Nat):aT.trim r (u::us) t=if t=u then r t else aT.trim r us t:=(rfl)
theorem agm (v:V) (ad:List V):aT.bh (v::ad) 0=v:=(rfl)
theorem agn (v:V) (ad:List V) (t:Nat):aT.bh (v::ad) (t+1)=aT.bh ad t:=by simp [aT.bh]
theorem Zk (r:aT) (n:Nat):aW.a6 r (.t n)=r n:=(rfl)
theorem Zj (r:aT) (v:V):aW.a6 r (.c v)=v:=(rfl)
theorem PK {d:Option Nat} {g:G} {rs:List Nat} {K:aT→V→af→Prop}:bw.wp P ⟨d,g,none,rs⟩ r h K=g.wp P (r.trim rs) h fun v ab=>K (r.set d v) v ab:=(rfl)
theorem PI {d:Option Nat} {g:G} {j:Nat} {want:Bool} {rs:List Nat} {K:aT→V→af→Prop}:bw.wp P ⟨d,g,some (j,want),rs⟩ r h K=
 gate (r.trim rs j) want (g.wp P (r.trim rs) h fun v ab=>K (r.set d v) v ab) (K (r.set d (.tuple [])) (.tuple []) h):=(rfl)
variable {K:V→af→Prop}
theorem oZ (k:IntKind):mY k k=true:=by cases k<;>rfl
theorem nq (a b:Int):Int.leB a b=decide (a≤b):=oo a b
theorem F3 (a b:Int):Int.gd a b=decide (a=b):=by rw [kN];rfl
variable (k:IntKind) (a b:Int)
theorem acZ:(en.int .add).run P (.int k a) (.int k b)=some (.int k (k.wrap (a+b))):=by simp [en.run,km,ni,V.dV,oZ]
theorem ad3:(en.int .sub).run P (.int k a) (.int k b)=some (.int k (k.wrap (a-b))):=by simp [en.run,km,ni,V.dV,oZ]
theorem adL:(en.int .mul).run P (.int k a) (.int k b)=some (.int k (k.wrap (a * b))):=by simp [en.run,km,ni,V.dV,oZ]
theorem adk:(en.int .eql).run P (.int k a) (.int k b)=some (.bool (decide (a=b))):=by simp [en.run,km,lS,V.dV,oZ,F3]
theorem adO:(en.int .neq).run P (.int k a) (.int k b)=some (.bool (!decide (a=b))):=by simp [en.run,km,lS,V.dV,oZ,F3]
theorem adH:(en.int .lss).run P (.int k a) (.int k b)=some (.bool (decide (a<b))):=by
 simp [en.run,km,lS,V.dV,oZ,nq]
 rw [Bool.eq_iff_iff];simp
theorem adE:(en.int .leq).run P (.int k a) (.int k b)=some (.bool (decide (a≤b))):=by simp [en.run,km,lS,V.dV,oZ,nq]
theorem ads:(en.int .gtr).run P (.int k a) (.int k b)=some (.bool (decide (b<a))):=by
 simp [en.run,km,lS,V.dV,oZ,nq]
 rw [Bool.eq_iff_iff];simp
theorem adr:(en.int .geq).run P (.int k a) (.int k b)=some (.bool (decide (b≤a))):=by simp [en.run,km,lS,V.dV,oZ,nq]
theorem ac1 (x y:Bool):(en.vd false).run P (.bool x) (.bool y)=some (.bool (x == y)):=by simp [en.run,h9,xT,oY]
theorem ac5 (x y:Bool):(en.vd true).run P (.bool x) (.bool y)=some (.bool (!(x == y))):=by simp [en.run,h9,xT,oY]
theorem ajg (x:Bool):pF .not (.bool x)=some (.bool (!x)):=(rfl)
theorem ajf:pF .neg (.int k a)=some (.int k (k.wrap (0-a))):=(rfl)
theorem wrap_i64 {n:Int} (aa:-9223372036854775808≤n) (ae:n≤9223372036854775807):IntKind.i64.wrap n=n:=by
 exact Go.IntWalk.i64_in n ⟨aa,ae⟩
end
section
variable {P:Program} {r:aT} {h:af} {Q:dd→aT→af→Prop}
theorem XY {ops:List bw}:b8 P (.an ops) r h Q=q6 P ops r h (Q .normal):=(rfl)
theorem XZ {a b:bC}:b8 P (.seq a b) r h Q=b8 P a r h fun e bt ab=>e.andThen (b8 P b bt ab Q) (Q e bt ab):=(rfl)
theorem ai0 {A B:Prop}:dd.andThen .normal A B=A:=(rfl)
theorem ai1 {A B:Prop}:dd.andThen .ret A B=B:=(rfl)
theorem aiY {A B:Prop} {i:Nat}:dd.andThen (.exit i) A B=B:=(rfl)
theorem ae' {id:Nat}:dd.leave id .normal=.normal:=(rfl)
theorem ae_ {id:Nat}:dd.leave id .ret=.ret:=(rfl)
theorem ae9 {id i:Nat}:dd.leave id (.exit i)=if i=id then .normal else .exit i:=(rfl)
end
end Go.Proofs.YtkehcalakofigaaGreatDoor.aS
namespace Go.Proofs.YtkehcalakofigaaGreatDoor.aS
variable [Lay]
open Go Go.RowKit
def ux {α:Type} (o:Option α) (k:α→Prop):Prop:=
 match o with
 | some v=>k v
 | none=>False
@[congr] theorem alv {α:Type} {o b6:Option α} {k:α→Prop} (h:o=b6):ux o k=ux b6 k:=by rw [h]
def V.opt (c:Bool) (v:V):V:=bif c then v else .tuple []
theorem agQ (v:V):V.opt true v=v:=(rfl)
theorem agN (v:V):V.opt false v=.tuple []:=(rfl)
@[congr] theorem alb {c e3:Bool} {v cG:V} (h:c=e3) (bs:e3=true→v=cG):V.opt c v=V.opt e3 cG:=by
 subst h
 cases c with
 | true=>rw [bs rfl]
 | false=>rfl
def V.bif (t:Bool) (a b:V):V:=bif t then a else b
theorem ajk (a b:V):V.bif true a b=a:=(rfl)
theorem ajj (a b:V):V.bif false a b=b:=(rfl)
theorem Un (t a b:Bool):V.bif t (.bool a) (.bool b)=.bool (bif t then a else b):=by cases t<;>rfl
theorem Uo (t:Bool) (k:IntKind) (a b:Int):V.bif t (.int k a) (.int k b)=.int k (if t=true then a else b):=by cases t<;>rfl
theorem Uq (t x:Bool):(bif t then true else x)=(t||x):=by cases t<;>rfl
theorem Um (t x:Bool):(bif t then x else false)=(t&&x):=by cases t<;>rfl
@[congr] theorem aj4 {t uk:Bool} {a bk b bJ:V} (h:t=uk) (br:uk=true→a=bk) (ai:uk=false→b=bJ):V.bif t a b=V.bif uk bk bJ:=by
 subst h
 cases t with
 | true=>rw [V.bif,V.bif,br rfl];rfl
 | false=>rw [V.bif,V.bif,ai rfl];rfl
def eE (c:Bool) (A:Prop):Prop:=c=true→A
@[congr] theorem ajY {c e3:Bool} {A iH:Prop} (h:c=e3) (br:e3=true→A=iH):eE c A=eE e3 iH:=by
 subst h
 exact propext ⟨fun q e=>(br e) ▸ q e,fun q e=>(br e) ▸ q e⟩
theorem SV (c:Bool):eE c True=True:=propext ⟨fun _=>trivial,fun _ _=>trivial⟩
theorem SX (A:Prop):eE true A=A:=propext ⟨fun q=>q rfl,fun q _=>q⟩
theorem SW (A:Prop):eE false A=True:=propext ⟨fun _=>trivial,fun _ e=>by cases e⟩
def took (v:V) (want:Bool):Bool:=
 match v with
 | .bool b=>b == want
 | _=>false
theorem ai4 (b w:Bool):took (.bool b) w=(b == w):=(rfl)
theorem ai6 (ad:List V) (w:Bool):took (.tuple ad) w=false:=(rfl)
theorem ai5 (c:Bool) (v:V) (w:Bool):took (.opt c v) w=(c&&took v w):=by cases c<;>rfl
def e7 (v:V):Prop:=
 match v with
 | .bool _=>True
 | .tuple _=>True
 | _=>False
theorem acR (b:Bool):e7 (.bool b)=True:=(rfl)
theorem acT (ad:List V):e7 (.tuple ad)=True:=(rfl)
theorem acS (c b:Bool):e7 (.opt c (.bool b))=True:=by cases c<;>rfl
def G.nj:G→Bool
 | .dz _ | .pick .. | .build .. | .gl _ | .iQ .. | .r5 _ | .bin .. | .un .. | .fn .. | .y7 .. | .AG .. | .qB .. | .pC .. | .eC .. | .fR .. | .s5 .. | .s6 .. | .b_ .. | .rO .. | .k4 .. | .iC .. | .look .. | .ext .. | .wu _ | .dU _=>true
 | .hT (.int _) _=>true
 | .len .map _=>false
 | .len _ _=>true
 | _=>false
def V.qM {α:Type} (v:V) (d:α) (f:List V→α):α:=
 match v with
 | .agg cs=>f cs
 | _=>d
def V.zf {α:Type} (v:V) (d:α) (f:List V→α):α:=
 match v with
 | .tuple cs=>f cs
 | _=>d
def zn (c a b:V):Option V:=
 match c with
 | .bool t=>some (V.bif t a b)
 | _=>none
theorem ag7 (t:Bool) (a b:V):zn (.bool t) a b=some (V.bif t a b):=(rfl)
def g_ (n:Nat) (x:V) (bm av m3:Option V):Option V:=
 match x with
 | .bW=>wU bm av m3
 | .slice b off tP cap=>pB n b off tP cap bm av m3
 | .dK b off tP idx=>qV n b off tP idx bm av m3
 | .fu b off j0 idx=>wV b off j0 idx bm av m3
 | _=>none
noncomputable def G.kv (P:Program) (g:G) (r:aT) (h:af):Option V:=
 match g with
 | .dz x=>some (x.a6 r)
 | .pick c a b=>zn (c.a6 r) (a.a6 r) (b.a6 r)
 | .build z bd=>(match hV z (je r bd) with
   | some cs=>some (.agg cs)
   | none=>none)
 | .gl x=>lW h (x.a6 r)
 | .iQ n x=>lV n h (x.a6 r)
 | .r5 x=>r4 (x.a6 r)
 | .bin k x y=>k.run P (x.a6 r) (y.a6 r)
 | .un op x=>pF op (x.a6 r)
 | .hT (.int k) x=>(x.a6 r).dV none fun _ n=>some (.int k (k.wrap n))
 | .fn f ei=>some (.func f (aW.fc r ei))
 | .y7 f first=>some (.k6 f (aW.fc r first))
 | .AG t z ok x=>xz t z ok (x.a6 r)
 | .qB t x=>some (.iface t (x.a6 r))
 | .pC x bm av m3=>lf (x.a6 r) (aW.opt r bm) (aW.opt r av) (aW.opt r m3)
 | .eC n x bm av m3=>g_ n (x.a6 r) (aW.opt r bm) (aW.opt r av) (aW.opt r m3)
 | .fR off x=>(x.a6 r).h1 none fun b o=>some (.ptr b (o+off))
 | .s5 off x=>(x.a6 r).qM none fun cs=>cs[off]?
 | .s6 off n x=>(x.a6 r).qM none fun cs=>some (.agg ((cs.drop off).take n))
 | .b_ n x i=>(tI n).run (x.a6 r) (i.a6 r)
 | .rO n s x i=>(qD n s).run (x.a6 r) (i.a6 r)
 | .k4 x i=>qF.run (x.a6 r) (i.a6 r)
 | .iC t x i=>(qE P t).run (x.a6 r) (i.a6 r)
 | .look k z ok x i=>iR k.eq z ok h (x.a6 r) (i.a6 r)
 | .ext x i=>(x.a6 r).zf none fun ad=>ad[i]?
 | .len (.arr n) _=>some (.int .i64 n)
 | .len .str x=>(nr .string).run (x.a6 r)
 | .len .slice x=>(nr (.slice 0)).run (x.a6 r)
 | .wu args=>ju (fun b a=>!Int.leB a b) (aW.fc r args)
 | .dU args=>ju (fun b a=>!Int.leB b a) (aW.fc r args)
 | _=>none
section
variable {P:Program} {r:aT} {h:af}
theorem pure_run {g:G} (aj:g.nj=true) (call:du):g.run P call r h=aZ.of h (g.kv P r h):=by
 cases g<;>simp only [G.nj] at aj<;>try (cases aj;done)
 all_goals simp only [G.run,G.kv]
 case dz x=>rfl
 case pick c a b=>
  generalize c.a6 r=q
  cases q<;>rfl
 case build z bd=>
  generalize hV z (je r bd)=q
  cases q<;>rfl
 case hT k x=>
  cases k<;>simp only at aj<;>try (cases aj;done)
  simp only [q9.run]
  generalize x.a6 r=q
  cases q<;>rfl
 case fn f ei=>rfl
 case y7 f first=>rfl
 case qB t x=>rfl
 case eC n x bm av m3=>
  unfold g_
  generalize x.a6 r=q
  cases q<;>rfl
 case s5 off x=>
  generalize x.a6 r=q
  cases q<;>rfl
 case s6 off n x=>
  generalize x.a6 r=q
  cases q<;>rfl
 case ext x i=>
  generalize x.a6 r=q
  cases q<;>rfl
 case len k x=>
  cases k<;>simp only at aj<;>first | rfl | (cases aj;done)
theorem MX {g:G} (aj:g.nj=true) {K:V→af→Prop}:g.wp P r h K=ux (g.kv P r h) fun v=>K v h:=by
 have e:g.wp P r h K=∃v ab,g.run P jZ r h=.val v ab∧K v ab:=by
  cases g<;>first | rfl | (simp [G.nj] at aj;done)
 rw [e,pure_run aj]
 apply propext
 cases bs:g.kv P r h with
 | none=>exact ⟨fun ⟨v,ab,q,_⟩=>(by cases q),fun q=>q.elim⟩
 | some v=>
   constructor
   · rintro ⟨v1,aa,q,k⟩
     simp only [aZ.of,aZ.val.injEq] at q
     obtain ⟨rfl,rfl⟩:=q
     exact k
   · intro k
     exact ⟨v,h,rfl,k⟩
theorem PL {d:Option Nat} {g:G} {rs:List Nat} {K:aT→V→af→Prop} (aj:g.nj=true):bw.wp P ⟨d,g,none,rs⟩ r h K=ux (g.kv P (r.trim rs) h) fun v=>K (r.set d v) v h:=by
 rw [PK,MX aj]
theorem PJ {d:Option Nat} {g:G} {j:Nat} {want:Bool} {rs:List Nat} {K:aT→V→af→Prop} (aj:g.nj=true):bw.wp P ⟨d,g,some (j,want),rs⟩ r h K=
 (e7 (r.trim rs j)∧eE (took (r.trim rs j) want) ((g.kv P (r.trim rs) h).isSome=true)∧
   K (r.set d (V.opt (took (r.trim rs j) want) ((g.kv P (r.trim rs) h).getD .bad))) (V.opt (took (r.trim rs j) want) ((g.kv P (r.trim rs) h).getD .bad)) h):=by
 rw [PI,MX aj]
 generalize r.trim rs j=q
 generalize g.kv P (r.trim rs) h=o
 apply propext
 cases q<;>simp only [gate,e7,took,false_and,true_and]
 case bool b=>
  cases b<;>cases want<;>cases o<;>simp [ux,eE,V.opt]
 case tuple ad=>simp [eE,V.opt]
@[congr] theorem alA {os:List bw} {r bt:aT} {h ab:af} {K:aT→af→Prop} (aB:r=bt) (aO:h=ab):q6 P os r h K=q6 P os bt ab K:=by rw [aB,aO]
@[congr] theorem aly {os:List bw} {r bt:aT} {h ab:af} {K:List fw→aT→af→Prop} (aB:r=bt) (aO:h=ab):j4 P os r h K=j4 P os bt ab K:=by rw [aB,aO]
@[congr] theorem ajW {o:bw} {r bt:aT} {h ab:af} {K:aT→V→af→Prop} (aB:r=bt) (aO:h=ab):o.wp P r h K=o.wp P bt ab K:=by rw [aB,aO]
@[congr] theorem ajX {g:G} {r bt:aT} {h ab:af} {K:V→af→Prop} (aB:r=bt) (aO:h=ab):g.wp P r h K=g.wp P bt ab K:=by rw [aB,aO]
@[congr] theorem alx {c:bC} {r bt:aT} {h ab:af} {Q:dd→aT→af→Prop} (aB:r=bt) (aO:h=ab):b8 P c r h Q=b8 P c bt ab Q:=by rw [aB,aO]
@[congr] theorem ajU {f:FuncId} {a bk:List V} {h ab:af} {K:V→af→Prop} (aB:a=bk) (aO:h=ab):bB P f a h K=bB P f bk ab K:=by rw [aB,aO]
noncomputable def hj (k:b3) (off:Nat):Option V:=k.nC none fun n cs=>bif Nat.blt off n then some (T.get .bad (aC off) cs) else none
noncomputable def mx (n:Nat) (k:b3) (off:Nat):Option V:=k.nC none fun m cs=>bif Nat.ble (off+n) m then some (.agg (gH cs off n)) else none
theorem afs (b:aQ) (off:Nat):lW h (.ptr b off)=hj (h.get b) off:=(rfl)
theorem afu (n:Nat) (b:aQ) (off:Nat):lV n h (.ptr b off)=mx n (h.get b) off:=(rfl)
theorem OV {ad:List V} {off:Nat}:(bif Nat.blt off ad.length then some (T.get .bad (aC off) (e9 .e 0 ad)) else none)=ad[off]? :=by
 have:=xY ad 0 off .e
 rw [Nat.zero_add] at this
 rw [this]
 by_cases aU:off<ad.length
 · rw [show Nat.blt off ad.length=true from by rw [Nat.blt_eq];exact aU,if_pos aU]
   simp [List.getElem?_eq_getElem aU]
 · rw [show Nat.blt off ad.length=false from by rw [←Bool.not_eq_true,Nat.blt_eq];exact aU]
   rw [List.getElem?_eq_none (by omega)]
   rfl
theorem OT (ad:List V) (cp:Nat) (st:Bool) (off:Nat):hj (.bh ad cp st) off=ad[off]? :=OV
theorem OU (ad:List V) (off:Nat):hj (.ro ad) off=ad[off]? :=OV
theorem OX {ad:List V} {off n:Nat}:(bif Nat.ble (off+n) ad.length then some (V.agg (gH (e9 .e 0 ad) off n)) else none)=if off+n≤ad.length then some (.agg ((ad.drop off).take n)) else none:=by
 by_cases aU:off+n≤ad.length
 · rw [show Nat.ble (off+n) ad.length=true from by rw [Nat.ble_eq];exact aU,if_pos aU,Bt ad n off aU]
   rfl
 · rw [show Nat.ble (off+n) ad.length=false from by rw [←Bool.not_eq_true,Nat.ble_eq];exact aU,if_neg aU]
   rfl
theorem Ic (n:Nat) (ad:List V) (cp:Nat) (st:Bool) (off:Nat):mx n (.bh ad cp st) off=if off+n≤ad.length then some (.agg ((ad.drop off).take n)) else none:=OX
theorem OW (n:Nat) (ad:List V) (off:Nat):mx n (.ro ad) off=if off+n≤ad.length then some (.agg ((ad.drop off).take n)) else none:=OX
theorem Rd.gl {b:aQ} {ad:List V} (H:Rd h b ad) (off:Nat):hj (h.get b) off=ad[off]? :=by
 rcases H with H | ⟨_,_,H⟩<;>rw [H]
 · exact OU ad off
 · exact OT ad _ _ off
theorem Rd.iQ {b:aQ} {ad:List V} (H:Rd h b ad) (n off:Nat):mx n (h.get b) off=if off+n≤ad.length then some (.agg ((ad.drop off).take n)) else none:=by
 rcases H with H | ⟨_,_,H⟩<;>rw [H]
 · exact OW n ad off
 · exact Ic n ad _ _ off
def over:List V→List V→List V
 | ad,[]=>ad
 | [],_::_=>[]
 | _::ad,w::ws=>w::over ad ws
def nD:List V→Nat→List V→List V
 | ad,0,ws=>over ad ws
 | [],_+1,_=>[]
 | v::ad,n+1,ws=>v::nD ad n ws
theorem P4:∀(ad ws:List V),ws.length≤ad.length→over ad ws=ws++ad.drop ws.length
 | ad,[],_=>by cases ad<;>rfl
 | [],_::_,h=>by simp at h
 | v::ad,w::ws,h=>by
   simp only [over,List.cons_append,List.length_cons,List.drop_succ_cons]
   rw [P4 ad ws (by simpa using h)]
theorem Dl:∀(ad:List V) (off:Nat) (ws:List V),off+ws.length≤ad.length→nD ad off ws=gp ad off ws
 | ad,0,ws,h=>by
   cases ad<;>simp only [nD,gp,List.take_zero,List.nil_append,Nat.zero_add]<;>exact P4 _ ws (by omega)
 | [],n+1,ws,h=>by simp at h
 | v::ad,n+1,ws,h=>by
   simp only [List.length_cons] at h
   simp only [nD,gp]
   rw [Dl ad n ws (by omega)]
   simp only [gp,List.take_succ_cons,List.cons_append]
   rw [show n+1+ws.length=n+ws.length+1 from by omega,List.drop_succ_cons]
theorem aix (ad:List V) (off:Nat) (ws:List V) (h:off+ws.length≤ad.length):(nD ad off ws).length=ad.length:=by
 rw [Dl ad off ws h,oB ad off ws h]
noncomputable def wg (n:Nat) (h:af) (b:aQ) (off:Nat) (y:V) (k:b3):Option af:=
 bif Nat.beq y.cells.length n then k.on none fun m cs cp st=>
  bif Nat.ble (off+y.cells.length) m&&eg y.cells then some (h.set b (.cells m (e9 cs off y.cells) cp st)) else none else none
theorem aiF (n:Nat) (b:aQ) (off:Nat) (y:V):oC n h (.ptr b off) y=wg n h b off y (h.get b):=(rfl)
theorem aeY {n:Nat} {b:aQ} {off:Nat} {y:V} {ad:List V} {cp:Nat} {st:Bool} (aa:y.cells.length=n) (ae:eg y.cells=true) (aI:off+n≤ad.length):
 wg n h b off y (.bh ad cp st)=some (h.set b (.bh (nD ad off y.cells) cp st)):=by
 unfold wg
 rw [show Nat.beq y.cells.length n=true from by rw [Nat.beq_eq];exact aa]
 simp only [cond_true,b3.bh,b3.on]
 rw [show Nat.ble (off+y.cells.length) ad.length=true from by rw [Nat.ble_eq,aa];exact aI,ae]
 simp only [Bool.and_true,cond_true,Option.some.injEq]
 rw [aix ad off _ (by rw [aa];exact aI),Dl ad off _ (by rw [aa];exact aI),C1 _ ad off (by rw [aa];exact aI)]
theorem na (k:b3):(h.new k).get (aC h.next)=k:=by rw [af.ht,if_pos rfl]
theorem ht (b:aQ) (k:b3):(h.new k).get b=if aC h.next=b then k else h.get b:=af.ht h b k
theorem dG (b bJ:aQ) (k:b3):(h.set b k).get bJ=if b=bJ then k else h.get bJ:=af.dG h b bJ k
def Old (h:af) (b:aQ):Prop:=cd b<h.next
theorem t':∀b:aQ,aC (cd b)=b:=by
 have key:∀(b:aQ) (d:Nat),cd b+1<2 ^ d→r9 d (cd b)=b:=by
  intro b
  induction b with
  | z=>intro d aY;cases d<;>rfl
  | l p bg=>
    intro d aY
    cases d with
    | zero=>simp [cd] at aY
    | succ d=>
      have ae:2 ^ (d+1)=2 * 2 ^ d:=by rw [Nat.pow_succ];omega
      rw [ae] at aY
      simp only [cd] at aY ⊢
      simp only [r9,gE]
      rw [if_neg (by omega),if_pos (by omega),show (2 * cd p+1) / 2=cd p from by omega,bg d (by omega)]
  | r p bg=>
    intro d aY
    cases d with
    | zero=>simp [cd] at aY
    | succ d=>
      have ae:2 ^ (d+1)=2 * 2 ^ d:=by rw [Nat.pow_succ];omega
      rw [ae] at aY
      simp only [cd] at aY ⊢
      simp only [r9,gE]
      rw [if_neg (by omega),if_neg (by omega),show (2 * cd p+2) / 2-1=cd p from by omega,bg d (by omega)]
 intro b
 exact key b _ Nat.lt_log2_self
theorem IJ {b:aQ} {i:Nat} (ai:Old h b) (av:h.next≤i):(aC i=b)=False:=by
 apply propext
 constructor
 · intro e
   unfold Old at ai
   rw [←e,c6] at ai
   omega
 · exact False.elim
theorem PS {k:b3}:Old (h.new k) (aC h.next):=by unfold Old;rw [c6];exact Nat.lt_succ_self _
def Be (off:Nat) (x:V):Option V:=x.h1 none fun b o=>some (.ptr b (o+off))
theorem Zp (off:Nat) (b:aQ) (o:Nat):Be off (.ptr b o)=some (.ptr b (o+off)):=(rfl)
theorem agt {α:Type} (ad:List V) (d:α) (f:List V→α):V.zf (.tuple ad) d f=f ad:=(rfl)
theorem ags {α:Type} (ad:List V) (d:α) (f:List V→α):V.qM (.agg ad) d f=f ad:=(rfl)
def jn (x:V):Option V:=(nr (.slice 0)).run x
theorem afe (b:aQ) (off n c:Nat):jn (.slice b off n c)=some (.int .i64 n):=(rfl)
theorem afc (b:aQ) (off n c:Nat):jn (.dK b off n c)=some (.int .i64 n):=(rfl)
theorem aff (b:aQ) (off n c:Nat):jn (.fu b off n c)=some (.int .i64 0):=(rfl)
theorem afd:jn .bW=some (.int .i64 0):=(rfl)
def Cg (x:V):Option V:=(nr .string).run x
theorem afg (s:List UInt8):Cg (.str s)=some (.int .i64 s.length):=(rfl)
def hY (n:Nat) (x i:V):Option V:=(tI n).run x i
theorem HV (n:Nat) (b:aQ) (off len cap:Nat) (k:IntKind) (i:Int):hY n (.slice b off len cap) (.int k i)=if 0≤i∧i<len then some (.ptr b (off+i.toNat * n)) else none:=by
 simp only [hY,tI,V.dV,rS,nq]
 by_cases aa:0≤i<;>by_cases ae:(len:Int)≤i<;>simp [aa,ae]<;>omega
theorem HU (n:Nat) (b:aQ) (off len cap:Nat) (k:IntKind) (i:Int):hY n (.dK b off len cap) (.int k i)=if 0≤i∧i<len then some (.ptr b (off+i.toNat * n)) else none:=by
 simp only [hY,tI,V.dV,rS,nq]
 by_cases aa:0≤i<;>by_cases ae:(len:Int)≤i<;>simp [aa,ae]<;>omega
def A2 (k:IntKind) (x:V):Option V:=x.dV none fun _ n=>some (.int k (k.wrap n))
theorem YL (k bn:IntKind) (n:Int):A2 k (.int bn n)=some (.int k (k.wrap n)):=(rfl)
end
end Go.Proofs.YtkehcalakofigaaGreatDoor.aS
namespace Go.Proofs.YtkehcalakofigaaGreatDoor.aS
variable [Lay]
open Go Go.RowKit
structure hD where
 all:List bw
 asks:List (Nat × List Nat)
 es:List fw
def h2 (D:Option hD) (r:aT) (h:af) (v:V):Option hD:=
 match D with
 | none=>none
 | some d=>some ⟨d.all,d.asks,d.es++[⟨r,h,v⟩]⟩
inductive hb where
 | os (D:Option hD) (os:List bw)
 | c (b:bC)
 | a7 (id:Nat)
section
variable (P:Program)
noncomputable def sJ (D:Option hD) (es:List fw) (aA:af):Prop:=
 match D with
 | none=>True
 | some d=>nK P d.all (d.es++es) aA d.asks
noncomputable def bq:List hb→dd→aT→af→(dd→aT→af→Prop)→Prop
 | [],e,r,h,Q=>Q e r h
 | .os D os::aL,e,r,h,Q=>match e with
   | .normal=>j4 P os r h fun es bt ab=>sJ P D es ab∧bq aL .normal bt ab Q
   | e=>bq aL e r h Q
 | .c b::aL,e,r,h,Q=>match e with
   | .normal=>b8 P b r h fun e bt ab=>bq aL e bt ab Q
   | e=>bq aL e r h Q
 | .a7 id::aL,e,r,h,Q=>bq aL (e.leave id) r h Q
noncomputable def dj (o:Option V) (d:Option Nat) (D:Option hD) (os:List bw) (aL:List hb) (r:aT) (h:af) (Q:dd→aT→af→Prop):Prop:=
 ux o fun v=>bq P (.os (h2 D r h v) os::aL) .normal (r.set d v) h Q
noncomputable def iG (o:aZ) (d:Option Nat) (D:Option hD) (os:List bw) (aL:List hb) (r:aT) (bb:af) (Q:dd→aT→af→Prop):Prop:=
 match o with
 | .val v h=>bq P (.os (h2 D r bb v) os::aL) .normal (r.set d v) h Q
 | _=>False
noncomputable def fA (v:V) (want:Bool) (d:Option Nat) (g:G) (rs:List Nat) (D:Option hD) (os:List bw) (aL:List hb) (r:aT) (h:af) (Q:dd→aT→af→Prop):Prop:=
 gate v want (bq P (.os D (⟨d,g,none,rs⟩::os)::aL) .normal r h Q) (bq P (.os (h2 D r h (.tuple [])) os::aL) .normal (r.set d (.tuple [])) h Q)
noncomputable def u4 (v:V) (a b:bC) (aL:List hb) (r:aT) (h:af) (Q:dd→aT→af→Prop):Prop:=
 match v with
 | .bool t=>(t=true→bq P (.c a::aL) .normal r h Q)∧(t=false→bq P (.c b::aL) .normal r h Q)
 | _=>False
noncomputable def mW (f:FuncId) (args:List V) (d:Option Nat) (D:Option hD) (os:List bw) (aL:List hb) (r:aT) (h:af) (Q:dd→aT→af→Prop):Prop:=
 bB P f args h fun v ab=>bq P (.os (h2 D r h v) os::aL) .normal (r.set d v) ab Q
noncomputable def Dx (xs:List V) (d:Option Nat) (D:Option hD) (os:List bw) (aL:List hb) (r:aT) (h:af) (Q:dd→aT→af→Prop):Prop:=
 KJ P xs h fun v ab=>bq P (.os (h2 D r h v) os::aL) .normal (r.set d v) ab Q
noncomputable def FG (g:FuncId) (xs:List V) (d:Option Nat) (D:Option hD) (os:List bw) (aL:List hb) (r:aT) (h:af) (Q:dd→aT→af→Prop):Prop:=
 if g=4294967296 then Dx P xs d D os aL r h Q else mW P g xs d D os aL r h Q
noncomputable def u2 (f:V) (args:List V) (d:Option Nat) (D:Option hD) (os:List bw) (aL:List hb) (r:aT) (h:af) (Q:dd→aT→af→Prop):Prop:=
 ∃g xs,f.target args=some (g,xs)∧FG P g xs d D os aL r h Q
noncomputable def wj (b:bC) (aL:List hb) (r:aT) (h:af) (Q:dd→aT→af→Prop):Prop:=b8 P (.loop b) r h fun e bt ab=>bq P aL e bt ab Q
end
section
variable {P:Program} {r:aT} {h:af} {Q:dd→aT→af→Prop} {aL:List hb} {os:List bw} {D:Option hD}
theorem ahb (r:aT) (h:af) (v:V):h2 none r h v=none:=(rfl)
theorem ahc (all:List bw) (asks:List (Nat × List Nat)) (es:List fw) (r:aT) (h:af) (v:V):h2 (some ⟨all,asks,es⟩) r h v=some ⟨all,asks,es++[⟨r,h,v⟩]⟩:=(rfl)
theorem cR {c:bC} (H:bq P [.c c] .normal r h Q):b8 P c r h Q:=H
theorem adQ {e:dd}:bq P [] e r h Q=Q e r h:=(rfl)
theorem ac3 {e:dd} {id:Nat}:bq P (.a7 id::aL) e r h Q=bq P aL (e.leave id) r h Q:=(rfl)
theorem adY {a b:bC}:bq P (.c (.seq a b)::aL) .normal r h Q=bq P (.c a::.c b::aL) .normal r h Q:=by
 simp only [bq]
 rw [XZ]
 congr 1
 funext e bt ab
 cases e<;>rfl
theorem ac4 {id:Nat} {b:bC}:bq P (.c (.block id b)::aL) .normal r h Q=bq P (.c b::.a7 id::aL) .normal r h Q:=(rfl)
theorem R7:∀(os:List bw) (r:aT) (h:af) (K:aT→af→Prop),j4 P os r h (fun _ r h=>K r h)=q6 P os r h K
 | [],_,_,_=>rfl
 | o::os,r,h,K=>by
   simp only [j4,q6]
   congr 1
   funext bt v ab
   exact R7 os bt ab K
theorem adV {ops:List bw}:bq P (.c (.an ops)::aL) .normal r h Q=bq P (.os none ops::aL) .normal r h Q:=by
 simp only [bq,sJ,true_and]
 rw [R7,XY]
theorem adZ:bq P (.c .skip::aL) .normal r h Q=bq P aL .normal r h Q:=(rfl)
theorem adW:bq P (.c .ret::aL) .normal r h Q=bq P aL .ret r h Q:=(rfl)
theorem adl {i:Nat}:bq P (.c (.exit i)::aL) .normal r h Q=bq P aL (.exit i) r h Q:=(rfl)
theorem adb {b:bC}:bq P (.c b::aL) .ret r h Q=bq P aL .ret r h Q:=(rfl)
theorem ac' {b:bC} {i:Nat}:bq P (.c b::aL) (.exit i) r h Q=bq P aL (.exit i) r h Q:=(rfl)
theorem ac_ {c:aW} {a b:bC}:bq P (.c (.cond c a b)::aL) .normal r h Q=u4 P (c.a6 r) a b aL r h Q:=by
 simp only [bq,b8]
 cases c.a6 r<;>rfl
theorem aht {f:aW} {bd:List Nat} {ax:Nat} {a b:bC} {g:FuncId} {cs:List V} (bs:f.a6 r=.func g cs) (aH:g≠c7) (ai:∃fn,P.funcs[g]? =some fn∧fn.body.isSome=true)
 (H:∀l,Al P l ax r bd a b→l.st=0→l.ed=none→bB P g (.func c7 [.ptr (aC (h.next+1)) 0]::cs) ((h.new .fb).new (.dk l)) fun _ ab=>
   ∃dL,ab.get (aC (h.next+1))=.dk dL∧dL.st≠1∧bq P aL (dL.ed.getD .normal) (r.set (some ey) (.tuple (.ptr (aC h.next) 0::(r ey).list))) (ab.set (aC (h.next+1)) .dead) Q):
 bq P (.c (.range f bd ax a b)::aL) .normal r h Q:=by
 simp only [bq,b8]
 exact ⟨g,cs,bs,aH,ai,H⟩
theorem adG {b:bC}:bq P (.c (.loop b)::aL) .normal r h Q=wj P b aL r h Q:=(rfl)
theorem adj {ops:List bw} {asks:List (Nat × List Nat)}:bq P (.c (.draw ops asks)::aL) .normal r h Q=bq P (.os (some ⟨ops,asks,[]⟩) ops::aL) .normal r h Q:=(rfl)
theorem adT:bq P (.os none []::aL) .normal r h Q=bq P aL .normal r h Q:=by
 simp only [bq,j4,sJ,true_and]
theorem adi {all:List bw} {asks:List (Nat × List Nat)} {es:List fw}:bq P (.os (some ⟨all,asks,es⟩) []::aL) .normal r h Q=(nK P all es h asks∧bq P aL .normal r h Q):=by
 simp only [bq,j4,sJ,List.append_nil]
theorem uX (D:Option hD) (r:aT) (h:af) (v:V) (es:List fw) (aA:af):sJ P (h2 D r h v) es aA=sJ P D (⟨r,h,v⟩::es) aA:=by
 cases D with
 | none=>rfl
 | some d=>simp only [h2,sJ,List.append_assoc,List.cons_append,List.nil_append]
theorem gL {d:Option Nat} {g:G} {rs:List Nat} (aj:g.nj=true):bq P (.os D (⟨d,g,none,rs⟩::os)::aL) .normal r h Q=dj P (g.kv P (r.trim rs) h) d D os aL r h Q:=by
 simp only [bq,j4,dj]
 rw [PL aj]
 simp only [uX]
theorem gK {d:Option Nat} {g:G} {j:Nat} {want:Bool} {rs:List Nat} (aj:g.nj=true):bq P (.os D (⟨d,g,some (j,want),rs⟩::os)::aL) .normal r h Q=
 (e7 (r.trim rs j)∧eE (took (r.trim rs j) want) ((g.kv P (r.trim rs) h).isSome=true)∧
   dj P (some (V.opt (took (r.trim rs j) want) ((g.kv P (r.trim rs) h).getD .bad))) d D os aL r h Q):=by
 simp only [bq,j4,dj,ux]
 rw [PJ aj]
 simp only [uX]
def G.OC:G→Bool
 | .call .. | .ly .. =>true
 | _=>false
theorem k5 {d:Option Nat} {g:G} {rs:List Nat} (aj:g.nj=false) (aw:g.OC=false):bq P (.os D (⟨d,g,none,rs⟩::os)::aL) .normal r h Q=iG P (g.run P jZ (r.trim rs) h) d D os aL r h Q:=by
 simp only [bq,j4]
 rw [PK]
 have e:∀K:V→af→Prop,g.wp P (r.trim rs) h K=∃v ab,g.run P jZ (r.trim rs) h=.val v ab∧K v ab:=by
  intro K
  cases g<;>first | rfl | (simp [G.OC] at aw;done)
 rw [e]
 unfold iG
 simp only [bq,uX]
 cases g.run P jZ (r.trim rs) h with
 | fail=>exact propext ⟨fun ⟨v,ab,q,_⟩=>(by cases q),fun q=>q.elim⟩
 | cw v1 aa=>exact propext ⟨fun ⟨v,ab,q,_⟩=>(by cases q),fun q=>q.elim⟩
 | val v1 aa=>
   apply propext
   constructor
   · rintro ⟨v,ab,q,k⟩
     simp only [aZ.val.injEq] at q
     obtain ⟨rfl,rfl⟩:=q
     exact k
   · intro k
     exact ⟨_,_,rfl,k⟩
theorem jT {d:Option Nat} {g:G} {j:Nat} {want:Bool} {rs:List Nat} (aj:g.nj=false):bq P (.os D (⟨d,g,some (j,want),rs⟩::os)::aL) .normal r h Q=fA P (r.trim rs j) want d g rs D os aL r h Q:=by
 simp only [fA,bq,j4,uX]
 rw [PI]
 rfl
theorem OI {d:Option Nat} {f:FuncId} {args:List aW} {rs:List Nat}:bq P (.os D (⟨d,.call f args,none,rs⟩::os)::aL) .normal r h Q=mW P f (aW.fc (r.trim rs) args) d D os aL r h Q:=by
 simp only [mW,bq,j4,uX]
 rfl
theorem ac9 {d:Option Nat} {f:aW} {args:List aW} {rs:List Nat}:bq P (.os D (⟨d,.ly f args,none,rs⟩::os)::aL) .normal r h Q=u2 P (f.a6 (r.trim rs)) (aW.fc (r.trim rs) args) d D os aL r h Q:=by
 simp only [u2,FG,Dx,mW,bq,j4,uX]
 rfl
theorem X3 {f:V} {g:FuncId} {xs args:List V} {d:Option Nat} (aA:f.target args=some (g,xs)):u2 P f args d D os aL r h Q=FG P g xs d D os aL r h Q:=by
 apply propext
 constructor
 · rintro ⟨ZM,alF,q,k⟩
   rw [aA] at q
   simp only [Option.some.injEq,Prod.mk.injEq] at q
   obtain ⟨rfl,rfl⟩:=q
   exact k
 · intro k
   exact ⟨_,_,aA,k⟩
theorem p5 {g:FuncId} {cs args:List V} {d:Option Nat}:u2 P (.func g cs) args d D os aL r h Q=if g=4294967296 then Dx P (args++cs) d D os aL r h Q else mW P g (args++cs) d D os aL r h Q:=X3 rfl
@[congr] theorem alk {o b6:Option V} {d:Option Nat} (e:o=b6):dj P o d D os aL r h Q=dj P b6 d D os aL r h Q:=by rw [e]
@[congr] theorem alj {o b6:aZ} {d:Option Nat} (e:o=b6):iG P o d D os aL r h Q=iG P b6 d D os aL r h Q:=by rw [e]
@[congr] theorem aj' {v cG:V} {a b:bC} (e:v=cG):u4 P v a b aL r h Q=u4 P cG a b aL r h Q:=by rw [e]
@[congr] theorem akk {v cG:V} {want:Bool} {d:Option Nat} {g:G} {rs:List Nat} (e:v=cG):fA P v want d g rs D os aL r h Q=fA P cG want d g rs D os aL r h Q:=by rw [e]
@[congr] theorem aj8 {f p9:V} {args xw:List V} {d:Option Nat} (aB:f=p9) (aO:args=xw):u2 P f args d D os aL r h Q=u2 P p9 xw d D os aL r h Q:=by rw [aB,aO]
@[congr] theorem aj7 {f:FuncId} {args xw:List V} {d:Option Nat} (aO:args=xw):mW P f args d D os aL r h Q=mW P f xw d D os aL r h Q:=by rw [aO]
@[congr] theorem alz {e db:dd} {bt:aT} {ab:af} (cT:e=db) (aB:r=bt) (aO:h=ab):bq P aL e r h Q=bq P aL db bt ab Q:=by rw [cT,aB,aO]
@[congr] theorem akU {b:bC} {bt:aT} {ab:af} (aB:r=bt) (aO:h=ab):wj P b aL r h Q=wj P b aL bt ab Q:=by rw [aB,aO]
theorem aiK {v:V} {d:Option Nat}:dj P (some v) d D os aL r h Q=bq P (.os (h2 D r h v) os::aL) .normal (r.set d v) h Q:=(rfl)
theorem aip {v:V} {ab:af} {d:Option Nat}:iG P (.val v ab) d D os aL r h Q=bq P (.os (h2 D r h v) os::aL) .normal (r.set d v) ab Q:=(rfl)
theorem LO {t:Bool} {a b:bC}:u4 P (.bool t) a b aL r h Q=((t=true→bq P (.c a::aL) .normal r h Q)∧(t=false→bq P (.c b::aL) .normal r h Q)):=(rfl)
theorem MZ {b:Bool} {d:Option Nat} {g:G} {rs:List Nat}:fA P (.bool b) true d g rs D os aL r h Q=((b=true→bq P (.os D (⟨d,g,none,rs⟩::os)::aL) .normal r h Q)∧(b=false→bq P (.os (h2 D r h (.tuple [])) os::aL) .normal (r.set d (.tuple [])) h Q)):=(rfl)
theorem MY {b:Bool} {d:Option Nat} {g:G} {rs:List Nat}:fA P (.bool b) false d g rs D os aL r h Q=((b=false→bq P (.os D (⟨d,g,none,rs⟩::os)::aL) .normal r h Q)∧(b=true→bq P (.os (h2 D r h (.tuple [])) os::aL) .normal (r.set d (.tuple [])) h Q)):=(rfl)
theorem Z2 {ad:List V} {want:Bool} {d:Option Nat} {g:G} {rs:List Nat}:fA P (.tuple ad) want d g rs D os aL r h Q=bq P (.os (h2 D r h (.tuple [])) os::aL) .normal (r.set d (.tuple [])) h Q:=(rfl)
theorem ZW {c b:Bool} {want:Bool} {d:Option Nat} {f:FuncId} {args:List aW} {rs:List Nat} (v:V)
 (bs:(c&&(b == want))=true→eM P f (aW.fc (r.trim rs) args) h v h)
 (H:bq P (.os (h2 D r h (V.opt (c&&(b == want)) v)) os::aL) .normal (r.set d (V.opt (c&&(b == want)) v)) h Q):fA P (V.opt c (.bool b)) want d (.call f args) rs D os aL r h Q:=by
 unfold fA
 rw [OI]
 cases c with
 | false=>exact H
 | true=>
   simp only [V.opt,cond_true,Bool.true_and] at bs H ⊢
   cases b<;>cases want<;>simp only [gate]
   · exact ⟨fun _=>⟨v,h,bs rfl,H⟩,fun e=>by cases e⟩
   · exact ⟨fun e=>(by cases e),fun _=>H⟩
   · exact ⟨fun e=>(by cases e),fun _=>H⟩
   · exact ⟨fun _=>⟨v,h,bs rfl,H⟩,fun e=>by cases e⟩
def r8 (v:V) (o:Option af):aZ:=gO v o
theorem agR (v:V) (ab:af):r8 v (some ab)=.val v ab:=(rfl)
def La (b:Bool) (o:aZ):aZ:=bif b then o else .fail
theorem Uz (o:aZ):La true o=o:=(rfl)
noncomputable def AM (n:Nat) (h:af) (o:Option (List V)):aZ:=
 match o with
 | some cs=>r8 (.slice (aC h.next) 0 n n) (fE h cs)
 | none=>.fail
theorem UA (n:Nat) (cs:List V):AM n h (some cs)=r8 (.slice (aC h.next) 0 n n) (fE h cs):=(rfl)
theorem ahV {n size:Nat} {z:List V} {bd:List (Nat × Nat × aW)}:(G.hc n size z bd).run P jZ r h=AM n h (hV (hN z n) (je r bd)):=by
 simp only [G.run]
 cases hV (hN z n) (je r bd) with
 | none=>rfl
 | some cs=>
   simp only [AM,r8,gO]
   cases fE h cs<;>rfl
theorem Zv (cells:List V):hV cells []=some cells:=(rfl)
theorem Zt {cells:List V} {off size:Nat} {v:V} {rest:List (Nat × Nat × V)} (aa:v.e5=true) (ae:v.cells.length=size) (aI:off+size≤cells.length):
 hV cells ((off,size,v)::rest)=hV (nD cells off v.cells) rest:=by
 simp only [hV]
 rw [aa,show Nat.beq v.cells.length size=true from by rw [Nat.beq_eq];exact ae,show Nat.ble (off+v.cells.length) cells.length=true from by rw [Nat.ble_eq,ae];exact aI]
 simp only [Bool.and_true,cond_true]
 congr 1
 have fR:∀(ws cs:List V) (o:Nat),o+ws.length≤cs.length→p_ cs o ws=gp cs o ws:=by
  intro ws
  induction ws with
  | nil=>intro cs o _;simp [p_,gp]
  | cons w ws bg=>
    intro cs o aU
    simp only [List.length_cons] at aU
    simp only [p_]
    rw [bg (cs.set o w) (o+1) (by simp;omega),Rf cs o w ws (by omega)]
 rw [fR _ _ _ (by rw [ae];exact aI),Dl _ _ _ (by rw [ae];exact aI)]
def AO (o:Option (List V)):Option V:=
 match o with
 | some cs=>some (.agg cs)
 | none=>none
theorem UC (cs:List V):AO (some cs)=some (.agg cs):=(rfl)
theorem Zi:je r []=[]:=(rfl)
theorem Zh {o s:Nat} {x:aW} {bd:List (Nat × Nat × aW)}:je r ((o,s,x)::bd)=(o,s,x.a6 r)::je r bd:=(rfl)
noncomputable def pU (P:Program) (o:bw) (e:fw) (H:af):Prop:=o.wp P e.r H fun _ cG _=>cG=e.v
theorem Ua {ops:List bw} {es:List fw} {aA:af}:nK P ops es aA []=True:=(rfl)
theorem T_ {ops:List bw} {es:List fw} {aA:af} {p:Nat} {eL:List Nat} {rest:List (Nat × List Nat)}:nK P ops es aA ((p,eL)::rest)=(pV P ops[p]? es[p]? es aA eL∧nK P ops es aA rest):=(rfl)
theorem T8 {o:Option bw} {e:Option fw} {es:List fw} {aA:af}:pV P o e es aA []=True:=(rfl)
theorem T5 {o:bw} {e:fw} {es:List fw} {aA:af} {s:Nat} {eL:List Nat}:pV P (some o) (some e) es aA (s::eL)=(pU P o e (vD es aA s)∧pV P (some o) (some e) es aA eL):=(rfl)
def GL (o:Option fw) (aA:af):af:=
 match o with
 | some e=>e.h
 | none=>aA
theorem aa4 (es:List fw) (aA:af) (s:Nat):vD es aA s=GL es[s]? aA:=(rfl)
theorem aa6 (e:fw) (aA:af):GL (some e) aA=e.h:=(rfl)
theorem aa5 (aA:af):GL none aA=aA:=(rfl)
theorem KY {d:Option Nat} {g:G} {rs:List Nat} {e:fw} {H:af} (aj:g.nj=true):pU P ⟨d,g,none,rs⟩ e H=(g.kv P (e.r.trim rs) H=some e.v):=by
 unfold pU
 rw [PL aj]
 apply propext
 cases g.kv P (e.r.trim rs) H with
 | none=>exact ⟨fun q=>q.elim,fun q=>(by cases q)⟩
 | some v=>exact ⟨fun q=>by rw [show v=e.v from q],fun q=>by cases q;rfl⟩
theorem KX {d:Option Nat} {g:G} {j:Nat} {want:Bool} {rs:List Nat} {e:fw} {H:af} (aj:g.nj=true):pU P ⟨d,g,some (j,want),rs⟩ e H=
 (e7 (e.r.trim rs j)∧eE (took (e.r.trim rs j) want) ((g.kv P (e.r.trim rs) H).isSome=true)∧V.opt (took (e.r.trim rs j) want) ((g.kv P (e.r.trim rs) H).getD .bad)=e.v):=by
 unfold pU
 rw [PJ aj]
theorem T6 {d:Option Nat} {x:aW} {rs:List Nat} {e:fw} {H:af}:pU P ⟨d,.gl x,none,rs⟩ e H=(lW H (x.a6 (e.r.trim rs))=some e.v):=KY rfl
theorem T7 {d:Option Nat} {n:Nat} {x:aW} {rs:List Nat} {e:fw} {H:af}:pU P ⟨d,.iQ n x,none,rs⟩ e H=(lV n H (x.a6 (e.r.trim rs))=some e.v):=KY rfl
theorem T9 {d:Option Nat} {x:aW} {j:Nat} {want:Bool} {rs:List Nat} {e:fw} {H:af}:pU P ⟨d,.gl x,some (j,want),rs⟩ e H=
 (e7 (e.r.trim rs j)∧eE (took (e.r.trim rs j) want) ((lW H (x.a6 (e.r.trim rs))).isSome=true)∧V.opt (took (e.r.trim rs j) want) ((lW H (x.a6 (e.r.trim rs))).getD .bad)=e.v):=KX rfl
theorem T' {d:Option Nat} {n:Nat} {x:aW} {j:Nat} {want:Bool} {rs:List Nat} {e:fw} {H:af}:pU P ⟨d,.iQ n x,some (j,want),rs⟩ e H=
 (e7 (e.r.trim rs j)∧eE (took (e.r.trim rs j) want) ((lV n H (x.a6 (e.r.trim rs))).isSome=true)∧V.opt (took (e.r.trim rs j) want) ((lV n H (x.a6 (e.r.trim rs))).getD .bad)=e.v):=KX rfl
end
end Go.Proofs.YtkehcalakofigaaGreatDoor.aS
namespace Go.Proofs.YtkehcalakofigaaGreatDoor.aS
variable [Lay]
open Go Go.RowKit
noncomputable def C_ (x:V) (h:af):aZ:=
 match x with
 | .str s=>.val (.ptr (aC h.next) 0) (h.new (.iter s 0))
 | _=>.fail
theorem ahM (s:List UInt8) (h:af):C_ (.str s) h=.val (.ptr (aC h.next) 0) (h.new (.iter s 0)):=(rfl)
section
variable {P:Program} {r:aT} {h:af} {Q:dd→aT→af→Prop} {aL:List hb} {os:List bw} {D:Option hD} {d:Option Nat} {rs:List Nat}
theorem adM {x:aW}:bq P (.os D (⟨d,(.dz x),none,rs⟩::os)::aL) .normal r h Q=dj P (some (x.a6 (r.trim rs))) d D os aL r h Q:=gL rfl
theorem aeE {x:aW} {j:Nat} {want:Bool}:bq P (.os D (⟨d,(.dz x),some (j,want),rs⟩::os)::aL) .normal r h Q=(e7 (r.trim rs j)∧eE (took (r.trim rs j) want) ((some (x.a6 (r.trim rs))).isSome=true)∧dj P (some (V.opt (took (r.trim rs j) want) ((some (x.a6 (r.trim rs))).getD .bad))) d D os aL r h Q):=gK rfl
theorem adU {c a b:aW}:bq P (.os D (⟨d,(.pick c a b),none,rs⟩::os)::aL) .normal r h Q=dj P (zn (c.a6 (r.trim rs)) (a.a6 (r.trim rs)) (b.a6 (r.trim rs))) d D os aL r h Q:=gL rfl
theorem aeJ {c a b:aW} {j:Nat} {want:Bool}:bq P (.os D (⟨d,(.pick c a b),some (j,want),rs⟩::os)::aL) .normal r h Q=(e7 (r.trim rs j)∧eE (took (r.trim rs j) want) ((zn (c.a6 (r.trim rs)) (a.a6 (r.trim rs)) (b.a6 (r.trim rs))).isSome=true)∧dj P (some (V.opt (took (r.trim rs j) want) ((zn (c.a6 (r.trim rs)) (a.a6 (r.trim rs)) (b.a6 (r.trim rs))).getD .bad))) d D os aL r h Q):=gK rfl
theorem ac8 {z:List V} {bd:List (Nat × Nat × aW)}:bq P (.os D (⟨d,(.build z bd),none,rs⟩::os)::aL) .normal r h Q=dj P (AO (hV z (je (r.trim rs) bd))) d D os aL r h Q:=gL rfl
theorem aec {z:List V} {bd:List (Nat × Nat × aW)} {j:Nat} {want:Bool}:bq P (.os D (⟨d,(.build z bd),some (j,want),rs⟩::os)::aL) .normal r h Q=(e7 (r.trim rs j)∧eE (took (r.trim rs j) want) ((AO (hV z (je (r.trim rs) bd))).isSome=true)∧dj P (some (V.opt (took (r.trim rs j) want) ((AO (hV z (je (r.trim rs) bd))).getD .bad))) d D os aL r h Q):=gK rfl
theorem ady {x:aW}:bq P (.os D (⟨d,(.gl x),none,rs⟩::os)::aL) .normal r h Q=dj P (lW h (x.a6 (r.trim rs))) d D os aL r h Q:=gL rfl
theorem aeu {x:aW} {j:Nat} {want:Bool}:bq P (.os D (⟨d,(.gl x),some (j,want),rs⟩::os)::aL) .normal r h Q=(e7 (r.trim rs j)∧eE (took (r.trim rs j) want) ((lW h (x.a6 (r.trim rs))).isSome=true)∧dj P (some (V.opt (took (r.trim rs j) want) ((lW h (x.a6 (r.trim rs))).getD .bad))) d D os aL r h Q):=gK rfl
theorem adz {n:Nat} {x:aW}:bq P (.os D (⟨d,(.iQ n x),none,rs⟩::os)::aL) .normal r h Q=dj P (lV n h (x.a6 (r.trim rs))) d D os aL r h Q:=gL rfl
theorem aev {n:Nat} {x:aW} {j:Nat} {want:Bool}:bq P (.os D (⟨d,(.iQ n x),some (j,want),rs⟩::os)::aL) .normal r h Q=(e7 (r.trim rs j)∧eE (took (r.trim rs j) want) ((lV n h (x.a6 (r.trim rs))).isSome=true)∧dj P (some (V.opt (took (r.trim rs j) want) ((lV n h (x.a6 (r.trim rs))).getD .bad))) d D os aL r h Q):=gK rfl
theorem adR {x:aW}:bq P (.os D (⟨d,(.r5 x),none,rs⟩::os)::aL) .normal r h Q=dj P (r4 (x.a6 (r.trim rs))) d D os aL r h Q:=gL rfl
theorem aeH {x:aW} {j:Nat} {want:Bool}:bq P (.os D (⟨d,(.r5 x),some (j,want),rs⟩::os)::aL) .normal r h Q=(e7 (r.trim rs j)∧eE (took (r.trim rs j) want) ((r4 (x.a6 (r.trim rs))).isSome=true)∧dj P (some (V.opt (took (r.trim rs j) want) ((r4 (x.a6 (r.trim rs))).getD .bad))) d D os aL r h Q):=gK rfl
theorem ac2 {k:en} {x y:aW}:bq P (.os D (⟨d,(.bin k x y),none,rs⟩::os)::aL) .normal r h Q=dj P (k.run P (x.a6 (r.trim rs)) (y.a6 (r.trim rs))) d D os aL r h Q:=gL rfl
theorem ad_ {k:en} {x y:aW} {j:Nat} {want:Bool}:bq P (.os D (⟨d,(.bin k x y),some (j,want),rs⟩::os)::aL) .normal r h Q=(e7 (r.trim rs j)∧eE (took (r.trim rs j) want) ((k.run P (x.a6 (r.trim rs)) (y.a6 (r.trim rs))).isSome=true)∧dj P (some (V.opt (took (r.trim rs j) want) ((k.run P (x.a6 (r.trim rs)) (y.a6 (r.trim rs))).getD .bad))) d D os aL r h Q):=gK rfl
theorem ad4 {o:UnOp} {x:aW}:bq P (.os D (⟨d,(.un o x),none,rs⟩::os)::aL) .normal r h Q=dj P (pF o (x.a6 (r.trim rs))) d D os aL r h Q:=gL rfl
theorem aeO {o:UnOp} {x:aW} {j:Nat} {want:Bool}:bq P (.os D (⟨d,(.un o x),some (j,want),rs⟩::os)::aL) .normal r h Q=(e7 (r.trim rs j)∧eE (took (r.trim rs j) want) ((pF o (x.a6 (r.trim rs))).isSome=true)∧dj P (some (V.opt (took (r.trim rs j) want) ((pF o (x.a6 (r.trim rs))).getD .bad))) d D os aL r h Q):=gK rfl
theorem adq {f:FuncId} {cs:List aW}:bq P (.os D (⟨d,(.fn f cs),none,rs⟩::os)::aL) .normal r h Q=dj P (some (V.func f (aW.fc (r.trim rs) cs))) d D os aL r h Q:=gL rfl
theorem aeo {f:FuncId} {cs:List aW} {j:Nat} {want:Bool}:bq P (.os D (⟨d,(.fn f cs),some (j,want),rs⟩::os)::aL) .normal r h Q=(e7 (r.trim rs j)∧eE (took (r.trim rs j) want) ((some (V.func f (aW.fc (r.trim rs) cs))).isSome=true)∧dj P (some (V.opt (took (r.trim rs j) want) ((some (V.func f (aW.fc (r.trim rs) cs))).getD .bad))) d D os aL r h Q):=gK rfl
theorem adv {t:TypeId} {x:aW}:bq P (.os D (⟨d,(.qB t x),none,rs⟩::os)::aL) .normal r h Q=dj P (some (V.iface t (x.a6 (r.trim rs)))) d D os aL r h Q:=gL rfl
theorem aer {t:TypeId} {x:aW} {j:Nat} {want:Bool}:bq P (.os D (⟨d,(.qB t x),some (j,want),rs⟩::os)::aL) .normal r h Q=(e7 (r.trim rs j)∧eE (took (r.trim rs j) want) ((some (V.iface t (x.a6 (r.trim rs)))).isSome=true)∧dj P (some (V.opt (took (r.trim rs j) want) ((some (V.iface t (x.a6 (r.trim rs)))).getD .bad))) d D os aL r h Q):=gK rfl
theorem ad1 {x:aW} {bm av m3:Option aW}:bq P (.os D (⟨d,(.pC x bm av m3),none,rs⟩::os)::aL) .normal r h Q=dj P (lf (x.a6 (r.trim rs)) (aW.opt (r.trim rs) bm) (aW.opt (r.trim rs) av) (aW.opt (r.trim rs) m3)) d D os aL r h Q:=gL rfl
theorem aeM {x:aW} {bm av m3:Option aW} {j:Nat} {want:Bool}:bq P (.os D (⟨d,(.pC x bm av m3),some (j,want),rs⟩::os)::aL) .normal r h Q=(e7 (r.trim rs j)∧eE (took (r.trim rs j) want) ((lf (x.a6 (r.trim rs)) (aW.opt (r.trim rs) bm) (aW.opt (r.trim rs) av) (aW.opt (r.trim rs) m3)).isSome=true)∧dj P (some (V.opt (took (r.trim rs j) want) ((lf (x.a6 (r.trim rs)) (aW.opt (r.trim rs) bm) (aW.opt (r.trim rs) av) (aW.opt (r.trim rs) m3)).getD .bad))) d D os aL r h Q):=gK rfl
theorem ad0 {n:Nat} {x:aW} {bm av m3:Option aW}:bq P (.os D (⟨d,(.eC n x bm av m3),none,rs⟩::os)::aL) .normal r h Q=dj P (g_ n (x.a6 (r.trim rs)) (aW.opt (r.trim rs) bm) (aW.opt (r.trim rs) av) (aW.opt (r.trim rs) m3)) d D os aL r h Q:=gL rfl
theorem aeL {n:Nat} {x:aW} {bm av m3:Option aW} {j:Nat} {want:Bool}:bq P (.os D (⟨d,(.eC n x bm av m3),some (j,want),rs⟩::os)::aL) .normal r h Q=(e7 (r.trim rs j)∧eE (took (r.trim rs j) want) ((g_ n (x.a6 (r.trim rs)) (aW.opt (r.trim rs) bm) (aW.opt (r.trim rs) av) (aW.opt (r.trim rs) m3)).isSome=true)∧dj P (some (V.opt (took (r.trim rs j) want) ((g_ n (x.a6 (r.trim rs)) (aW.opt (r.trim rs) bm) (aW.opt (r.trim rs) av) (aW.opt (r.trim rs) m3)).getD .bad))) d D os aL r h Q):=gK rfl
theorem adn {o:Nat} {x:aW}:bq P (.os D (⟨d,(.fR o x),none,rs⟩::os)::aL) .normal r h Q=dj P (Be o (x.a6 (r.trim rs))) d D os aL r h Q:=gL rfl
theorem ael {o:Nat} {x:aW} {j:Nat} {want:Bool}:bq P (.os D (⟨d,(.fR o x),some (j,want),rs⟩::os)::aL) .normal r h Q=(e7 (r.trim rs j)∧eE (took (r.trim rs j) want) ((Be o (x.a6 (r.trim rs))).isSome=true)∧dj P (some (V.opt (took (r.trim rs j) want) ((Be o (x.a6 (r.trim rs))).getD .bad))) d D os aL r h Q):=gK rfl
theorem ado {o:Nat} {x:aW}:bq P (.os D (⟨d,(.s5 o x),none,rs⟩::os)::aL) .normal r h Q=dj P ((x.a6 (r.trim rs)).qM none fun cs=>cs[o]?) d D os aL r h Q:=gL rfl
theorem aem {o:Nat} {x:aW} {j:Nat} {want:Bool}:bq P (.os D (⟨d,(.s5 o x),some (j,want),rs⟩::os)::aL) .normal r h Q=(e7 (r.trim rs j)∧eE (took (r.trim rs j) want) (((x.a6 (r.trim rs)).qM none fun cs=>cs[o]?).isSome=true)∧dj P (some (V.opt (took (r.trim rs j) want) (((x.a6 (r.trim rs)).qM none fun cs=>cs[o]?).getD .bad))) d D os aL r h Q):=gK rfl
theorem adp {o n:Nat} {x:aW}:bq P (.os D (⟨d,(.s6 o n x),none,rs⟩::os)::aL) .normal r h Q=dj P ((x.a6 (r.trim rs)).qM none fun cs=>some (V.agg ((cs.drop o).take n))) d D os aL r h Q:=gL rfl
theorem aen {o n:Nat} {x:aW} {j:Nat} {want:Bool}:bq P (.os D (⟨d,(.s6 o n x),some (j,want),rs⟩::os)::aL) .normal r h Q=(e7 (r.trim rs j)∧eE (took (r.trim rs j) want) (((x.a6 (r.trim rs)).qM none fun cs=>some (V.agg ((cs.drop o).take n))).isSome=true)∧dj P (some (V.opt (took (r.trim rs j) want) (((x.a6 (r.trim rs)).qM none fun cs=>some (V.agg ((cs.drop o).take n))).getD .bad))) d D os aL r h Q):=gK rfl
theorem adt {n:Nat} {x i:aW}:bq P (.os D (⟨d,(.b_ n x i),none,rs⟩::os)::aL) .normal r h Q=dj P (hY n (x.a6 (r.trim rs)) (i.a6 (r.trim rs))) d D os aL r h Q:=gL rfl
theorem aep {n:Nat} {x i:aW} {j:Nat} {want:Bool}:bq P (.os D (⟨d,(.b_ n x i),some (j,want),rs⟩::os)::aL) .normal r h Q=(e7 (r.trim rs j)∧eE (took (r.trim rs j) want) ((hY n (x.a6 (r.trim rs)) (i.a6 (r.trim rs))).isSome=true)∧dj P (some (V.opt (took (r.trim rs j) want) ((hY n (x.a6 (r.trim rs)) (i.a6 (r.trim rs))).getD .bad))) d D os aL r h Q):=gK rfl
theorem adu {m n:Nat} {x i:aW}:bq P (.os D (⟨d,(.rO m n x i),none,rs⟩::os)::aL) .normal r h Q=dj P ((qD m n).run (x.a6 (r.trim rs)) (i.a6 (r.trim rs))) d D os aL r h Q:=gL rfl
theorem aeq {m n:Nat} {x i:aW} {j:Nat} {want:Bool}:bq P (.os D (⟨d,(.rO m n x i),some (j,want),rs⟩::os)::aL) .normal r h Q=(e7 (r.trim rs j)∧eE (took (r.trim rs j) want) (((qD m n).run (x.a6 (r.trim rs)) (i.a6 (r.trim rs))).isSome=true)∧dj P (some (V.opt (took (r.trim rs j) want) (((qD m n).run (x.a6 (r.trim rs)) (i.a6 (r.trim rs))).getD .bad))) d D os aL r h Q):=gK rfl
theorem adx {x i:aW}:bq P (.os D (⟨d,(.k4 x i),none,rs⟩::os)::aL) .normal r h Q=dj P (qF.run (x.a6 (r.trim rs)) (i.a6 (r.trim rs))) d D os aL r h Q:=gL rfl
theorem aet {x i:aW} {j:Nat} {want:Bool}:bq P (.os D (⟨d,(.k4 x i),some (j,want),rs⟩::os)::aL) .normal r h Q=(e7 (r.trim rs j)∧eE (took (r.trim rs j) want) ((qF.run (x.a6 (r.trim rs)) (i.a6 (r.trim rs))).isSome=true)∧dj P (some (V.opt (took (r.trim rs j) want) ((qF.run (x.a6 (r.trim rs)) (i.a6 (r.trim rs))).getD .bad))) d D os aL r h Q):=gK rfl
theorem adw {t:TypeId} {x i:aW}:bq P (.os D (⟨d,(.iC t x i),none,rs⟩::os)::aL) .normal r h Q=dj P ((qE P t).run (x.a6 (r.trim rs)) (i.a6 (r.trim rs))) d D os aL r h Q:=gL rfl
theorem aes {t:TypeId} {x i:aW} {j:Nat} {want:Bool}:bq P (.os D (⟨d,(.iC t x i),some (j,want),rs⟩::os)::aL) .normal r h Q=(e7 (r.trim rs j)∧eE (took (r.trim rs j) want) (((qE P t).run (x.a6 (r.trim rs)) (i.a6 (r.trim rs))).isSome=true)∧dj P (some (V.opt (took (r.trim rs j) want) (((qE P t).run (x.a6 (r.trim rs)) (i.a6 (r.trim rs))).getD .bad))) d D os aL r h Q):=gK rfl
theorem adF {k:kE} {z:V} {ok:Bool} {x i:aW}:bq P (.os D (⟨d,(.look k z ok x i),none,rs⟩::os)::aL) .normal r h Q=dj P (iR k.eq z ok h (x.a6 (r.trim rs)) (i.a6 (r.trim rs))) d D os aL r h Q:=gL rfl
theorem aeA {k:kE} {z:V} {ok:Bool} {x i:aW} {j:Nat} {want:Bool}:bq P (.os D (⟨d,(.look k z ok x i),some (j,want),rs⟩::os)::aL) .normal r h Q=(e7 (r.trim rs j)∧eE (took (r.trim rs j) want) ((iR k.eq z ok h (x.a6 (r.trim rs)) (i.a6 (r.trim rs))).isSome=true)∧dj P (some (V.opt (took (r.trim rs j) want) ((iR k.eq z ok h (x.a6 (r.trim rs)) (i.a6 (r.trim rs))).getD .bad))) d D os aL r h Q):=gK rfl
theorem adm {x:aW} {i:Nat}:bq P (.os D (⟨d,(.ext x i),none,rs⟩::os)::aL) .normal r h Q=dj P ((x.a6 (r.trim rs)).zf none fun ad=>ad[i]?) d D os aL r h Q:=gL rfl
theorem aek {x:aW} {i:Nat} {j:Nat} {want:Bool}:bq P (.os D (⟨d,(.ext x i),some (j,want),rs⟩::os)::aL) .normal r h Q=(e7 (r.trim rs j)∧eE (took (r.trim rs j) want) (((x.a6 (r.trim rs)).zf none fun ad=>ad[i]?).isSome=true)∧dj P (some (V.opt (took (r.trim rs j) want) (((x.a6 (r.trim rs)).zf none fun ad=>ad[i]?).getD .bad))) d D os aL r h Q):=gK rfl
theorem adK {args:List aW}:bq P (.os D (⟨d,(.wu args),none,rs⟩::os)::aL) .normal r h Q=dj P (ju (fun b a=>!Int.leB a b) (aW.fc (r.trim rs) args)) d D os aL r h Q:=gL rfl
theorem aeD {args:List aW} {j:Nat} {want:Bool}:bq P (.os D (⟨d,(.wu args),some (j,want),rs⟩::os)::aL) .normal r h Q=(e7 (r.trim rs j)∧eE (took (r.trim rs j) want) ((ju (fun b a=>!Int.leB a b) (aW.fc (r.trim rs) args)).isSome=true)∧dj P (some (V.opt (took (r.trim rs j) want) ((ju (fun b a=>!Int.leB a b) (aW.fc (r.trim rs) args)).getD .bad))) d D os aL r h Q):=gK rfl
theorem adN {args:List aW}:bq P (.os D (⟨d,(.dU args),none,rs⟩::os)::aL) .normal r h Q=dj P (ju (fun b a=>!Int.leB b a) (aW.fc (r.trim rs) args)) d D os aL r h Q:=gL rfl
theorem aeF {args:List aW} {j:Nat} {want:Bool}:bq P (.os D (⟨d,(.dU args),some (j,want),rs⟩::os)::aL) .normal r h Q=(e7 (r.trim rs j)∧eE (took (r.trim rs j) want) ((ju (fun b a=>!Int.leB b a) (aW.fc (r.trim rs) args)).isSome=true)∧dj P (some (V.opt (took (r.trim rs j) want) ((ju (fun b a=>!Int.leB b a) (aW.fc (r.trim rs) args)).getD .bad))) d D os aL r h Q):=gK rfl
theorem adf {k:IntKind} {x:aW}:bq P (.os D (⟨d,(.hT (.int k) x),none,rs⟩::os)::aL) .normal r h Q=dj P (A2 k (x.a6 (r.trim rs))) d D os aL r h Q:=gL rfl
theorem aeh {k:IntKind} {x:aW} {j:Nat} {want:Bool}:bq P (.os D (⟨d,(.hT (.int k) x),some (j,want),rs⟩::os)::aL) .normal r h Q=(e7 (r.trim rs j)∧eE (took (r.trim rs j) want) ((A2 k (x.a6 (r.trim rs))).isSome=true)∧dj P (some (V.opt (took (r.trim rs j) want) ((A2 k (x.a6 (r.trim rs))).getD .bad))) d D os aL r h Q):=gK rfl
theorem adC {x:aW}:bq P (.os D (⟨d,(.len .slice x),none,rs⟩::os)::aL) .normal r h Q=dj P (jn (x.a6 (r.trim rs))) d D os aL r h Q:=gL rfl
theorem aey {x:aW} {j:Nat} {want:Bool}:bq P (.os D (⟨d,(.len .slice x),some (j,want),rs⟩::os)::aL) .normal r h Q=(e7 (r.trim rs j)∧eE (took (r.trim rs j) want) ((jn (x.a6 (r.trim rs))).isSome=true)∧dj P (some (V.opt (took (r.trim rs j) want) ((jn (x.a6 (r.trim rs))).getD .bad))) d D os aL r h Q):=gK rfl
theorem adD {x:aW}:bq P (.os D (⟨d,(.len .str x),none,rs⟩::os)::aL) .normal r h Q=dj P (Cg (x.a6 (r.trim rs))) d D os aL r h Q:=gL rfl
theorem aez {x:aW} {j:Nat} {want:Bool}:bq P (.os D (⟨d,(.len .str x),some (j,want),rs⟩::os)::aL) .normal r h Q=(e7 (r.trim rs j)∧eE (took (r.trim rs j) want) ((Cg (x.a6 (r.trim rs))).isSome=true)∧dj P (some (V.opt (took (r.trim rs j) want) ((Cg (x.a6 (r.trim rs))).getD .bad))) d D os aL r h Q):=gK rfl
theorem adA {n:Nat} {x:aW}:bq P (.os D (⟨d,(.len (.arr n) x),none,rs⟩::os)::aL) .normal r h Q=dj P (some (V.int .i64 n)) d D os aL r h Q:=gL rfl
theorem aew {n:Nat} {x:aW} {j:Nat} {want:Bool}:bq P (.os D (⟨d,(.len (.arr n) x),some (j,want),rs⟩::os)::aL) .normal r h Q=(e7 (r.trim rs j)∧eE (took (r.trim rs j) want) ((some (V.int .i64 n)).isSome=true)∧dj P (some (V.opt (took (r.trim rs j) want) ((some (V.int .i64 n)).getD .bad))) d D os aL r h Q):=gK rfl
theorem adP {z:List V}:bq P (.os D (⟨d,(.new z),none,rs⟩::os)::aL) .normal r h Q=iG P (r8 (.ptr (aC h.next) 0) (fE h z)) d D os aL r h Q:=k5 rfl rfl
theorem aeG {z:List V} {j:Nat} {want:Bool}:bq P (.os D (⟨d,(.new z),some (j,want),rs⟩::os)::aL) .normal r h Q=fA P (r.trim rs j) want d (.new z) rs D os aL r h Q:=jT rfl
theorem ac6 {x:aW}:bq P (.os D (⟨d,(.box x),none,rs⟩::os)::aL) .normal r h Q=iG P (La (x.a6 (r.trim rs)).e5 (r8 (.ptr (aC h.next) 0) (fE h (x.a6 (r.trim rs)).cells))) d D os aL r h Q:=k5 rfl rfl
theorem aea {x:aW} {j:Nat} {want:Bool}:bq P (.os D (⟨d,(.box x),some (j,want),rs⟩::os)::aL) .normal r h Q=fA P (r.trim rs j) want d (.box x) rs D os aL r h Q:=jT rfl
theorem ac7 {n m:Nat} {z:List V} {bd:List (Nat × Nat × aW)}:bq P (.os D (⟨d,(.hc n m z bd),none,rs⟩::os)::aL) .normal r h Q=iG P (AM n h (hV (hN z n) (je (r.trim rs) bd))) d D os aL r h Q:=by rw [k5 rfl rfl,ahV]
theorem aeb {n m:Nat} {z:List V} {bd:List (Nat × Nat × aW)} {j:Nat} {want:Bool}:bq P (.os D (⟨d,(.hc n m z bd),some (j,want),rs⟩::os)::aL) .normal r h Q=fA P (r.trim rs j) want d (.hc n m z bd) rs D os aL r h Q:=jT rfl
theorem ad2 {n:Nat} {x y:aW}:bq P (.os D (⟨d,(.st n x y),none,rs⟩::os)::aL) .normal r h Q=iG P (r8 .bad (oC n h (x.a6 (r.trim rs)) (y.a6 (r.trim rs)))) d D os aL r h Q:=k5 rfl rfl
theorem aeN {n:Nat} {x y:aW} {j:Nat} {want:Bool}:bq P (.os D (⟨d,(.st n x y),some (j,want),rs⟩::os)::aL) .normal r h Q=fA P (r.trim rs j) want d (.st n x y) rs D os aL r h Q:=jT rfl
theorem adJ {n:Nat} {z:List V} {l c:aW}:bq P (.os D (⟨d,(.wq n z l c),none,rs⟩::os)::aL) .normal r h Q=iG P (wm n z (l.a6 (r.trim rs)) (c.a6 (r.trim rs)) h) d D os aL r h Q:=k5 rfl rfl
theorem aeC {n:Nat} {z:List V} {l c:aW} {j:Nat} {want:Bool}:bq P (.os D (⟨d,(.wq n z l c),some (j,want),rs⟩::os)::aL) .normal r h Q=fA P (r.trim rs j) want d (.wq n z l c) rs D os aL r h Q:=jT rfl
theorem ad5 {k:kE} {m i x:aW}:bq P (.os D (⟨d,(.pG k m i x),none,rs⟩::os)::aL) .normal r h Q=iG P (r8 .bad (nG k.eq h (m.a6 (r.trim rs)) (i.a6 (r.trim rs)) (x.a6 (r.trim rs)))) d D os aL r h Q:=k5 rfl rfl
theorem aeP {k:kE} {m i x:aW} {j:Nat} {want:Bool}:bq P (.os D (⟨d,(.pG k m i x),some (j,want),rs⟩::os)::aL) .normal r h Q=fA P (r.trim rs j) want d (.pG k m i x) rs D os aL r h Q:=jT rfl
theorem adI {x:Option aW}:bq P (.os D (⟨d,(.tQ x),none,rs⟩::os)::aL) .normal r h Q=iG P (r1 (aW.opt (r.trim rs) x) h) d D os aL r h Q:=k5 rfl rfl
theorem aeB {x:Option aW} {j:Nat} {want:Bool}:bq P (.os D (⟨d,(.tQ x),some (j,want),rs⟩::os)::aL) .normal r h Q=fA P (r.trim rs j) want d (.tQ x) rs D os aL r h Q:=jT rfl
theorem adX {x:aW}:bq P (.os D (⟨d,(.wN x),none,rs⟩::os)::aL) .normal r h Q=iG P (C_ (x.a6 (r.trim rs)) h) d D os aL r h Q:=(k5 rfl rfl).trans (by first | rfl | (unfold C_;simp only [G.run];cases x.a6 (r.trim rs)<;>rfl) | (unfold C_;cases x.a6 (r.trim rs)<;>rfl))
theorem aeK {x:aW} {j:Nat} {want:Bool}:bq P (.os D (⟨d,(.wN x),some (j,want),rs⟩::os)::aL) .normal r h Q=fA P (r.trim rs j) want d (.wN x) rs D os aL r h Q:=jT rfl
theorem adS {x:aW}:bq P (.os D (⟨d,(.wB x),none,rs⟩::os)::aL) .normal r h Q=iG P (tT (x.a6 (r.trim rs)) h) d D os aL r h Q:=k5 rfl rfl
theorem aeI {x:aW} {j:Nat} {want:Bool}:bq P (.os D (⟨d,(.wB x),some (j,want),rs⟩::os)::aL) .normal r h Q=fA P (r.trim rs j) want d (.wB x) rs D os aL r h Q:=jT rfl
theorem ac0 {n:Nat} {s x:aW}:bq P (.os D (⟨d,(.app n s x),none,rs⟩::os)::aL) .normal r h Q=iG P (kH n (s.a6 (r.trim rs)) (x.a6 (r.trim rs)) h) d D os aL r h Q:=k5 rfl rfl
theorem ad' {n:Nat} {s x:aW} {j:Nat} {want:Bool}:bq P (.os D (⟨d,(.app n s x),some (j,want),rs⟩::os)::aL) .normal r h Q=fA P (r.trim rs j) want d (.app n s x) rs D os aL r h Q:=jT rfl
theorem ada {n:Nat} {kM s:aW}:bq P (.os D (⟨d,(.copy n kM s),none,rs⟩::os)::aL) .normal r h Q=iG P (copyV n (kM.a6 (r.trim rs)) (s.a6 (r.trim rs)) h) d D os aL r h Q:=k5 rfl rfl
theorem aef {n:Nat} {kM s:aW} {j:Nat} {want:Bool}:bq P (.os D (⟨d,(.copy n kM s),some (j,want),rs⟩::os)::aL) .normal r h Q=fA P (r.trim rs j) want d (.copy n kM s) rs D os aL r h Q:=jT rfl
theorem adB {x:aW}:bq P (.os D (⟨d,(.len .map x),none,rs⟩::os)::aL) .normal r h Q=iG P (yX [x.a6 (r.trim rs)] h) d D os aL r h Q:=k5 rfl rfl
theorem aex {x:aW} {j:Nat} {want:Bool}:bq P (.os D (⟨d,(.len .map x),some (j,want),rs⟩::os)::aL) .normal r h Q=fA P (r.trim rs j) want d (.len .map x) rs D os aL r h Q:=jT rfl
theorem ade {x:aW}:bq P (.os D (⟨d,(.hT .bytes x),none,rs⟩::os)::aL) .normal r h Q=iG P (xN.run (x.a6 (r.trim rs)) h) d D os aL r h Q:=k5 rfl rfl
theorem aeg {x:aW} {j:Nat} {want:Bool}:bq P (.os D (⟨d,(.hT .bytes x),some (j,want),rs⟩::os)::aL) .normal r h Q=fA P (r.trim rs j) want d (.hT .bytes x) rs D os aL r h Q:=jT rfl
theorem adh {x:aW}:bq P (.os D (⟨d,(.hT .str x),none,rs⟩::os)::aL) .normal r h Q=iG P (ru.run (x.a6 (r.trim rs)) h) d D os aL r h Q:=k5 rfl rfl
theorem aej {x:aW} {j:Nat} {want:Bool}:bq P (.os D (⟨d,(.hT .str x),some (j,want),rs⟩::os)::aL) .normal r h Q=fA P (r.trim rs j) want d (.hT .str x) rs D os aL r h Q:=jT rfl
theorem adg {s kM:TypeId} {x:aW}:bq P (.os D (⟨d,(.hT (.other s kM) x),none,rs⟩::os)::aL) .normal r h Q=iG P ((oW P s kM).run (x.a6 (r.trim rs)) h) d D os aL r h Q:=k5 rfl rfl
theorem aei {s kM:TypeId} {x:aW} {j:Nat} {want:Bool}:bq P (.os D (⟨d,(.hT (.other s kM) x),some (j,want),rs⟩::os)::aL) .normal r h Q=fA P (r.trim rs j) want d (.hT (.other s kM) x) rs D os aL r h Q:=jT rfl
theorem aed {f:FuncId} {args:List aW} {j:Nat} {want:Bool}:bq P (.os D (⟨d,(.call f args),some (j,want),rs⟩::os)::aL) .normal r h Q=fA P (r.trim rs j) want d (.call f args) rs D os aL r h Q:=jT rfl
theorem aee {f:aW} {args:List aW} {j:Nat} {want:Bool}:bq P (.os D (⟨d,(.ly f args),some (j,want),rs⟩::os)::aL) .normal r h Q=fA P (r.trim rs j) want d (.ly f args) rs D os aL r h Q:=jT rfl
end
end Go.Proofs.YtkehcalakofigaaGreatDoor.aS
namespace Go.Proofs.YtkehcalakofigaaGreatDoor.aS
variable [Lay]
open Go Go.RowKit
theorem af0 (h:af) (ad:List V):fE h ad=if ad.length≤top then some (h.new (.bh ad 0 false)) else none:=by
 by_cases ak:ad.length≤top
 · rw [if_pos ak,Py ak]
 · rw [if_neg ak]
   unfold fE
   rw [show Nat.ble ad.length top=false from by rw [←Bool.not_eq_true,Nat.ble_eq];exact ak]
   rfl
theorem aeW (h:af) (n:Nat) (b:aQ) (off:Nat) (y:V) (ad:List V) (cp:Nat) (st:Bool):
 wg n h b off y (.bh ad cp st)=if y.cells.length=n∧eg y.cells=true∧off+n≤ad.length then some (h.set b (.bh (nD ad off y.cells) cp st)) else none:=by
 by_cases aw:y.cells.length=n∧eg y.cells=true∧off+n≤ad.length
 · rw [if_pos aw,aeY aw.1 aw.2.1 aw.2.2]
 · rw [if_neg aw]
   unfold wg
   by_cases aa:y.cells.length=n
   · rw [show Nat.beq y.cells.length n=true from by rw [Nat.beq_eq];exact aa]
     simp only [cond_true,b3.bh,b3.on]
     by_cases ae:eg y.cells=true
     · have aI:¬off+y.cells.length≤ad.length:=fun q=>aw ⟨aa,ae,by omega⟩
       rw [show Nat.ble (off+y.cells.length) ad.length=false from by rw [←Bool.not_eq_true,Nat.ble_eq];exact aI]
       rfl
     · rw [show eg y.cells=false from by simpa using ae,Bool.and_false]
       rfl
   · rw [show Nat.beq y.cells.length n=false from by rw [←Bool.not_eq_true,Nat.beq_eq];exact aa]
     rfl
theorem Zu (cells:List V) (off size:Nat) (v:V) (rest:List (Nat × Nat × V)):
 hV cells ((off,size,v)::rest)=if v.e5=true∧v.cells.length=size∧off+size≤cells.length then hV (nD cells off v.cells) rest else none:=by
 by_cases aw:v.e5=true∧v.cells.length=size∧off+size≤cells.length
 · rw [if_pos aw,Zt aw.1 aw.2.1 aw.2.2]
 · rw [if_neg aw]
   simp only [hV]
   cases ai:(v.e5&&(Nat.beq v.cells.length size&&Nat.ble (off+v.cells.length) cells.length)) with
   | false=>rfl
   | true=>
     simp only [Bool.and_eq_true,Nat.beq_eq,Nat.ble_eq] at ai
     exact absurd ⟨ai.1,ai.2.1,by omega⟩ aw
theorem X8 (b:Bool):V.cells (.bool b:V)=[.bool b]:=rfl
theorem agv (b:Bool):V.one (.bool b:V)=true:=rfl
theorem Z7 (b:Bool):V.e5 (.bool b:V)=true:=rfl
theorem Ya (k:IntKind) (n:Int):V.cells (.int k n:V)=[.int k n]:=rfl
theorem PW (k:IntKind) (n:Int):V.one (.int k n:V)=true:=rfl
theorem Z_ (k:IntKind) (n:Int):V.e5 (.int k n:V)=true:=rfl
theorem Yk (s:List UInt8):V.cells (.str s:V)=[.str s]:=rfl
theorem IL (s:List UInt8):V.one (.str s:V)=true:=rfl
theorem aai (s:List UInt8):V.e5 (.str s:V)=true:=rfl
theorem Yf:V.cells (.ks:V)=[.ks]:=rfl
theorem agD:V.one (.ks:V)=true:=rfl
theorem aae:V.e5 (.ks:V)=true:=rfl
theorem Yh (b:aQ) (o:Nat):V.cells (.ptr b o:V)=[.ptr b o]:=rfl
theorem agF (b:aQ) (o:Nat):V.one (.ptr b o:V)=true:=rfl
theorem aag (b:aQ) (o:Nat):V.e5 (.ptr b o:V)=true:=rfl
theorem Yj (b:aQ) (o l c:Nat):V.cells (.slice b o l c:V)=[.slice b o l c]:=rfl
theorem agG (b:aQ) (o l c:Nat):V.one (.slice b o l c:V)=true:=rfl
theorem aah (b:aQ) (o l c:Nat):V.e5 (.slice b o l c:V)=true:=rfl
theorem X' (b:aQ) (o l c:Nat):V.cells (.dK b o l c:V)=[.dK b o l c]:=rfl
theorem agx (b:aQ) (o l c:Nat):V.one (.dK b o l c:V)=true:=rfl
theorem Z9 (b:aQ) (o l c:Nat):V.e5 (.dK b o l c:V)=true:=rfl
theorem Yl (b:aQ) (o l c:Nat):V.cells (.fu b o l c:V)=[.fu b o l c]:=rfl
theorem agH (b:aQ) (o l c:Nat):V.one (.fu b o l c:V)=true:=rfl
theorem aaj (b:aQ) (o l c:Nat):V.e5 (.fu b o l c:V)=true:=rfl
theorem Yg:V.cells (.bW:V)=[.bW]:=rfl
theorem agE:V.one (.bW:V)=true:=rfl
theorem aaf:V.e5 (.bW:V)=true:=rfl
theorem Ye:V.cells (.jY:V)=[.jY]:=rfl
theorem agC:V.one (.jY:V)=true:=rfl
theorem aad:V.e5 (.jY:V)=true:=rfl
theorem Yb (b:aQ):V.cells (.map b:V)=[.map b]:=rfl
theorem agz (b:aQ):V.one (.map b:V)=true:=rfl
theorem aaa (b:aQ):V.e5 (.map b:V)=true:=rfl
theorem X9 (f:FuncId) (cs:List V):V.cells (.func f cs:V)=[.func f cs]:=rfl
theorem agw (f:FuncId) (cs:List V):V.one (.func f cs:V)=true:=rfl
theorem Z8 (f:FuncId) (cs:List V):V.e5 (.func f cs:V)=true:=rfl
theorem Yd:V.cells (.js:V)=[.js]:=rfl
theorem agB:V.one (.js:V)=true:=rfl
theorem aac:V.e5 (.js:V)=true:=rfl
theorem X_ (t:TypeId) (v:V):V.cells (.iface t v:V)=[.iface t v]:=rfl
theorem agy (t:TypeId) (v:V):V.one (.iface t v:V)=true:=rfl
theorem Z' (t:TypeId) (v:V):V.e5 (.iface t v:V)=true:=rfl
theorem Yc:V.cells (.nilIface:V)=[.nilIface]:=rfl
theorem agA:V.one (.nilIface:V)=true:=rfl
theorem aab:V.e5 (.nilIface:V)=true:=rfl
theorem X7 (cs:List V):V.cells (.agg cs)=cs:=rfl
theorem Z6 (cs:List V):V.e5 (.agg cs)=true:=rfl
theorem aak (cs:List V):V.e5 (.tuple cs)=true:=rfl
theorem TH (n:Nat):n+1+1=n+2:=rfl
theorem TN (n:Nat):n+2+1=n+3:=rfl
theorem TO (n:Nat):n+3+1=n+4:=rfl
theorem TP (n:Nat):n+4+1=n+5:=rfl
theorem TQ (n:Nat):n+5+1=n+6:=rfl
theorem TR (n:Nat):n+6+1=n+7:=rfl
theorem TS (n:Nat):n+7+1=n+8:=rfl
theorem TT (n:Nat):n+8+1=n+9:=rfl
theorem TU (n:Nat):n+9+1=n+10:=rfl
theorem TG (n:Nat):n+10+1=n+11:=rfl
theorem TI (n:Nat):n+11+1=n+12:=rfl
theorem TJ (n:Nat):n+12+1=n+13:=rfl
theorem TK (n:Nat):n+13+1=n+14:=rfl
theorem TL (n:Nat):n+14+1=n+15:=rfl
theorem TM (n:Nat):n+15+1=n+16:=rfl
theorem mC (n:Nat):(n+1=n)=False:=eq_false (by omega)
theorem ajE (n:Nat):(n=n+1)=False:=eq_false (by omega)
theorem qK (n:Nat):(n+2=n)=False:=eq_false (by omega)
theorem ajF (n:Nat):(n=n+2)=False:=eq_false (by omega)
theorem y_ (n:Nat):(n+3=n)=False:=eq_false (by omega)
theorem ajG (n:Nat):(n=n+3)=False:=eq_false (by omega)
theorem PF (n:Nat):(n+4=n)=False:=eq_false (by omega)
theorem ajH (n:Nat):(n=n+4)=False:=eq_false (by omega)
theorem agf (n:Nat):(n+5=n)=False:=eq_false (by omega)
theorem ajI (n:Nat):(n=n+5)=False:=eq_false (by omega)
theorem PG (n:Nat):(n+6=n)=False:=eq_false (by omega)
theorem ajJ (n:Nat):(n=n+6)=False:=eq_false (by omega)
theorem agh (n:Nat):(n+7=n)=False:=eq_false (by omega)
theorem ajK (n:Nat):(n=n+7)=False:=eq_false (by omega)
theorem agi (n:Nat):(n+8=n)=False:=eq_false (by omega)
theorem ajL (n:Nat):(n=n+8)=False:=eq_false (by omega)
theorem Z1 {P:Program} {r:aT} {h:af} {Q:dd→aT→af→Prop} {aL:List hb} {os:List bw} {D:Option hD} {d:Option Nat} {g:G} {rs:List Nat}:fA P (.bool true) true d g rs D os aL r h Q=bq P (.os D (⟨d,g,none,rs⟩::os)::aL) .normal r h Q:=by
 rw [MZ];simp
theorem ZY {P:Program} {r:aT} {h:af} {Q:dd→aT→af→Prop} {aL:List hb} {os:List bw} {D:Option hD} {d:Option Nat} {g:G} {rs:List Nat}:fA P (.bool false) false d g rs D os aL r h Q=bq P (.os D (⟨d,g,none,rs⟩::os)::aL) .normal r h Q:=by
 rw [MY];simp
theorem Z0 {P:Program} {r:aT} {h:af} {Q:dd→aT→af→Prop} {aL:List hb} {os:List bw} {D:Option hD} {d:Option Nat} {g:G} {rs:List Nat}:fA P (.bool true) false d g rs D os aL r h Q=bq P (.os (h2 D r h (.tuple [])) os::aL) .normal (r.set d (.tuple [])) h Q:=by
 rw [MY];simp
theorem ZZ {P:Program} {r:aT} {h:af} {Q:dd→aT→af→Prop} {aL:List hb} {os:List bw} {D:Option hD} {d:Option Nat} {g:G} {rs:List Nat}:fA P (.bool false) true d g rs D os aL r h Q=bq P (.os (h2 D r h (.tuple [])) os::aL) .normal (r.set d (.tuple [])) h Q:=by
 rw [MZ];simp
theorem Up (c:Bool) (a b:V):V.bif (!c) a (V.opt c b)=V.bif (!c) a b:=by cases c<;>rfl
theorem acF (A:Prop):(True→A)=A:=propext ⟨fun q=>q trivial,fun q _=>q⟩
theorem acE (A:Prop):(False→A)=True:=propext ⟨fun _=>trivial,fun _ q=>q.elim⟩
section
variable {P:Program}
theorem fD {b:bC} {aL:List hb} {r:aT} {h:af} {Q:dd→aT→af→Prop} (I:aT→af→Prop) (μ:aT→af→Nat) (bb:I r h)
 (step:∀r h,I r h→bq P [.c b] .normal r h fun e bt ab=>e.andThen (I bt ab∧μ bt ab<μ r h) (bq P aL e bt ab Q)):wj P b aL r h Q:=
 ⟨I,μ,bb,step⟩
theorem ZX {b want:Bool} {d:Option Nat} {f:FuncId} {args:List aW} {rs:List Nat} {os:List bw} {D:Option hD} {aL:List hb} {r:aT} {h:af} {Q:dd→aT→af→Prop} (v:V)
 (bs:(b == want)=true→eM P f (aW.fc (r.trim rs) args) h v h)
 (H:bq P (.os (h2 D r h (V.opt (b == want) v)) os::aL) .normal (r.set d (V.opt (b == want) v)) h Q):fA P (.bool b) want d (.call f args) rs D os aL r h Q:=by
 have:=ZW (P:=P) (c:=true) (b:=b) (want:=want) (d:=d) (f:=f) (args:=args) (rs:=rs) (D:=D) (os:=os) (aL:=aL) (r:=r) (h:=h) (Q:=Q) v
 simp only [V.opt,cond_true,Bool.true_and] at this
 exact this bs H
theorem Bq {b:Bool} {d:Option Nat} {f:FuncId} {args:List aW} {rs:List Nat} {os:List bw} {D:Option hD} {aL:List hb} {r:aT} {h:af} {Q:dd→aT→af→Prop} (v:V)
 (bs:(!b)=true→eM P f (aW.fc (r.trim rs) args) h v h)
 (H:bq P (.os (h2 D r h (V.opt (!b) v)) os::aL) .normal (r.set d (V.opt (!b) v)) h Q):fA P (.bool b) false d (.call f args) rs D os aL r h Q:=by
 refine ZX v ?_ ?_<;>rw [beq_false]<;>assumption
def V.toN:V→Nat
 | .int _ n=>n.toNat
 | _=>0
theorem ai3 (k:IntKind) (n:Int):V.toN (.int k n)=n.toNat:=rfl
theorem fj {f:FuncId} {args:List V} {d:Option Nat} {os:List bw} {D:Option hD} {aL:List hb} {r:aT} {h:af} {Q:dd→aT→af→Prop} {v:V}
 (c:eM P f args h v h) (H:bq P (.os (h2 D r h v) os::aL) .normal (r.set d v) h Q):mW P f args d D os aL r h Q:=⟨v,h,c,H⟩
theorem bK {f:FuncId} {args:List V} {d:Option Nat} {os:List bw} {D:Option hD} {aL:List hb} {r:aT} {h:af} {Q:dd→aT→af→Prop} {K:V→af→Prop}
 (c:bB P f args h K) (H:∀v ab,K v ab→bq P (.os (h2 D r h v) os::aL) .normal (r.set d v) ab Q):mW P f args d D os aL r h Q:=c.mono H
structure Ext (h ab:af):Prop where
 next:h.next≤ab.next
 get:∀b,Old h b→ab.get b=h.get b
theorem Ext.refl (h:af):Ext h h:=⟨Nat.le_refl _,fun _ _=>rfl⟩
theorem Ext.b0 {h ab:af} (e:Ext h ab) {b:aQ} (ai:Old h b):Old ab b:=Nat.lt_of_lt_of_le ai e.next
theorem Ext.trans {h ab kP:af} (e:Ext h ab) (db:Ext ab kP):Ext h kP:=
 ⟨Nat.le_trans e.next db.next,fun b ai=>(db.get b (e.b0 ai)).trans (e.get b ai)⟩
theorem Ext.new {h ab:af} (e:Ext h ab) (k:b3):Ext h (ab.new k):=
 ⟨Nat.le_succ_of_le e.next,fun b ai=>by
   rw [ht,if_neg (fun q=>(IJ (h:=h) ai e.next) ▸ q)]
   exact e.get b ai⟩
theorem Ext.set {h ab:af} (e:Ext h ab) {i:Nat} (av:h.next≤i) (k:b3):Ext h (ab.set (aC i) k):=
 ⟨e.next,fun b ai=>by
   rw [dG,if_neg (fun q=>(IJ (h:=h) ai av) ▸ q)]
   exact e.get b ai⟩
theorem Ext.rd {h ab:af} (e:Ext h ab) {b:aQ} (ai:Old h b) {ad:List V} (H:Rd h b ad):Rd ab b ad:=by
 unfold Rd at H ⊢
 rw [e.get b ai]
 exact H
def il (h:af) (b:aQ) (off:Nat) (ad:List V):Prop:=Old h b∧∃us,Rd h b us∧off+ad.length≤us.length∧(us.drop off).take ad.length=ad
theorem il.ext {h ab:af} (e:Ext h ab) {b:aQ} {off:Nat} {ad:List V} (H:il h b off ad):il ab b off ad:=by
 obtain ⟨bb,us,aa,ae,aI⟩:=H
 exact ⟨e.b0 bb,us,e.rd bb aa,ae,aI⟩
theorem il.gl {h:af} {b:aQ} {off:Nat} {ad:List V} (H:il h b off ad) {i:Nat} (av:i<ad.length):hj (h.get b) (off+i)=some ad[i]:=by
 obtain ⟨_,us,aa,ae,aI⟩:=H
 rw [aa.gl,List.getElem?_eq_getElem (by omega)]
 congr 1
 have:((us.drop off).take ad.length)[i]? =ad[i]? :=by rw [aI]
 rw [List.getElem?_take_of_lt av,List.getElem?_drop,List.getElem?_eq_getElem (by omega),List.getElem?_eq_getElem av] at this
 simpa using this
theorem il.iQ {h:af} {b:aQ} {off:Nat} {ad:List V} (H:il h b off ad) {i n:Nat} (av:i+n≤ad.length):mx n (h.get b) (off+i)=some (.agg ((ad.drop i).take n)):=by
 obtain ⟨_,us,aa,ae,aI⟩:=H
 rw [aa.iQ,if_pos (by omega)]
 congr 2
 have:(((us.drop off).take ad.length).drop i).take n=(ad.drop i).take n:=by rw [aI]
 rw [←this,List.drop_take,List.drop_drop,List.take_take]
 congr 1
 omega
def et (h:af) (size:Nat) (v:V) (n:Nat) (ad:List V):Prop:=
 ad.length=n * size∧match v with
  | .bW=>n=0
  | .slice b off len _=>len=n∧il h b off ad
  | .dK b off len _=>len=n∧il h b off ad
  | .fu _ _ _ _=>n=0
  | _=>False
theorem et.ext {h ab:af} (e:Ext h ab) {size:Nat} {v:V} {n:Nat} {ad:List V} (H:et h size v n ad):et ab size v n ad:=by
 refine ⟨H.1,?_⟩
 have cD:=H.2
 cases v<;>simp only at cD ⊢<;>first | exact cD | exact ⟨cD.1,cD.2.ext e⟩
theorem et.len {h:af} {size:Nat} {v:V} {n:Nat} {ad:List V} (H:et h size v n ad):jn v=some (.int .i64 n):=by
 have cD:=H.2
 cases v<;>simp only at cD<;>first
  | (rw [←cD.1];rfl)
  | (subst cD;rfl)
  | (exact cD.elim)
theorem et.b_ {h:af} {size:Nat} {v:V} {n:Nat} {ad:List V} (H:et h size v n ad) {k:IntKind} {i:Nat} (av:i<n):
 ∃b off,hY size v (.int k i)=some (.ptr b (off+i * size))∧il h b off ad:=by
 have cD:=H.2
 cases v<;>simp only at cD<;>first
  | omega
  | (exact cD.elim)
  | skip
 · rename_i b off len cap
   obtain ⟨rfl,aa⟩:=cD
   refine ⟨b,off,?_,aa⟩
   rw [HV,if_pos (by omega)]
   simp
 · rename_i b off len cap
   obtain ⟨rfl,aa⟩:=cD
   refine ⟨b,off,?_,aa⟩
   rw [HU,if_pos (by omega)]
   simp
end
end Go.Proofs.YtkehcalakofigaaGreatDoor.aS
namespace Go.Proofs.YtkehcalakofigaaGreatDoor.aS
variable [Lay]
open Go Go.RowKit
structure Mod (M:aQ→Prop) (h ab:af):Prop where
 next:h.next≤ab.next
 get:∀b,Old h b→¬M b→ab.get b=h.get b
theorem Mod.refl (M:aQ→Prop) (h:af):Mod M h h:=⟨Nat.le_refl _,fun _ _ _=>rfl⟩
theorem Mod.b0 {M:aQ→Prop} {h ab:af} (e:Mod M h ab) {b:aQ} (ai:Old h b):Old ab b:=Nat.lt_of_lt_of_le ai e.next
theorem Mod.trans {M:aQ→Prop} {h ab kP:af} (e:Mod M h ab) (db:Mod M ab kP):Mod M h kP:=
 ⟨Nat.le_trans e.next db.next,fun b ai hm=>(db.get b (e.b0 ai) hm).trans (e.get b ai hm)⟩
theorem Mod.mono {M rj:aQ→Prop} {h ab:af} (e:Mod M h ab) (hm:∀b,Old h b→M b→rj b):Mod rj h ab:=
 ⟨e.next,fun b ai aX=>e.get b ai fun q=>aX (hm b ai q)⟩
theorem Mod.new {M:aQ→Prop} {h ab:af} (e:Mod M h ab) (k:b3):Mod M h (ab.new k):=
 ⟨Nat.le_succ_of_le e.next,fun b ai hm=>by
   rw [ht,if_neg (fun q=>(IJ (h:=h) ai e.next) ▸ q)]
   exact e.get b ai hm⟩
theorem Mod.set {M:aQ→Prop} {h ab:af} (e:Mod M h ab) {b:aQ} (ai:Old h b→M b) (k:b3):Mod M h (ab.set b k):=
 ⟨e.next,fun bJ gu hm=>by
   rw [dG]
   by_cases q:b=bJ
   · subst q
     exact absurd (ai gu) hm
   · rw [if_neg q]
     exact e.get bJ gu hm⟩
theorem Ext.mod {h ab:af} (e:Ext h ab) (M:aQ→Prop):Mod M h ab:=⟨e.next,fun b ai _=>e.get b ai⟩
theorem Mod.ext {M:aQ→Prop} {h ab:af} (e:Mod M h ab) (hm:∀b,Old h b→¬M b):Ext h ab:=⟨e.next,fun b ai=>e.get b ai (hm b ai)⟩
theorem Ext.h0 {h ab kP:af} (e:Ext h ab) {M:aQ→Prop} (m:Mod M ab kP) (hm:∀b,M b→h.next≤cd b):Ext h kP:=
 ⟨Nat.le_trans e.next m.next,fun b ai=>by
   have lO:¬M b:=fun q=>by have:=hm b q;unfold Old at ai;omega
   exact (m.get b (e.b0 ai) lO).trans (e.get b ai)⟩
theorem Mod.at {M:aQ→Prop} {h ab:af} (e:Mod M h ab) {b:aQ} {off:Nat} {ad:List V} (H:il h b off ad) (hm:¬M b):il ab b off ad:=by
 obtain ⟨bb,us,aa,ae,aI⟩:=H
 refine ⟨e.b0 bb,us,?_,ae,aI⟩
 unfold Rd at aa ⊢
 rw [e.get b bb hm]
 exact aa
theorem gz {h:af} {i:Nat} (av:i<h.next):Old h (aC i):=by unfold Old;rw [c6];exact av
theorem y9 {h:af} {b:aQ} {i:Nat} (ai:Old h b) (av:h.next≤i):(b=aC i)=False:=by
 apply eq_false
 intro e
 unfold Old at ai
 rw [e,c6] at ai
 omega
def V.a7:V→aQ→Prop
 | .slice b _ _ _,bJ=>bJ=b
 | .dK b _ _ _,bJ=>bJ=b
 | _,_=>False
theorem et.one {h:af} {size:Nat} {v:V} {n:Nat} {ad:List V} (H:et h size v n ad):v.one=true∧v.cells=[v]∧v.e5=true:=by
 have q:=H.2
 cases v<;>simp only at q<;>first | exact ⟨rfl,rfl,rfl⟩ | exact q.elim
theorem et.mod {M:aQ→Prop} {h ab:af} (e:Mod M h ab) {size:Nat} {v:V} {n:Nat} {ad:List V} (H:et h size v n ad) (hm:∀b,v.a7 b→¬M b):et ab size v n ad:=by
 refine ⟨H.1,?_⟩
 have cD:=H.2
 cases v<;>simp only at cD ⊢<;>first | exact cD | exact ⟨cD.1,e.at cD.2 (hm _ rfl)⟩
theorem et.b0 {h:af} {size:Nat} {v:V} {n:Nat} {ad:List V} (H:et h size v n ad) {b:aQ} (ai:v.a7 b):Old h b:=by
 have cD:=H.2
 cases v<;>simp only [V.a7] at cD ai<;>first | (exact ai.elim) | (subst ai;exact cD.2.1)
def dx (B:Nat) (h:af) (size:Nat) (v:V) (n:Nat) (ad:List V):Prop:=
 ad.length=n * size∧match v with
  | .bW=>n=0
  | .slice b off len cap=>len=n∧B≤cd b∧Old h b∧n≤cap∧cap≤top∧∃us cp st,h.get b=.bh us cp st∧off+cap * size≤us.length∧(us.drop off).take ad.length=ad
  | .dK b off len idx=>len=n∧B≤cd b∧Old h b∧off=0∧idx=0∧∃us st,h.get b=.bh us size st∧ad.length≤us.length∧us.take ad.length=ad
  | _=>False
theorem dx.v {B:Nat} {h:af} {size:Nat} {v:V} {n:Nat} {ad:List V} (H:dx B h size v n ad):et h size v n ad:=by
 obtain ⟨aa,ae⟩:=H
 refine ⟨aa,?_⟩
 cases v<;>simp only at ae ⊢<;>first | exact ae | skip
 · obtain ⟨al,_,aq,aK,_,us,cp,st,bG,di,e0⟩:=ae
   refine ⟨al,aq,us,.inr ⟨cp,st,bG⟩,?_,e0⟩
   rw [aa]
   have:=Nat.mul_le_mul_right size aK
   omega
 · obtain ⟨al,_,aq,aK,_,us,st,bG,di,e0⟩:=ae
   subst aK
   exact ⟨al,aq,us,.inr ⟨size,st,bG⟩,by omega,by simpa using e0⟩
theorem dx.base {B:Nat} {h:af} {size:Nat} {v:V} {n:Nat} {ad:List V} (H:dx B h size v n ad) {b:aQ} (ai:v.a7 b):B≤cd b:=by
 have cD:=H.2
 cases v<;>simp only [V.a7] at cD ai<;>first | (exact ai.elim) | (subst ai;exact cD.2.1)
theorem dx.mono {B J7:Nat} {h:af} {size:Nat} {v:V} {n:Nat} {ad:List V} (H:dx B h size v n ad) (cS:J7≤B):dx J7 h size v n ad:=by
 refine ⟨H.1,?_⟩
 have cD:=H.2
 cases v<;>simp only at cD ⊢<;>first | exact cD | exact ⟨cD.1,Nat.le_trans cS cD.2.1,cD.2.2⟩
theorem dx.mod {M:aQ→Prop} {h ab:af} (e:Mod M h ab) {B size:Nat} {v:V} {n:Nat} {ad:List V} (H:dx B h size v n ad) (hm:∀b,v.a7 b→¬M b):dx B ab size v n ad:=by
 refine ⟨H.1,?_⟩
 have cD:=H.2
 cases v<;>simp only at cD ⊢<;>first | exact cD | skip
 · obtain ⟨al,aq,aK,bG,di,us,cp,st,e0,hM⟩:=cD
   exact ⟨al,aq,e.b0 aK,bG,di,us,cp,st,by rw [e.get _ aK (hm _ rfl)];exact e0,hM⟩
 · obtain ⟨al,aq,aK,bG,di,us,st,e0,hM⟩:=cD
   exact ⟨al,aq,e.b0 aK,bG,di,us,st,by rw [e.get _ aK (hm _ rfl)];exact e0,hM⟩
theorem dx.ext {h ab:af} (e:Ext h ab) {B size:Nat} {v:V} {n:Nat} {ad:List V} (H:dx B h size v n ad):dx B ab size v n ad:=
 H.mod (e.mod fun _=>False) fun _ _ q=>q
theorem O2 {h:af} {size:Nat} {v:V} {n:Nat} {ad:List V} (H:et h size v n ad):my v=some n:=by
 have cD:=H.2
 cases v<;>simp only at cD<;>first
  | (rw [←cD.1];rfl)
  | (subst cD;rfl)
  | (exact cD.elim)
theorem zB {h:af} {b:aQ} {off size n:Nat} {ad:List V} (H:il h b off ad) (ak:ad.length=n * size):nE h size b off n=some ad:=by
 obtain ⟨_,us,aa,ae,aI⟩:=H
 unfold nE
 rw [aa.nC,show Nat.ble (off+n * size) us.length=true from by rw [Nat.ble_eq];omega,Bt us _ off (by omega),←ak,aI]
 rfl
theorem aiz {h:af} {size:Nat} {v:V} {n:Nat} {ad:List V} (H:et h size v n ad):sk h size v n=some ad:=by
 obtain ⟨aa,ae⟩:=H
 cases v<;>simp only at ae<;>first
  | (exact ae.elim)
  | (obtain ⟨_,aI⟩:=ae;exact zB aI aa)
  | (subst ae
     have:ad=[]:=List.eq_nil_of_length_eq_zero (by omega)
     subst this
     rfl)
theorem dx.grown {B:Nat} {h:af} {size:Nat} {ad:List V} {n:Nat} {st:Bool} (ak:ad.length=n * size) (cS:B≤h.next):dx B (h.new (.bh ad size st)) size (.dK (aC h.next) 0 n 0) n ad:=
 ⟨ak,rfl,by rw [c6];exact cS,PS,rfl,rfl,ad,st,na _,Nat.le_refl _,List.take_length⟩
theorem TZ {h:af} {size:Nat} {s x:V} {m:Nat} {ad:List V} (cD:et h size x m ad) (hm:m≤top):kH size s x h=(match s with
 | .bW=>uW size m ad h
 | .slice b off len cap=>uU size b off len cap m ad h
 | .dK b off len idx=>uT size b off len idx m ad h
 | _=>.fail):=by
 unfold kH
 rw [O2 cD]
 simp only
 rw [aiz cD]
 simp only
 rw [show Nat.ble m top=true from by rw [Nat.ble_eq];exact hm]
 rfl
theorem JB (A:List V) (o:Nat) (W:List V) (h:o+W.length≤A.length) (q:Nat):(gp A o W)[q]? =if q<o then A[q]? else if q<o+W.length then W[q-o]? else A[q]? :=by
 have ak:(A.take o).length=o:=by rw [List.length_take];omega
 unfold gp
 rw [List.append_assoc]
 by_cases bz:q<o
 · rw [if_pos bz,List.getElem?_append_left (by omega),List.getElem?_take_of_lt bz]
 · rw [if_neg bz,List.getElem?_append_right (by omega),ak]
   by_cases bN:q<o+W.length
   · rw [if_pos bN,List.getElem?_append_left (by omega)]
   · rw [if_neg bN,List.getElem?_append_right (by omega),List.getElem?_drop]
     congr 1
     omega
theorem Rv (A:List V) (o j:Nat) (L W:List V) (lH:o+L.length≤A.length) (cI:(A.drop o).take L.length=L) (bH:j+W.length≤L.length):((gp A (o+j) W).drop o).take L.length=gp L j W:=by
 apply List.ext_getElem?
 intro q
 have ak:((A.drop o).take L.length)[q]? =L[q]? :=by rw [cI]
 rw [JB L j W bH]
 by_cases aF:q<L.length
 · rw [List.getElem?_take_of_lt aF,List.getElem?_drop,JB A (o+j) W (by omega)]
   rw [List.getElem?_take_of_lt aF,List.getElem?_drop] at ak
   by_cases bz:q<j
   · rw [if_pos (by omega),if_pos bz,ak]
   · rw [if_neg (by omega),if_neg bz]
     by_cases bN:q<j+W.length
     · rw [if_pos (by omega),if_pos bN]
       congr 1
       omega
     · rw [if_neg (by omega),if_neg bN,ak]
 · rw [List.getElem?_take_eq_none (by omega),if_neg (by omega),if_neg (by omega),List.getElem?_eq_none (by omega)]
theorem xv {B:Nat} {h:af} {size:Nat} {s x:V} {n m:Nat} {us ad:List V} (b7:1≤size) (H1:dx B h size s n us) (cD:et h size x m ad) (cS:B≤h.next) (hlen:(n+m) * size≤top) (aU:eg ad=true):
 ∃v ab,kH size s x h=.val v ab∧dx B ab size v (n+m) (us++ad)∧Mod s.a7 h ab∧∀b,v.a7 b→s.a7 b∨h.next≤cd b:=by
 have lO:n+m≤top:=Nat.le_trans (Nat.le_mul_of_pos_right _ b7) hlen
 have kV:=H1.1
 have kf:=cD.1
 have gR:(us++ad).length=(n+m) * size:=by rw [List.length_append,kV,kf,Nat.add_mul]
 rw [TZ cD (by omega)]
 have ae:=H1.2
 cases s<;>simp only at ae ⊢<;>try (exact ae.elim)
 case bW=>
  subst ae
  have:us=[]:=List.eq_nil_of_length_eq_zero (by omega)
  subst this
  unfold uW
  by_cases hm:m=0
  · subst hm
    have:ad=[]:=List.eq_nil_of_length_eq_zero (by omega)
    subst this
    exact ⟨.bW,h,rfl,⟨by simp,rfl⟩,Mod.refl _ _,fun b ai=>.inl ai⟩
  · rw [show Nat.beq m 0=false from by rw [←Bool.not_eq_true,Nat.beq_eq];exact hm]
    simp only [cond_false]
    rw [Cr (by rw [kf];simpa using hlen) b7]
    refine ⟨_,_,rfl,?_,(Mod.refl _ _).new _,fun b ai=>.inr (by rw [show b=aC h.next from ai,c6];exact Nat.le_refl _)⟩
    have:=dx.grown (B:=B) (h:=h) (size:=size) (ad:=ad) (n:=m) (st:=false) kf cS
    simpa using this
 case slice b off len cap=>
  obtain ⟨rfl,aq,aK,bG,di,jB,cp,st,e0,hM,k_⟩:=ae
  unfold uU
  by_cases aw:len+m≤cap
  · rw [show Nat.ble (len+m) cap=true from by rw [Nat.ble_eq];exact aw]
    simp only [cond_true]
    have eB:off+len * size+ad.length≤jB.length:=by
     have:=Nat.mul_le_mul_right size aw
     rw [Nat.add_mul] at this
     rw [kf]
     omega
    rw [Own.lay (ad:=jB) (cp:=cp) (st:=st) e0 eB aU]
    refine ⟨_,_,rfl,⟨gR,rfl,aq,aK,aw,di,_,cp,st,dG _ _ _ |>.trans (if_pos rfl),?_,?_⟩,(Mod.refl (V.a7 (.slice b off len cap)) h).set (fun _=>rfl) _,fun bJ ai=>.inl ai⟩
    · rw [oB _ _ _ eB];exact hM
    · rw [List.length_append]
      unfold gp
      have dI:off+us.length≤jB.length:=by rw [kV];omega
      have aB:jB.take (off+len * size)=jB.take off++us:=by
       rw [←kV,List.take_add,k_]
      rw [aB,List.append_assoc,List.append_assoc,List.drop_append,List.drop_eq_nil_of_le (by rw [List.length_take];omega),List.nil_append]
      rw [show off - (jB.take off).length=0 from by rw [List.length_take];omega,List.drop_zero]
      rw [←List.append_assoc,List.take_left' (by rw [List.length_append])]
  · rw [show Nat.ble (len+m) cap=false from by rw [←Bool.not_eq_true,Nat.ble_eq];exact aw]
    simp only [cond_false]
    rw [show (Nat.ble (len+m) top&&Nat.ble cap top)=true from by simp only [Bool.and_eq_true,Nat.ble_eq];exact ⟨lO,di⟩]
    simp only [cond_true]
    have Gz:il h b off us:=⟨aK,jB,.inr ⟨cp,st,e0⟩,by rw [kV];have:=Nat.mul_le_mul_right size bG;omega,k_⟩
    rw [zB Gz kV]
    simp only
    rw [Cr (by rw [gR];exact hlen) b7]
    exact ⟨_,_,rfl,dx.grown gR cS,(Mod.refl _ _).new _,fun b ai=>.inr (by rw [show b=aC h.next from ai,c6];exact Nat.le_refl _)⟩
 case dK b off len idx=>
  obtain ⟨rfl,aq,aK,rfl,rfl,jB,st,e0,hM,k_⟩:=ae
  unfold uT
  by_cases hm:m=0
  · subst hm
    have:ad=[]:=List.eq_nil_of_length_eq_zero (by omega)
    subst this
    exact ⟨_,h,rfl,⟨gR,rfl,aq,aK,rfl,rfl,jB,st,e0,by simpa using hM,by simpa using k_⟩,Mod.refl _ _,fun b ai=>.inl ai⟩
  · rw [show Nat.beq m 0=false from by rw [←Bool.not_eq_true,Nat.beq_eq];exact hm]
    simp only [cond_false]
    rw [e0]
    simp only [b3.bh,b3.on]
    rw [show (Nat.beq size size&&(Nat.ble (len+m) top&&eg ad)&&Nat.beq 0 (0 * size))=true from by
     simp only [Bool.and_eq_true,Nat.beq_eq,Nat.ble_eq]
     exact ⟨⟨trivial,lO,aU⟩,by omega⟩]
    simp only [cond_true]
    have Gz:il h b 0 us:=⟨aK,jB,.inr ⟨size,st,e0⟩,by omega,by simpa using k_⟩
    rw [zB Gz kV]
    simp only
    rw [Cr (by rw [gR];exact hlen) b7]
    exact ⟨_,_,rfl,dx.grown (h:=h.set b .dead) gR cS,((Mod.refl (V.a7 (.dK b 0 len 0)) h).set (fun _=>rfl) _).new _,fun bJ ai=>.inr (by rw [show bJ=aC h.next from ai,c6];exact Nat.le_refl _)⟩
theorem dx.put {B:Nat} {h:af} {size:Nat} {v:V} {n:Nat} {ad:List V} (H:dx B h size v n ad) {i:Nat} (av:i<n) {k:IntKind} {y:V} (a1:y.cells.length=size) (aU:eg y.cells=true):
 ∃b off ab,hY size v (.int k i)=some (.ptr b (off+i * size))∧v.a7 b∧oC size h (.ptr b (off+i * size)) y=some ab∧dx B ab size v n (gp ad (i * size) y.cells)∧Mod v.a7 h ab:=by
 obtain ⟨aa,ae⟩:=H
 have aN:i * size+size≤n * size:=by
  have:=Nat.mul_le_mul_right size (show i+1≤n from av)
  rw [Nat.add_mul] at this
  omega
 cases v<;>simp only at ae<;>try (first | omega | exact ae.elim)
 case slice b off len cap=>
  obtain ⟨rfl,aq,aK,bG,di,jB,cp,st,e0,hM,k_⟩:=ae
  have aw:=Nat.mul_le_mul_right size bG
  have eB:off+i * size+y.cells.length≤jB.length:=by rw [a1];omega
  refine ⟨b,off,_,?_,rfl,Own.store (ad:=jB) (cp:=cp) (st:=st) e0 a1 (by rw [a1] at eB;exact eB) aU,⟨?_,rfl,aq,aK,bG,di,_,cp,st,dG _ _ _ |>.trans (if_pos rfl),?_,?_⟩,(Mod.refl (V.a7 (.slice b off len cap)) h).set (fun _=>rfl) _⟩
  · rw [HV,if_pos (by omega)];simp
  · rw [oB _ _ _ (by rw [a1,aa];omega)];exact aa
  · rw [oB _ _ _ eB];exact hM
  · rw [oB _ _ _ (by rw [a1,aa];omega)]
    exact Rv jB off (i * size) ad y.cells (by rw [aa];omega) k_ (by rw [a1,aa];omega)
 case dK b off len idx=>
  obtain ⟨rfl,aq,aK,rfl,rfl,jB,st,e0,hM,k_⟩:=ae
  have eB:i * size+y.cells.length≤ad.length:=by rw [a1,aa];omega
  have yx:0+i * size+y.cells.length≤jB.length:=by omega
  refine ⟨b,0,_,?_,rfl,Own.store (ad:=jB) (cp:=size) (st:=st) e0 a1 (by rw [a1] at yx;exact yx) aU,⟨?_,rfl,aq,aK,rfl,rfl,_,st,dG _ _ _ |>.trans (if_pos rfl),?_,?_⟩,(Mod.refl (V.a7 (.dK b 0 len 0)) h).set (fun _=>rfl) _⟩
  · rw [HU,if_pos (by omega)];simp
  · rw [oB _ _ _ eB];exact aa
  · rw [oB _ _ _ eB,oB _ _ _ yx];exact hM
  · rw [oB _ _ _ eB]
    have:=Rv jB 0 (i * size) ad y.cells (by omega) (by simpa using k_) eB
    simpa using this
theorem agO (r:aT):aW.opt r none=none:=(rfl)
theorem agP (r:aT) (x:aW):aW.opt r (some x)=some (x.a6 r):=(rfl)
theorem u1 {k:IntKind} {m d y:Nat} (h:m≤y):bound (some (.int k (m:Int))) d y=some m:=by
 simp only [bound,V.dV,nq]
 rw [show (decide ((0:Int)≤(m:Int))&&decide ((m:Int)≤(y:Int)))=true from by simp;omega]
 simp
theorem sN (d y:Nat):bound none d y=some d:=rfl
theorem et.cut {h:af} {size:Nat} {v:V} {n:Nat} {ad:List V} (H:et h size v n ad) {k bn:IntKind} {bm av:Nat} (aa:bm≤av) (ae:av≤n) (jq jk:Option V)
 (dI:jq=some (.int k bm)∨jq=none∧bm=0) (gJ:jk=some (.int bn av)∨jk=none∧av=n) (jh:∀b off l c,v=.slice b off l c→l≤c):
 ∃cG,g_ size v jq jk none=some cG∧et h size cG (av-bm) ((ad.drop (bm * size)).take ((av-bm) * size))∧∀b,cG.a7 b→v.a7 b:=by
 obtain ⟨al,aq⟩:=H
 have gR:((ad.drop (bm * size)).take ((av-bm) * size)).length=(av-bm) * size:=by
  rw [List.length_take,List.length_drop,al]
  have aB:=Nat.mul_le_mul_right size aa
  have aO:=Nat.mul_le_mul_right size ae
  rw [Nat.sub_mul]
  omega
 have mV:∀y,bm≤y→bound jq 0 y=some bm:=by
  intro y a1
  rcases dI with rfl | ⟨rfl,rfl⟩
  · exact u1 a1
  · rfl
 have oV:∀d y,n=d→n≤y→bound jk d y=some av:=by
  intro d y aY a1
  rcases gJ with rfl | ⟨rfl,rfl⟩
  · exact u1 (by omega)
  · rw [sN,aY]
 have piece:∀(b:aQ) (off:Nat),il h b off ad→il h b (off+bm * size) ((ad.drop (bm * size)).take ((av-bm) * size)):=by
  rintro b off ⟨bM,us,a2,a3,a4⟩
  have aB:=Nat.mul_le_mul_right size aa
  have aO:=Nat.mul_le_mul_right size ae
  refine ⟨bM,us,a2,?_,?_⟩
  · rw [gR,Nat.sub_mul];omega
  · rw [gR,←List.drop_drop]
    have:(us.drop off).drop (bm * size)=(((us.drop off).take ad.length).drop (bm * size))++(us.drop off).drop ad.length:=by
     rw [←List.drop_append_of_le_length (by rw [List.length_take,List.length_drop];omega),List.take_append_drop]
    rw [this,a4,List.take_append_of_le_length (by rw [List.length_drop,al,Nat.sub_mul];omega)]
 cases v<;>simp only at aq<;>try (exact aq.elim)
 case bW=>
  subst aq
  obtain rfl:av=0:=by omega
  obtain rfl:bm=0:=by omega
  refine ⟨.bW,?_,⟨gR,rfl⟩,fun b ai=>ai⟩
  simp only [g_,wU,oV 0 0 rfl (Nat.le_refl _),mV 0 (Nat.le_refl _)]
 case slice b off len cap=>
  obtain ⟨rfl,aK⟩:=aq
  have aw:=jh b off len cap rfl
  have e:g_ size (.slice b off len cap) jq jk none=some (.slice b (bif Nat.beq cap bm then off else off+bm * size) (av-bm) (cap-bm)):=by
   simp only [g_,pB,oV len cap rfl aw,mV av aa]
  rw [e]
  refine ⟨_,rfl,⟨gR,rfl,?_⟩,fun bJ ai=>ai⟩
  cases ai:Nat.beq cap bm with
  | false=>exact piece b off aK
  | true=>
    rw [Nat.beq_eq] at ai
    obtain rfl:av=bm:=by omega
    obtain ⟨bM,us,a2,a3,a4⟩:=aK
    refine ⟨bM,us,a2,?_,?_⟩<;>simp
    omega
 case dK b off len idx=>
  obtain ⟨rfl,aK⟩:=aq
  by_cases aN:bm<len
  · have e:g_ size (.dK b off len idx) jq jk none=some (.dK b (off+bm * size) (av-bm) (idx+bm)):=by
     simp only [g_,qV,oV len len rfl (Nat.le_refl _),mV av aa]
     rw [show Nat.blt bm len=true from by rw [Nat.blt_eq];exact aN]
     rfl
    rw [e]
    exact ⟨_,rfl,⟨gR,rfl,piece b off aK⟩,fun bJ ai=>ai⟩
  · have e:g_ size (.dK b off len idx) jq jk none=some (.fu b off (off+bm * size) (idx+bm)):=by
     simp only [g_,qV,oV len len rfl (Nat.le_refl _),mV av aa]
     rw [show Nat.blt bm len=false from by rw [←Bool.not_eq_true,Nat.blt_eq];exact aN]
     rfl
    rw [e]
    exact ⟨_,rfl,⟨gR,by omega⟩,fun bJ ai=>ai.elim⟩
 case fu b off j0 idx=>
  subst aq
  obtain rfl:av=0:=by omega
  obtain rfl:bm=0:=by omega
  refine ⟨.fu b off j0 idx,?_,⟨gR,rfl⟩,fun b ai=>ai⟩
  simp only [g_,wV,oV 0 0 rfl (Nat.le_refl _),mV 0 (Nat.le_refl _)]
theorem af7 (b:aQ) (o:Nat):r4 (.ptr b o)=some (.ptr b o):=rfl
theorem afL (k bn:IntKind) (a b:Int):ju (fun b a=>!Int.leB a b) [.int k a,.int bn b]=some (.int k (if b<a then b else a)):=by
 simp only [ju,ua,V.dV,nq]
 by_cases h:b<a
 · rw [if_pos h]
   have:¬a≤b:=by omega
   simp [this]
 · rw [if_neg h]
   have:a≤b:=by omega
   simp [this]
theorem afP (k bn:IntKind) (a b:Int):ju (fun b a=>!Int.leB b a) [.int k a,.int bn b]=some (.int k (if a<b then b else a)):=by
 simp only [ju,ua,V.dV,nq]
 by_cases h:a<b
 · rw [if_pos h]
   have:¬b≤a:=by omega
   simp [this]
 · rw [if_neg h]
   have:b≤a:=by omega
   simp [this]
end Go.Proofs.YtkehcalakofigaaGreatDoor.aS
namespace Go.Proofs.YtkehcalakofigaaGreatDoor.aS
variable [Lay]
open Go Go.RowKit
set_option linter.defProp false
end Go.Proofs.YtkehcalakofigaaGreatDoor.aS
namespace Go.Proofs.YtkehcalakofigaaGreatDoor.aS
variable [Lay]
open Go Go.RowKit
theorem Yv {P:Program} {aL:List hb} {r:aT} {h:af} {Q:dd→aT→af→Prop} {a b:bC}:u4 P (.bool true) a b aL r h Q=bq P (.c a::aL) .normal r h Q:=by
 rw [LO];simp
theorem Yu {P:Program} {aL:List hb} {r:aT} {h:af} {Q:dd→aT→af→Prop} {a b:bC}:u4 P (.bool false) a b aL r h Q=bq P (.c b::aL) .normal r h Q:=by
 rw [LO];simp
theorem K5 (a b:List UInt8):kI a b=decide (a=b):=by
 rw [sL,Bool.eq_iff_iff]
 simp
theorem Ey (k:IntKind) (b:Int) (d y:Nat):bound (some (.int k b)) d y=if 0≤b∧b≤(y:Int) then some b.toNat else none:=by
 simp only [bound,V.dV,nq]
 by_cases aa:0≤b<;>by_cases ae:b≤(y:Int)<;>simp [aa,ae]
theorem aik (s:List UInt8) (k:IntKind) (b:Int):lf (.str s) none (some (.int k b)) none=if 0≤b∧b≤(s.length:Int) then some (.str (s.take b.toNat)) else none:=by
 simp only [lf,Ey]
 by_cases h:0≤b∧b≤(s.length:Int)
 · simp only [h,and_self,if_true,bound,List.drop_zero,Nat.sub_zero]
 · simp only [h,if_false]
theorem ail (s:List UInt8) (k:IntKind) (a:Int):lf (.str s) (some (.int k a)) none none=if 0≤a∧a≤(s.length:Int) then some (.str (s.drop a.toNat)) else none:=by
 simp only [lf,sN,Ey]
 by_cases h:0≤a∧a≤(s.length:Int)
 · simp only [h,and_self,if_true]
   rw [List.take_of_length_le (by rw [List.length_drop];omega)]
 · simp only [h,if_false]
theorem aim (s:List UInt8) (k bn:IntKind) (a b:Int):lf (.str s) (some (.int k a)) (some (.int bn b)) none=if 0≤a∧a≤b∧b≤(s.length:Int) then some (.str ((s.drop a.toNat).take (b.toNat-a.toNat))) else none:=by
 simp only [lf,Ey]
 by_cases h:0≤b∧b≤(s.length:Int)
 · simp only [h,and_self,if_true]
   by_cases ae:0≤a∧a≤b
   · have:0≤a∧a≤((b.toNat:Nat):Int):=by omega
     simp only [this,and_self,if_true,ae,h]
   · have aI:¬(0≤a∧a≤((b.toNat:Nat):Int)):=by omega
     have bu:¬(0≤a∧a≤b∧b≤(s.length:Int)):=by omega
     have cf:¬(0≤a∧a≤b∧True):=fun q=>ae ⟨q.1,q.2.1⟩
     rw [if_neg cf,if_neg aI]
 · have bu:¬(0≤a∧a≤b∧b≤(s.length:Int)):=by omega
   simp only [h,bu,if_false]
theorem aij (s:List UInt8):lf (.str s) none none none=some (.str s):=by
 simp only [lf,sN,List.drop_zero,Nat.sub_zero,List.take_length]
section
variable {P:Program}
theorem ah5 (a b:List UInt8):(en.str .eql).run P (.str a) (.str b)=some (.bool (decide (a=b))):=by simp only [en.run,qY,pD,K5]
theorem ah4 (a b:List UInt8):(en.str .add).run P (.str a) (.str b)=if a.length+b.length≤top then some (.str (a++b)) else none:=by
 simp only [en.run,qY,Dq]
 by_cases h:a.length+b.length≤top
 · rw [if_pos h,show Nat.ble (a.length+b.length) top=true from by rw [Nat.ble_eq];exact h]
   rfl
 · rw [if_neg h,show Nat.ble (a.length+b.length) top=false from by rw [←Bool.not_eq_true,Nat.ble_eq];exact h]
   rfl
theorem ah6 (s:List UInt8) (k:IntKind) (i:Int):qF.run (.str s) (.int k i)=if 0≤i∧i < (s.length:Int) then some (.int .u8 (((s[i.toNat]?).getD 0).toNat:Int)) else none:=by
 simp only [qF,V.dV,nq]
 by_cases aa:0≤i
 · simp only [aa,decide_true,cond_true,true_and]
   by_cases ae:i < (s.length:Int)
   · rw [if_pos ae,List.getElem?_eq_getElem (by omega)]
     rfl
   · rw [if_neg ae,List.getElem?_eq_none (by omega)]
 · simp only [aa,decide_false,cond_false,false_and,if_false]
theorem ah7 (a b:List UInt8):(en.str .neq).run P (.str a) (.str b)=some (.bool (!decide (a=b))):=by simp only [en.run,qY,pD,K5]
end
end Go.Proofs.YtkehcalakofigaaGreatDoor.aS
namespace Go.Proofs.YtkehcalakofigaaGreatDoor.aS
open Go Go.RowKit
set_option linter.defProp false
def aju:=
 And.intro @adQ<|And.intro @ac3<|And.intro @adY<|And.intro @ac4<|And.intro @adV<|And.intro @adZ<|And.intro @adW<|And.intro @adl<|And.intro @adb<|And.intro @ac'<|And.intro @ac_<|And.intro @adG<|And.intro @adj<|And.intro @adT<|And.intro @adM<|And.intro @aeE<|And.intro @adU<|And.intro @aeJ<|And.intro @ac8<|And.intro @aec<|And.intro @ady<|And.intro @aeu<|And.intro @adz<|And.intro @aev<|And.intro @adR<|And.intro @aeH<|And.intro @ac2<|And.intro @ad_<|And.intro @ad4<|And.intro @aeO<|And.intro @adq<|And.intro @aeo<|And.intro @adv<|And.intro @aer<|And.intro @ad1<|And.intro @aeM<|And.intro @ad0<|And.intro @aeL<|And.intro @adn<|@ael
def ajv:=
 And.intro @ado<|And.intro @aem<|And.intro @adp<|And.intro @aen<|And.intro @adt<|And.intro @aep<|And.intro @adu<|And.intro @aeq<|And.intro @adx<|And.intro @aet<|And.intro @adw<|And.intro @aes<|And.intro @adF<|And.intro @aeA<|And.intro @adm<|And.intro @aek<|And.intro @adK<|And.intro @aeD<|And.intro @adN<|And.intro @aeF<|And.intro @adf<|And.intro @aeh<|And.intro @adC<|And.intro @aey<|And.intro @adD<|And.intro @aez<|And.intro @adA<|And.intro @aew<|And.intro @adP<|And.intro @aeG<|And.intro @ac6<|And.intro @aea<|And.intro @ac7<|And.intro @aeb<|And.intro @ad2<|And.intro @aeN<|And.intro @adJ<|And.intro @aeC<|And.intro @ad5<|@aeP
def ajw:=
 And.intro @adI<|And.intro @aeB<|And.intro @adX<|And.intro @aeK<|And.intro @adS<|And.intro @aeI<|And.intro @ac0<|And.intro @ad'<|And.intro @ada<|And.intro @aef<|And.intro @adB<|And.intro @aex<|And.intro @ade<|And.intro @aeg<|And.intro @adh<|And.intro @aej<|And.intro @adg<|And.intro @aei<|And.intro @aed<|And.intro @aee<|And.intro @OI<|And.intro @ac9<|@adi
def ajx:=
 And.intro @aiK<|And.intro @aip<|And.intro @Yv<|And.intro @Yu<|And.intro @p5<|And.intro @ahM<|And.intro @UA<|And.intro @Uz<|And.intro @agR<|And.intro @Zv<|And.intro @Zu<|And.intro @UC<|And.intro @Zi<|And.intro @Zh<|And.intro @ag7<|And.intro @Zp<|And.intro @agt<|And.intro @ags<|And.intro @afe<|And.intro @afc<|And.intro @aff<|And.intro @afd<|And.intro @afg<|And.intro @HV<|And.intro @HU<|And.intro @YL<|And.intro @Zk<|And.intro @Zj<|And.intro @ai7<|And.intro @ah'<|And.intro @ah_<|And.intro @agm<|And.intro @agn<|And.intro @agQ<|And.intro @agN<|And.intro @ajk<|And.intro @ajj<|And.intro @Un<|And.intro @Uo<|@Up
def ajy:=
 And.intro @Uq<|And.intro @Um<|And.intro @SV<|And.intro @SX<|And.intro @SW<|And.intro @ai4<|And.intro @ai6<|And.intro @ai5<|And.intro @acR<|And.intro @acT<|And.intro @acS<|And.intro @acZ<|And.intro @ad3<|And.intro @adL<|And.intro @adk<|And.intro @adO<|And.intro @adH<|And.intro @adE<|And.intro @ads<|And.intro @adr<|And.intro @ac1<|And.intro @ac5<|And.intro @ajg<|And.intro @ajf<|And.intro @afs<|And.intro @afu<|And.intro @OT<|And.intro @OU<|And.intro @Ic<|And.intro @OW<|And.intro @aiF<|And.intro @aeW<|And.intro @na<|And.intro @ht<|And.intro @dG<|And.intro @qN<|And.intro @gx<|And.intro @nx<|And.intro @af0<|@X8
def ajz:=
 And.intro @agv<|And.intro @Z7<|And.intro @Ya<|And.intro @PW<|And.intro @Z_<|And.intro @Yk<|And.intro @IL<|And.intro @aai<|And.intro @Yf<|And.intro @agD<|And.intro @aae<|And.intro @Yh<|And.intro @agF<|And.intro @aag<|And.intro @Yj<|And.intro @agG<|And.intro @aah<|And.intro @X'<|And.intro @agx<|And.intro @Z9<|And.intro @Yl<|And.intro @agH<|And.intro @aaj<|And.intro @Yg<|And.intro @agE<|And.intro @aaf<|And.intro @Ye<|And.intro @agC<|And.intro @aad<|And.intro @Yb<|And.intro @agz<|And.intro @aaa<|And.intro @X9<|And.intro @agw<|And.intro @Z8<|And.intro @Yd<|And.intro @agB<|And.intro @aac<|And.intro @X_<|@agy
def ajA:=
 And.intro @Z'<|And.intro @Yc<|And.intro @agA<|And.intro @aab<|And.intro @X7<|And.intro @Z6<|And.intro @aak<|And.intro @ae'<|And.intro @ae_<|And.intro @ae9<|And.intro @beq_true<|And.intro @beq_false<|And.intro @Bool.not_true<|And.intro @Bool.not_false<|And.intro @Bool.true_and<|And.intro @Bool.and_true<|And.intro @Bool.false_and<|And.intro @Bool.and_false<|And.intro @Bool.not_not<|And.intro @V.bool.injEq<|And.intro @Nat.zero_add<|And.intro @Nat.add_zero<|And.intro @ai0<|And.intro @ai1<|And.intro @aiY<|And.intro @Bool.true_eq_false<|And.intro @Bool.false_eq_true<|And.intro @ai3<|And.intro @ahb<|And.intro @ahc<|And.intro @Ua<|And.intro @T_<|And.intro @T8<|And.intro @T5<|And.intro @aa4<|And.intro @aa6<|And.intro @aa5<|And.intro @T6<|And.intro @T7<|@T9
def ajB:=
 And.intro @T'<|And.intro @mC<|And.intro @ajE<|And.intro @qK<|And.intro @ajF<|And.intro @y_<|And.intro @ajG<|And.intro @PF<|And.intro @ajH<|And.intro @agf<|And.intro @ajI<|And.intro @PG<|And.intro @ajJ<|And.intro @agh<|And.intro @ajK<|And.intro @agi<|And.intro @ajL<|And.intro @Z1<|And.intro @ZY<|And.intro @Z0<|And.intro @ZZ<|And.intro @Z2<|And.intro @Bool.or_false<|And.intro @Bool.false_or<|And.intro @Bool.or_true<|And.intro @Bool.true_or<|And.intro @af7<|And.intro @afL<|And.intro @afP<|And.intro @agO<|And.intro @agP<|And.intro @TH<|And.intro @TN<|And.intro @TO<|And.intro @TP<|And.intro @TQ<|And.intro @TR<|And.intro @TS<|And.intro @TT<|@TU
def ajC:=
 And.intro @TG<|And.intro @TI<|And.intro @TJ<|And.intro @TK<|And.intro @TL<|And.intro @TM<|And.intro @aik<|And.intro @ail<|And.intro @aim<|And.intro @aij<|And.intro @ah5<|And.intro @ah7<|And.intro @ah4<|@ah6
end Go.Proofs.YtkehcalakofigaaGreatDoor.aS
namespace Go.Proofs.YtkehcalakofigaaGreatDoor.aS
variable [Lay]
open Go Go.RowKit
theorem sI {B:Nat} {h:af} {size:Nat} {s:V} {n:Nat} {us cs:List V} (b7:1≤size) (H1:dx B h size s n us) (cS:B≤h.next) (hlen:(n+1) * size≤top) (fU:cs.length=size) (aU:eg cs=true):
 ∃v ab,kH size s (.slice (aC h.next) 0 1 1) (h.new (.bh cs 0 false))=.val v ab∧dx B ab size v (n+1) (us++cs)∧Mod s.a7 h ab∧h.next+1≤ab.next∧∀b,v.a7 b→s.a7 b∨h.next<cd b:=by
 have au:Ext h (h.new (.bh cs 0 false)):=(Ext.refl h).new _
 have bs:et (h.new (.bh cs 0 false)) size (.slice (aC h.next) 0 1 1) 1 cs:=by
  refine ⟨by rw [fU];omega,rfl,gz (by rw [gx];omega),cs,.inr ⟨0,false,by rw [na]⟩,by omega,by simp⟩
 obtain ⟨v,ab,al,aq,aK,bG⟩:=xv b7 (H1.ext au) bs (by rw [gx];omega) hlen aU
 refine ⟨v,ab,al,aq,(au.mod _).trans aK,by have:=aK.next;rw [gx] at this;exact this,fun b ai=>?_⟩
 rcases bG b ai with q | q
 · exact .inl q
 · exact .inr (by rw [gx] at q;omega)
theorem RQ:∀l:List UInt8,mK (hs l)=some l
 | []=>rfl
 | c::l=>by
   have bg:=RQ l
   simp only [hs,mK,bg]
   simp
theorem AS:∀l:List UInt8,(hs l).length=l.length
 | []=>rfl
 | c::l=>by simp only [hs,List.length_cons,AS l]
theorem Lc:∀l m:List UInt8,hs (l++m)=hs l++hs m
 | [],m=>rfl
 | c::l,m=>by simp only [hs,List.cons_append,Lc l m]
theorem RB {h:af} {b:aQ} {us:List V} {cp:Nat} {st:Bool} {off:Nat} {l:List UInt8} (aH:h.get b=.bh us cp st) (ak:off+l.length≤us.length) (hu:(us.drop off).take l.length=hs l):sn b off l.length h=.val (.str l) h:=by
 unfold sn
 rw [aH]
 simp only [b3.nC,b3.bh]
 rw [show Nat.ble (off+l.length) us.length=true from by rw [Nat.ble_eq];exact ak]
 simp only [cond_true]
 rw [Bt us l.length off ak,hu,RQ]
theorem LQ {B:Nat} {h:af} {v:V} {n:Nat} {l:List UInt8} (H:dx B h 1 v n (hs l)):ru.run v h=.val (.str l) h:=by
 have aa:=H.1
 rw [AS,Nat.mul_one] at aa
 have ae:=H.2
 cases v<;>simp only at ae<;>try (exact ae.elim)
 case bW=>
  subst ae
  rw [List.length_eq_zero_iff] at aa
  subst aa
  rfl
 case slice=>
  obtain ⟨al,aq,aK,bG,di,us,cp,st,e0,hM,k_⟩:=ae
  rw [AS] at k_
  simp only [ru]
  rw [al,←aa]
  exact RB e0 (by omega) k_
 case dK=>
  obtain ⟨al,aq,aK,bG,di,us,st,e0,hM,k_⟩:=ae
  rw [AS] at k_ hM
  simp only [ru]
  rw [al,bG,←aa]
  exact RB e0 (by omega) (by simpa using k_)
theorem Mod.self {b:aQ} {h ab:af} (e:Mod (fun q=>q=b) h ab) (k:b3):Mod (fun q=>q=b) h (ab.set b k):=e.set (fun _=>rfl) k
theorem Mod.fresh {M:aQ→Prop} {h ab:af} (e:Mod M h ab) {i:Nat} (av:h.next≤i) (k:b3):Mod M h (ab.set (aC i) k):=
 e.set (fun q=>absurd (show cd (aC i)<h.next from q) (by rw [c6];omega)) k
theorem Mod.aiZ {M N:aQ→Prop} {h ae aI:af} (e:Mod M h ae) (q:Mod N ae aI) (aX:∀b,N b→h.next≤cd b):Mod M h aI:=
 ⟨Nat.le_trans e.next q.next,fun b aU ai=>by
   rw [q.get b (e.b0 aU) (fun k=>absurd (show cd b<h.next from aU) (by have:=aX b k;omega)),e.get b aU ai]⟩
end Go.Proofs.YtkehcalakofigaaGreatDoor.aS
namespace Go.Proofs.YtkehcalakofigaaGreatDoor.aS
variable [Lay]
set_option linter.defProp false
open Go Go.RowKit
def ah:=And.intro @aju<|And.intro @ajv @ajw
def ajl:=And.intro @ajx<|And.intro @ajy<|And.intro @ajz<|And.intro @ajA<|And.intro @ajB @ajC
def ajm:=And.intro @Option.isSome_some.{0}<|And.intro @Option.getD_some.{0}<|And.intro @if_true.{1}<|And.intro @if_false.{1}<|And.intro @true_and<|And.intro @and_true<|And.intro @List.getElem?_cons_zero.{0}<|And.intro @List.getElem?_cons_succ.{0}<|And.intro @List.length_cons.{0}<|And.intro @List.length_nil.{0}<|
 And.intro @List.drop_zero.{0}<|And.intro @List.drop_succ_cons.{0}<|And.intro @List.take_succ_cons.{0}<|And.intro @List.take_zero.{0}<|And.intro @List.cons_append.{0}<|And.intro @List.nil_append.{0}<|And.intro @Option.some.injEq.{0}<|And.intro @exists_eq_left'.{1}<|And.intro @List.cons.injEq.{0}<|
 And.intro @Nat.succ_ne_zero<|And.intro @acF<|And.intro @acE<|And.intro @List.getElem?_nil.{0}<|And.intro @decide_true<|And.intro @decide_false<|And.intro @eq_self.{1}<|And.intro @not_true_eq_false<|And.intro @not_false_eq_true<|And.intro @ite_true.{1} @ite_false.{1}
def bA:=And.intro ajl (And.intro ajm (And.intro @hN.eq_1 (And.intro @hN.eq_2 (And.intro @aW.fc.eq_1 (And.intro @aW.fc.eq_2 (And.intro @nD.eq_1 (And.intro @nD.eq_2 (And.intro @nD.eq_3 (And.intro @over.eq_1 (And.intro @over.eq_2 (And.intro @over.eq_3 (And.intro @eg.eq_1 (@eg.eq_2)))))))))))))
def ao:=And.intro bA (And.intro @dd.ends.eq_1 (And.intro @dd.ends.eq_2 (And.intro @cv.eq_1 (And.intro @cv.eq_2 (And.intro @cv.eq_3 (And.intro @cv.eq_4 (And.intro @oneOf.eq_1 (And.intro @oneOf.eq_2 top.eq_1))))))))
end Go.Proofs.YtkehcalakofigaaGreatDoor.aS
namespace Go.Proofs.YtkehcalakofigaaGreatDoor.aS
variable [Lay]
open Go Go.RowKit
theorem Yn {P:Program} {f:FuncId} (a1:Nat.beq f c7=false) {v:V} (bs:∀E x,x=.bool true→Rel E v x) (hg:∃fn,P.funcs[f]? =some fn∧fn.body.isSome=true) (H:∀w,Lay.ok w→Calls P f #[] w fun e ar=>e=.returned (.bool true)∧Below w.heap.size w ar) (h:af):
 eM P f [] h v h:=by
 refine ⟨fun e=>by subst e;simp at a1,.inl ⟨hg,fun az E w xs au s=>?_⟩⟩
 simp only [a_] at au
 subst au
 refine (H w (Lay.e8 s.laid s.frame)).mono fun e ar q=>?_
 obtain ⟨rfl,ai⟩:=q
 exact ⟨E,_,rfl,fun _ _ q=>q,bs E _ rfl,s.below ai⟩
noncomputable def pH (E:Env) (h:af) (p:hS):Env:=fun b=>if b=aC h.next then some p else E b
theorem RY (E:Env) (h:af) (p:hS):pH E h p (aC h.next)=some p:=if_pos rfl
theorem JU {az:Fr} {E:Env} {h:af} {w:World} (s:a8 az E h w) (p:hS):E.le (pH E h p):=fun b q aF=>by
 unfold pH
 rw [if_neg (fun e=>by rw [e,s.fresh _ (Nat.le_refl _)] at aF;cases aF)]
 exact aF
theorem aih {W:World} {E:Env} {h:af} (s:a8 ⟨W,fun _=>none⟩ E h W) (p:hS) (k:b3) (aU:k.own=false) (aD:fH W.heap.size (pH E h p) W (aC h.next) k):
 a8 ⟨W,fun _=>none⟩ (pH E h p) (h.new k) W:=by
 refine ⟨fun b _=>?_,fun _ _ h=>(by cases h),fun b bJ q dZ aa ae aB aO aF=>?_,fun i av=>?_,s.frame,s.laid,fun b q n cs st aa aB=>by
  rw [ht] at aa
  by_cases bz:aC h.next=b
  · rw [if_pos bz] at aa;rw [aa] at aU;cases aU
  · rw [if_neg bz] at aa
    unfold pH at aB
    rw [if_neg (fun e=>bz e.symm)] at aB
    exact s.base _ _ _ _ _ aa aB⟩
 · rw [ht]
   by_cases e:aC h.next=b
   · subst e
     rw [if_pos rfl]
     exact aD
   · rw [if_neg e]
     exact (s.a7 b rfl).mono (JU s p)
 · rw [ht] at aa ae
   by_cases bz:aC h.next=b
   · rw [if_pos bz,aU] at aa;cases aa
   · by_cases bN:aC h.next=bJ
     · rw [if_pos bN,aU] at ae;cases ae
     · rw [if_neg bz] at aa
       rw [if_neg bN] at ae
       unfold pH at aB aO
       rw [if_neg (fun e=>bz e.symm)] at aB
       rw [if_neg (fun e=>bN e.symm)] at aO
       exact s.inj b bJ q dZ aa ae aB aO aF
 · rw [gx] at av
   unfold pH
   rw [if_neg (fun e=>by have:=g' e;omega)]
   exact s.fresh i (by omega)
theorem aii {W:World} {E:Env} {h:af} (s:a8 ⟨W,fun _=>none⟩ E h W) {k base cap:Nat} {c:Array Value} {el:TypeId} {bS:Nat × Nat} (aD:W.heap[k]? =some (.cells c el bS)) {ad:List V}
 (aw:base+ad.length≤c.size) (aJ:∀i v y,ad[i]? =some v→c[base+i]? =some y→Rel E v y):
 a8 ⟨W,fun _=>none⟩ (pH E h ⟨k,base,cap⟩) (h.new (.ro ad)) W:=by
 refine aih s _ _ rfl ?_
 have aN:k<W.heap.size:=by
  by_cases aN:k<W.heap.size
  · exact aN
  · rw [Array.getElem?_eq_none (by omega)] at aD
    cases aD
 refine ⟨trivial,⟨k,base,cap⟩,c,el,bS,RY _ _ _,aN,aD,aw,fun i y av a1=>?_⟩
 have:T.get .bad (aC i) (e9 .e 0 ad)=ad[i]:=by
  have:=xY ad 0 i .e
  rw [Nat.zero_add] at this
  rw [this,if_pos av,List.getElem?_eq_getElem av]
  rfl
 rw [this]
 exact Rel.mono (JU s _) _ _ (aJ i _ y (List.getElem?_eq_getElem av) a1)
end Go.Proofs.YtkehcalakofigaaGreatDoor.aS
