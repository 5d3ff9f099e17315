/- The abstract machine and its walks (a verified interpreter of the model's code: plain definitions and lemmas, no condition). Printed by a program from longer texts: names made short. -/
import Derived.Test.YtkehcalakofigaaGreatDoorM3
import Derived.IntWalk
import Derived.ChangeArms
import Derived.DataReads
set_option linter.unusedSectionVars false
set_option linter.unusedSimpArgs false
set_option linter.unusedVariables false
namespace Go.Proofs.YtkehcalakofigaaGreatDoor.aY
variable [Lay]
open Go Go.RowKit
inductive aQ where
 | t (n:Nat)
 | c (v:V)
abbrev aS:=Nat→V
def aQ.aU (r:aS):aQ→V
 | .t n=>r n
 | .c v=>v
def aQ.eJ (r:aS):List aQ→List V
 | []=>[]
 | x::xs=>x.aU r::aQ.eJ r xs
def rx:Operand→aQ
 | .tmp t=>bif Nat.ble t top then .t t else .c .bad
 | .const v=>.c (fI v)
 | .func f=>bif Nat.beq f cJ then .c .bad else .c (.func f [])
 | .global _=>.c .bad
def k2:List Operand→List aQ
 | []=>[]
 | x::xs=>rx x::k2 xs
def aQ.opt (r:aS):Option aQ→Option V
 | none=>none
 | some x=>some (x.aU r)
def oS:Option Operand→Option aQ
 | none=>none
 | some x=>some (rx x)
inductive dN where
 | int (op:BinOp)
 | str (op:BinOp)
 | shl
 | shr
 | sJ (neg:Bool)
 | iy (neg:Bool) (k:Nat)
 | other (op:BinOp) (t:TypeId)
noncomputable def dN.run (P:Program):dN→V→V→Option V
 | .int op=>(jf op).run
 | .str op=>(oW op).run
 | .shl=>(r0 true).run
 | .shr=>(r0 false).run
 | .sJ neg=>(hb neg mV).run
 | .iy neg k=>(hb neg (fr k)).run
 | .other op t=>(nV P op t).run
inductive o7 where
 | int (k:IntKind)
 | bytes
 | str
 | other (s d:TypeId)
noncomputable def o7.run (P:Program):o7→V→ae→aT
 | .int k=>fun x h=>x.dz .fail fun _ n=>.val (.int k (k.wrap n)) h
 | .bytes=>u1.run
 | .str=>pn.run
 | .other s d=>(mT P s d).run
inductive k7 where
 | int | str | bool
def k7.eq:k7→c1
 | .int=>jA
 | .str=>qP
 | .bool=>mV
inductive xj where
 | arr (n:Nat)
 | str
 | slice
 | map
inductive G where
 | bad
 | dc (x:aQ)
 | pick (c a b:aQ)
 | new (z:List V)
 | box (x:aQ)
 | build (z:List V) (a':List (Nat × Nat × aQ))
 | gP (len size:Nat) (z:List V) (a':List (Nat × Nat × aQ))
 | fU (x:aQ)
 | hT (size:Nat) (x:aQ)
 | st (size:Nat) (x y:aQ)
 | pX (x:aQ)
 | bin (k:dN) (x y:aQ)
 | un (op:UnOp) (x:aQ)
 | gQ (k:o7) (x:aQ)
 | fn (f:FuncId) (dP:List aQ)
 | wb (f:FuncId) (first:List aQ)
 | xw (t:TypeId) (z:Option V) (ok:Bool) (x:aQ)
 | oy (t:TypeId) (x:aQ)
 | tE (size:Nat) (z:List V) (l c:aQ)
 | nA (x:aQ) (bI aC dk:Option aQ)
 | gD (size:Nat) (x:aQ) (bI aC dk:Option aQ)
 | fs (off:Nat) (x:aQ)
 | qU (off:Nat) (x:aQ)
 | qV (off size:Nat) (x:aQ)
 | dy (size:Nat) (x i:aQ)
 | pJ (n size:Nat) (x i:aQ)
 | jP (x i:aQ)
 | hC (t:TypeId) (x i:aQ)
 | look (k:k7) (z:V) (ok:Bool) (x i:aQ)
 | wT (k:k7) (m i x:aQ)
 | wa (x:Option aQ)
 | t' (x:aQ)
 | tL (x:aQ)
 | ext (x:aQ) (i:Nat)
 | call (f:FuncId) (args:List aQ)
 | lf (f:aQ) (args:List aQ)
 | len (k:xj) (x:aQ)
 | app (size:Nat) (s x:aQ)
 | copy (size:Nat) (d s:aQ)
 | tF (args:List aQ)
 | dk (args:List aQ)
 | Hc (z:List V) (x:aQ)
def h4 (r:aS):List (Nat × Nat × aQ)→List (Nat × Nat × V)
 | []=>[]
 | (o,s,x)::a'=>(o,s,x.aU r)::h4 r a'
def gS:List V→List (Nat × Nat × V)→Option (List V)
 | cells,[]=>some cells
 | cells,(off,size,v)::rest=>bif v.e9&&(Nat.beq v.cells.length size&&Nat.ble (off+v.cells.length) cells.length) then gS (n2 cells off v.cells) rest else none
noncomputable def xj.run:xj→V→ae→aT
 | .arr n=>fun _ h=>.val (.int .i64 n) h
 | .str=>fun x h=>aT.of h ((lE .string).run x)
 | .slice=>fun x h=>aT.of h ((lE (.slice 0)).run x)
 | .map=>fun x h=>vY [x] h
noncomputable def G.run (P:Program) (g:G) (call:c4) (r:aS) (h:ae):aT:=
 match g with
 | .bad=>.fail
 | .dc x=>.val (x.aU r) h
 | .pick c a b=>match c.aU r with
   | .bool t=>.val (bif t then a.aU r else b.aU r) h
   | _=>.fail
 | .new z=>fW (.ptr (aG h.next) 0) (e4 h z)
 | .box x=>bif (x.aU r).e9 then fW (.ptr (aG h.next) 0) (e4 h (x.aU r).cells) else .fail
 | .build z a'=>(match gS z (h4 r a') with
   | some cs=>.val (.agg cs) h
   | none=>.fail)
 | .gP n _ z a'=>match gS (gM z n) (h4 r a') with
   | some cs=>(match e4 h cs with
     | some aa=>.val (.slice (aG h.next) 0 n n) aa
     | none=>.fail)
   | none=>.fail
 | .fU x=>aT.of h (kn h (x.aU r))
 | .hT n x=>aT.of h (km n h (x.aU r))
 | .st n x y=>fW .bad (r1 n h (x.aU r) (y.aU r))
 | .pX x=>aT.of h (pW (x.aU r))
 | .bin k x y=>aT.of h (k.run P (x.aU r) (y.aU r))
 | .un op x=>aT.of h (nD op (x.aU r))
 | .gQ k x=>k.run P (x.aU r) h
 | .fn f dP=>.val (.func f (aQ.eJ r dP)) h
 | .wb f first=>.val (.jR f (aQ.eJ r first)) h
 | .xw t z ok x=>aT.of h (uM t z ok (x.aU r))
 | .oy t x=>.val (.iface t (x.aU r)) h
 | .tE n z l c=>tC n z (l.aU r) (c.aU r) h
 | .nA x bI aC m3=>aT.of h (jU (x.aU r) (aQ.opt r bI) (aQ.opt r aC) (aQ.opt r m3))
 | .gD n x bI aC m3=>aT.of h (match x.aU r with
   | .cq=>z1 (aQ.opt r bI) (aQ.opt r aC) (aQ.opt r m3)
   | .slice b off rH cap=>qb n b off rH cap (aQ.opt r bI) (aQ.opt r aC) (aQ.opt r m3)
   | .dQ b off rH idx=>uf n b off rH idx (aQ.opt r bI) (aQ.opt r aC) (aQ.opt r m3)
   | .fA b off kZ idx=>z6 b off kZ idx (aQ.opt r bI) (aQ.opt r aC) (aQ.opt r m3)
   | _=>none)
 | .fs off x=>aT.of h ((x.aU r).hl none fun b o=>some (.ptr b (o+off)))
 | .qU off x=>aT.of h (match x.aU r with
   | .agg cs=>cs[off]?
   | _=>none)
 | .qV off n x=>aT.of h (match x.aU r with
   | .agg cs=>some (.agg ((cs.drop off).take n))
   | _=>none)
 | .dy n x i=>aT.of h ((rC n).run (x.aU r) (i.aU r))
 | .pJ n s x i=>aT.of h ((oA n s).run (x.aU r) (i.aU r))
 | .jP x i=>aT.of h (oC.run (x.aU r) (i.aU r))
 | .hC t x i=>aT.of h ((oB P t).run (x.aU r) (i.aU r))
 | .look k z ok x i=>aT.of h (jk k.eq z ok h (x.aU r) (i.aU r))
 | .wT k m i x=>fW .bad (nE k.eq h (m.aU r) (i.aU r) (x.aU r))
 | .wa x=>rJ (aQ.opt r x) h
 | .t' x=>(match x.aU r with
   | .str s=>.val (.ptr (aG h.next) 0) (h.new (.iter s 0))
   | _=>.fail)
 | .tL x=>rL (x.aU r) h
 | .ext x i=>(match x.aU r with
   | .tuple ab=>aT.of h ab[i]?
   | _=>.fail)
 | .call f args=>call f (aQ.eJ r args) h
 | .lf f args=>(f.aU r).tM (aQ.eJ r args) fun g xs=>call g xs h
 | .len k x=>k.run (x.aU r) h
 | .app n s x=>lU n (s.aU r) (x.aU r) h
 | .copy n d s=>copyV n (d.aU r) (s.aU r) h
 | .tF args=>aT.of h (ie (fun b a=>!Int.leB a b) (aQ.eJ r args))
 | .dk args=>aT.of h (ie (fun b a=>!Int.leB b a) (aQ.eJ r args))
 | .Hc z x=>xM z (x.aU r) h
def E6 (P:Program) (op:BinOp) (t:TypeId):dN:=
 match op with
 | .shl=>.shl
 | .shr=>.shr
 | op=>match aX P t with
   | none=>.other op t
   | some aL=>match aL.a_ with
     | .int _=>.int op
     | .string=>.str op
     | .bool=>(match op with
       | .eql=>.sJ false
       | .neq=>.sJ true
       | _=>.other op t)
     | .pointer _=>(match op with
       | .eql=>.iy false 1
       | .neq=>.iy true 1
       | _=>.other op t)
     | .slice _=>(match op with
       | .eql=>.iy false 2
       | .neq=>.iy true 2
       | _=>.other op t)
     | .map _ _=>(match op with
       | .eql=>.iy false 3
       | .neq=>.iy true 3
       | _=>.other op t)
     | .func _ _ _=>(match op with
       | .eql=>.iy false 4
       | .neq=>.iy true 4
       | _=>.other op t)
     | _=>.other op t
def E_ (P:Program) (op:BinOp) (t:TypeId) (lit:Bool):dN:=
 bif lit then (match aX P t with
  | some aL=>match aL.a_ with
    | .interface _=>match op with
      | .eql=>.iy false 5
      | .neq=>.iy true 5
      | _=>.iy false 99
    | _=>.iy false 99
  | none=>.iy false 99) else E6 P op t
def E9 (P:Program) (s d:TypeId):o7:=
 match aX P s,aX P d with
 | some qa,some lh=>match lh.a_ with
   | .int k=>.int k
   | .string=>match qa.a_ with
     | .slice e=>match aX P e with
       | some bb=>match bb.a_ with
         | .int .u8=>.str
         | _=>.other s d
       | none=>.other s d
     | _=>.other s d
   | .slice e=>match aX P e with
     | some bb=>match bb.a_ with
       | .int .u8=>.bytes
       | _=>.other s d
     | none=>.other s d
   | _=>.other s d
 | _,_=>.other s d
def mF (place:Nat→Option (Nat × Nat)):List (Nat × Operand)→Option (List (Nat × Nat × aQ))
 | []=>some []
 | (i,x)::a'=>match place i with
   | none=>none
   | some (off,size)=>match mF place a' with
     | none=>none
     | some l=>some ((off,size,rx x)::l)
def LM (P:Program) (t:TypeId) (a':List (Nat × Operand)):G:=
 match aX P t with
 | some aL=>match aL.zero with
   | some z=>match aL.a_ with
     | .struct bP=>bif x6 P bP.toList then (match mF (sN P bP) a' with
       | some l=>.build z.cells l
       | none=>.bad) else .bad
     | .array _ e=>match aX P e with
       | some bb=>(match mF (fun i=>some (i * bb.size,bb.size)) a' with
         | some l=>.build z.cells l
         | none=>.bad)
       | none=>.bad
     | _=>.bad
   | none=>.bad
 | none=>.bad
def LP (P:Program) (t:TypeId) (len:Nat) (a':List (Nat × Operand)):G:=
 match aX P t with
 | some aL=>match aL.a_ with
   | .slice e=>match aX P e with
     | some bb=>match bb.zero with
       | some z=>bif Nat.ble (len * bb.size) 1000000&&Nat.beq z.cells.length bb.size then
          (match mF (fun i=>some (i * bb.size,bb.size)) a' with
          | some l=>.gP len bb.size z.cells l
          | none=>.bad) else .bad
       | none=>.bad
     | none=>.bad
   | _=>.bad
 | none=>.bad
def rG:TypeDesc→Option k7
 | .int _=>some .int
 | .string=>some .str
 | .bool=>some .bool
 | _=>none
def B6 (P:Program) (t:TypeId):Option (List V):=
 match aX P t with
 | some aL=>match aL.a_ with
   | .slice e=>match aX P e with
     | some bb=>match bb.zero with
       | some z=>some z.cells
       | none=>none
     | none=>none
   | _=>none
 | none=>none
theorem Rz (P:Program) (t:TypeId):uY P t=B6 P t:=rfl
def E8 (P:Program) (c:Call):G:=
 match c.callee with
 | .value (.func f)=>bif Nat.beq f cJ then .bad else .call f (k2 c.args.toList)
 | .value x=>.lf (rx x) (k2 c.args.toList)
 | .invoke _ _=>.bad
 | .builtin b=>match b with
   | .len=>match c.argTypes.toList,c.args.toList with
     | [t],[x]=>(match aX P t with
       | some aL=>(match aL.a_ with
         | .map _ _=>.len .map (rx x)
         | .array n _=>.len (.arr n) (rx x)
         | .string=>.len .str (rx x)
         | .slice _=>.len .slice (rx x)
         | _=>.bad)
       | none=>.bad)
     | _,_=>.bad
   | .append=>match c.argTypes.toList,c.args.toList with
     | [t,u],[s,x]=>(match aX P t,aX P u with
       | some aL,some o1=>(match o1.a_ with
         | .int _=>.bad
         | _=>match aL.a_ with
           | .slice e=>(match aX P e with
             | none=>.bad
             | some bb=>match bb.zero with
               | none=>.bad
               | some z=>bif Nat.ble 1 bb.size&&Nat.ble bb.bytes 4096&&Nat.beq z.cells.length bb.size then .app bb.size (rx s) (rx x) else .bad)
           | _=>.bad)
       | _,_=>.bad)
     | _,_=>.bad
   | .copy=>match c.argTypes.toList,c.args.toList with
     | t::_,[d,s]=>(match aX P t with
       | some aL=>(match aL.a_ with
         | .slice e=>(match aX P e with
           | some bb=>.copy bb.size (rx d) (rx s)
           | none=>.bad)
         | _=>.bad)
       | none=>.bad)
     | _,_=>.bad
   | .min=>.tF (k2 c.args.toList)
   | .max=>.dk (k2 c.args.toList)
   | .clear=>match c.argTypes.toList,c.args.toList with
     | [t],[x]=>(match B6 P t with
       | some z=>.Hc z (rx x)
       | none=>.bad)
     | _,_=>.bad
   | _=>.bad
def zO (P:Program) (op:Op):G:=
 match op with
 | .move x=>.dc (rx x)
 | .assign x=>.dc (rx x)
 | .pick c a b=>.pick (rx c) (rx a) (rx b)
 | .alloc t=>(match aX P t with
   | some aL=>(match aL.zero with
     | some z=>.new z.cells
     | none=>.bad)
   | none=>.bad)
 | .box _ x=>.box (rx x)
 | .build t a'=>LM P t a'.toList
 | .buildSlice t n a'=>LP P t n a'.toList
 | .load t x=>(match aX P t with
   | none=>.bad
   | some aL=>bif aL.agg then .hT aL.size (rx x) else bif Nat.beq aL.size 1 then .fU (rx x) else .bad)
 | .store t x y=>(match aX P t with
   | none=>.bad
   | some aL=>.st aL.size (rx x) (rx y))
 | .nilCheck x=>.pX (rx x)
 | .binOp op t x y _=>.bin (E_ P op t (nu x||nu y)) (rx x) (rx y)
 | .unOp op _ x=>.un op (rx x)
 | .convert s d x=>.gQ (E9 P s d) (rx x)
 | .makeFunc (.func f) first dP=>bif first.isEmpty&&!Nat.beq f cJ then .fn f (k2 dP.toList) else bif dP.isEmpty&&!Nat.beq f cJ then .wb f (k2 first.toList) else .bad
 | .makeInterface t x=>(match aX P t with
   | some aL=>bif Nat.beq (dW aL.a_) 5 then .bad else .oy t (rx x)
   | none=>.bad)
 | .makeSlice t l c=>(match aX P t with
   | some aL=>(match aL.a_ with
     | .slice e=>(match aX P e with
       | some bb=>(match bb.zero with
         | some z=>bif Nat.ble bb.bytes 4096 then .tE bb.size z.cells (rx l) (rx c) else .bad
         | none=>.bad)
       | none=>.bad)
     | _=>.bad)
   | none=>.bad)
 | .slice t x bI aC dk=>(match aX P t with
   | none=>.bad
   | some aL=>match aL.a_ with
     | .string=>.nA (rx x) (oS bI) (oS aC) (oS dk)
     | .slice e=>(match aX P e with
       | none=>.bad
       | some bb=>.gD bb.size (rx x) (oS bI) (oS aC) (oS dk))
     | _=>.bad)
 | .fieldAddr t x i=>(match m_ P t i with
   | none=>.bad
   | some f=>match aX P f.type with
     | none=>.bad
     | some h5=>bif Nat.beq h5.size 0 then .bad else .fs f.offset (rx x))
 | .field t x i=>(match m_ P t i with
   | none=>.bad
   | some f=>match aX P f.type with
     | none=>.bad
     | some aL=>bif aL.agg then .qV f.offset aL.size (rx x) else .qU f.offset (rx x))
 | .indexAddr t x i=>(match aX P t with
   | none=>.bad
   | some aL=>match aL.a_ with
     | .slice e=>(match aX P e with
       | none=>.bad
       | some bb=>.dy bb.size (rx x) (rx i))
     | .array n e=>(match aX P e with
       | none=>.bad
       | some bb=>.pJ n bb.size (rx x) (rx i))
     | _=>.bad)
 | .index t x i=>(match aX P t with
   | none=>.bad
   | some aL=>match aL.a_ with
     | .string=>.jP (rx x) (rx i)
     | _=>.hC t (rx x) (rx i))
 | .range t x=>(match aX P t with
   | some aL=>(match aL.a_ with
     | .string=>.t' (rx x)
     | _=>.bad)
   | none=>.bad)
 | .next it true=>.tL (rx it)
 | .lookup t x k ok=>(match aX P t with
   | some aL=>(match aL.a_ with
     | .map bl e=>(match aX P bl with
       | some fT=>(match aX P e with
         | some bb=>(match bb.zero with
           | some z=>(match rG fT.a_ with
             | some cc=>.look cc z ok (rx x) (rx k)
             | none=>.bad)
           | none=>.bad)
         | none=>.bad)
       | none=>.bad)
     | _=>.bad)
   | none=>.bad)
 | .mapUpdate t m k x | .insert t m k x=>(match aX P t with
   | some aL=>(match aL.a_ with
     | .map bl _=>(match aX P bl with
       | some fT=>(match rG fT.a_ with
         | some cc=>.wT cc (rx m) (rx k) (rx x)
         | none=>.bad)
       | none=>.bad)
     | _=>.bad)
   | none=>.bad)
 | .makeMap t x=>(match aX P t with
   | some aL=>bif Nat.beq (dW aL.a_) 3 then .wa (oS x) else .bad
   | none=>.bad)
 | .extract x i=>.ext (rx x) i
 | .typeAssert x _ t ok=>(match aX P t with
   | some aL=>bif Nat.beq (dW aL.a_) 5 then .bad else .xw t aL.zero ok (rx x)
   | none=>.bad)
 | .call c=>E8 P c
 | _=>.bad
noncomputable def dm (cr:bp):aS:=fun t=>T.get .bad (aG t) cr
theorem eZ (cr:bp) (x:Operand):(bA x).run cr=(rx x).aU (dm cr):=by
 cases x with
 | tmp t=>
   simp only [bA,rx]
   cases Nat.ble t top<;>rfl
 | const v=>rfl
 | func f=>
   simp only [bA,rx]
   cases Nat.beq f cJ<;>rfl
 | global g=>rfl
theorem sL (cr:bp):∀xs:List Operand,(mY xs).run cr=aQ.eJ (dm cr) (k2 xs)
 | []=>rfl
 | x::xs=>by simp only [mY,k2,aQ.eJ,eZ,sL cr xs]
theorem EK (cr:bp) (x:Option Operand):(nx x).run cr=aQ.opt (dm cr) (oS x):=by
 cases x with
 | none=>rfl
 | some x=>simp only [nx,oS,aQ.opt,eZ]
theorem x7 (cr:bp) {place:Nat→Option (Nat × Nat)}:∀{a':List (Nat × Operand)} {l:List (Nat × Nat × aQ)},mF place a'=some l→∀cells,j9 place cells ((p2 a').run cr)=gS cells (h4 (dm cr) l)
 | [],l,h,cells=>by
   simp only [mF,Option.some.injEq] at h
   subst h
   rfl
 | (i,x)::a',l,h,cells=>by
   simp only [mF] at h
   cases ag:place i with
   | none=>rw [ag] at h;cases h
   | some os=>
     obtain ⟨off,size⟩:=os
     rw [ag] at h
     simp only at h
     cases aj:mF place a' with
     | none=>rw [aj] at h;cases h
     | some dY=>
       rw [aj] at h
       simp only [Option.some.injEq] at h
       subst h
       simp only [p2,j9,ag,h4,gS,eZ]
       cases ((rx x).aU (dm cr)).e9&&(Nat.beq ((rx x).aU (dm cr)).cells.length size&&Nat.ble (off + ((rx x).aU (dm cr)).cells.length) cells.length) with
       | false=>rfl
       | true=>exact x7 cr aj _
section
variable {P:Program}
theorem aau (op:BinOp) (t:TypeId):(E6 P op t).run P=(nV P op t).run:=by
 unfold E6 nV
 cases op<;>first | rfl | skip
 all_goals
  cases aB:aX P t with
  | none=>simp only [dN.run];unfold nV;rw [aB]
  | some aL=>
    simp only
    cases hu:aL.a_<;>first | rfl | (simp only [dN.run];unfold nV;rw [aB];simp only [hu];done) | (simp only [dN.run];unfold l4 fN;simp only [aB,hu];first | done | rfl)
theorem aax (op:BinOp) (t:TypeId) (lit:Bool):(E_ P op t lit).run P=(uO P op t lit).run:=by
 unfold E_ uO
 cases lit with
 | false=>simp only [cond_false];exact aau op t
 | true=>
   simp only [cond_true]
   cases aX P t with
   | none=>rfl
   | some aL=>
     simp only
     cases aL.a_<;>first | rfl | (cases op<;>rfl)
theorem aaw (s d:TypeId):(E9 P s d).run P=(mT P s d).run:=by
 unfold E9
 split
 · rename_i qa lh aR aV
   split
   · rename_i k hu
     simp only [o7.run];unfold mT;rw [aR,aV];simp only [hu]
   · rename_i hu
     split
     · rename_i e bw
       split
       · rename_i bb he
         split
         · rename_i hw
           simp only [o7.run];unfold mT;rw [aR,aV];simp only [hu,bw,he,hw]
         · rfl
       · rfl
     · rfl
   · rename_i e hu
     split
     · rename_i bb he
       split
       · rename_i hw
         simp only [o7.run];unfold mT;rw [aR,aV];simp only [hu,he,hw]
       · rfl
     · rfl
   · rfl
 · rfl
theorem Ea {d:TypeDesc} {cc:k7} (h:rG d=some cc):kS d=true∧iG d=cc.eq:=by
 cases d<;>simp only [rG] at h<;>first | (cases h;done) | (cases h;exact ⟨rfl,rfl⟩)
theorem aav {c:Call} {call:c4} {cr:bp} {h aa:ae} {v:V} (he:(E8 P c).run P call (dm cr) h=.val v aa):(nY P c).run call cr h=.val v aa:=by
 unfold E8 at he
 unfold nY
 split at he
 · rename_i f aq
   rw [aq]
   cases a1:Nat.beq f cJ with
   | true=>rw [a1] at he;cases he
   | false=>
     rw [a1] at he
     simp only [cond_false,G.run] at he
     simpa only [bA,a1,cond_false,mX,V.tM,sL,List.append_nil] using he
 · rename_i x ao aq
   rw [aq]
   simp only [G.run] at he
   simpa only [eZ,sL] using he
 · cases he
 · rename_i b aq
   rw [aq]
   simp only [sL]
   cases b<;>simp only at he<;>try (cases he;done)
   case len=>
    split at he
    · rename_i t x aB ao
      cases kQ:aX P t with
      | none=>rw [kQ] at he;cases he
      | some aL=>
        rw [kQ] at he
        simp only at he
        simp only [nW,aB,kQ,ao,k2,aQ.eJ]
        cases hu:aL.a_<;>rw [hu] at he<;>first | (cases he;done) | (simpa only [pO,cond_true,cond_false,G.run,xj.run,lE,aT.of] using he)
    · cases he
   case append=>
    split at he
    · rename_i t u s x aB ao
      split at he
      · rename_i aL o1 kQ tp
        simp only [nW,aB,ao,k2,aQ.eJ,xr,kQ,tp]
        split at he
        · cases he
        · rename_i c2
          split at he
          · rename_i e b5
            cases ek:aX P e with
            | none=>rw [ek] at he;cases he
            | some bb=>
              rw [ek] at he
              simp only at he
              cases bn:bb.zero with
              | none=>rw [bn] at he;cases he
              | some z=>
                rw [bn] at he
                simp only at he
                cases af:(Nat.ble 1 bb.size&&Nat.ble bb.bytes 4096&&Nat.beq z.cells.length bb.size) with
                | false=>rw [af] at he;cases he
                | true=>
                  rw [af] at he
                  simp only [cond_true,G.run] at he
                  cases DS:o1.a_<;>first
                   | (exact absurd DS (c2 _))
                   | (simp only [b5,ek,bn,af,cond_true];exact he)
          · cases he
      · cases he
    · cases he
   case copy=>
    split at he
    · rename_i t b7 d s aB ao
      cases kQ:aX P t with
      | none=>rw [kQ] at he;cases he
      | some aL=>
        rw [kQ] at he
        simp only at he
        split at he
        · rename_i e b5
          cases ek:aX P e with
          | none=>rw [ek] at he;cases he
          | some bb=>
            rw [ek] at he
            simp only [G.run] at he
            simp only [nW,aB,ao,k2,aQ.eJ,xN,kQ,b5,ek]
            exact he
        · cases he
    · cases he
   case min=>exact he
   case max=>exact he
   case clear=>
    split at he
    · rename_i t x aB ao
      cases aq:B6 P t with
      | none=>rw [aq] at he;cases he
      | some z=>
        rw [aq] at he
        simp only [G.run] at he
        simp only [nW,aB,ao,k2,aQ.eJ,Rz,aq]
        exact he
    · cases he
theorem LN {o:Oper} {call:c4} {cr:bp} {h aa:ae} {v:V} (he:(zO P o.op).run P call (dm cr) h=.val v aa):(eb P o).run call cr h=.val v aa:=by
 obtain ⟨dst,op,type,pos,after,guard⟩:=o
 cases op<;>simp only [zO] at he<;>try (cases he;done)
 all_goals simp only [eb]
 case move x=>simpa only [eZ,G.run] using he
 case assign x=>simpa only [eZ,G.run] using he
 case pick c a b=>
  simp only [eZ,G.run] at he ⊢
  generalize (rx c).aU (dm cr)=q at he ⊢
  cases q<;>exact he
 case alloc t=>
  cases aB:aX P t with
  | none=>rw [aB] at he;cases he
  | some aL=>
    rw [aB] at he
    simp only at he ⊢
    cases bn:aL.zero with
    | none=>rw [bn] at he;cases he
    | some z=>rw [bn] at he;exact he
 case box t x=>simpa only [eZ,G.run] using he
 case build t a'=>
  unfold LM at he
  unfold xD
  cases aB:aX P t with
  | none=>rw [aB] at he;cases he
  | some aL=>
    rw [aB] at he
    simp only at he ⊢
    cases bn:aL.zero with
    | none=>rw [bn] at he;cases he
    | some z=>
      rw [bn] at he
      simp only at he ⊢
      cases hu:aL.a_<;>rw [hu] at he<;>simp only at he ⊢<;>try (cases he;done)
      · rename_i n e
        cases ek:aX P e with
        | none=>rw [ek] at he;cases he
        | some bb=>
          rw [ek] at he
          simp only at he ⊢
          cases ag:mF (fun i=>some (i * bb.size,bb.size)) a'.toList with
          | none=>rw [ag] at he;cases he
          | some l=>
            rw [ag] at he
            simp only [G.run] at he
            rw [x7 cr ag]
            cases ax:gS z.cells (h4 (dm cr) l) with
            | none=>rw [ax] at he;cases he
            | some cs=>rw [ax] at he;exact he
      · rename_i bP
        cases az:x6 P bP.toList with
        | false=>rw [az] at he;cases he
        | true=>
          rw [az] at he
          simp only [cond_true] at he ⊢
          cases ag:mF (sN P bP) a'.toList with
          | none=>rw [ag] at he;cases he
          | some l=>
            rw [ag] at he
            simp only [G.run] at he
            rw [x7 cr ag]
            cases ax:gS z.cells (h4 (dm cr) l) with
            | none=>rw [ax] at he;cases he
            | some cs=>rw [ax] at he;exact he
 case buildSlice t n a'=>
  unfold LP at he
  unfold qG
  cases aB:aX P t with
  | none=>rw [aB] at he;cases he
  | some aL=>
    rw [aB] at he
    simp only at he ⊢
    cases hu:aL.a_<;>rw [hu] at he<;>simp only at he ⊢<;>try (cases he;done)
    rename_i e
    cases ek:aX P e with
    | none=>rw [ek] at he;cases he
    | some bb=>
      rw [ek] at he
      simp only at he ⊢
      cases bn:bb.zero with
      | none=>rw [bn] at he;cases he
      | some z=>
        rw [bn] at he
        simp only at he ⊢
        cases af:(Nat.ble (n * bb.size) 1000000&&Nat.beq z.cells.length bb.size) with
        | false=>rw [af] at he;cases he
        | true=>
          rw [af] at he
          simp only [cond_true] at he ⊢
          cases ag:mF (fun i=>some (i * bb.size,bb.size)) a'.toList with
          | none=>rw [ag] at he;cases he
          | some l=>
            rw [ag] at he
            simp only [G.run] at he
            rw [x7 cr ag]
            exact he
 case load t x=>
  unfold mz
  cases aB:aX P t with
  | none=>rw [aB] at he;cases he
  | some aL=>
    rw [aB] at he
    simp only at he ⊢
    cases bm:aL.agg with
    | true=>rw [bm] at he;simpa only [cond_true,eZ,G.run] using he
    | false=>
      rw [bm] at he
      simp only [cond_false] at he ⊢
      cases aR:Nat.beq aL.size 1 with
      | true=>rw [aR] at he;simpa only [cond_true,eZ,G.run] using he
      | false=>rw [aR] at he;cases he
 case store t x y=>
  unfold oU
  cases aB:aX P t with
  | none=>rw [aB] at he;cases he
  | some aL=>rw [aB] at he;simpa only [eZ,G.run] using he
 case nilCheck x=>simpa only [eZ,G.run] using he
 case binOp op t x y t2=>simpa only [eZ,G.run,aax] using he
 case unOp op t x=>simpa only [eZ,G.run] using he
 case convert s d x=>simpa only [eZ,G.run,aaw] using he
 case makeFunc fn first dP=>
  cases fn<;>simp only at he<;>try (cases he;done)
  simp only
  cases ax:(first.isEmpty&&!Nat.beq _ cJ) with
  | true=>rw [ax] at he;simpa only [cond_true,sL,G.run] using he
  | false=>
    rw [ax] at he
    simp only [cond_false] at he ⊢
    cases hd:(dP.isEmpty&&!Nat.beq _ cJ) with
    | true=>rw [hd] at he;simpa only [cond_true,sL,G.run] using he
    | false=>rw [hd] at he;cases he
 case typeAssert x qg t ok=>
  cases aB:aX P t with
  | none=>rw [aB] at he;cases he
  | some aL=>
    rw [aB] at he
    simp only at he ⊢
    cases af:Nat.beq (dW aL.a_) 5 with
    | true=>rw [af] at he;cases he
    | false=>rw [af] at he;simpa only [cond_false,eZ,G.run] using he
 case makeInterface t x=>
  cases aB:aX P t with
  | none=>rw [aB] at he;cases he
  | some aL=>
    rw [aB] at he
    simp only at he ⊢
    cases af:Nat.beq (dW aL.a_) 5 with
    | true=>rw [af] at he;cases he
    | false=>rw [af] at he;simpa only [cond_false,eZ,G.run] using he
 case makeSlice t l c=>
  unfold y_
  cases aB:aX P t with
  | none=>rw [aB] at he;cases he
  | some aL=>
    rw [aB] at he
    simp only at he ⊢
    cases hu:aL.a_<;>rw [hu] at he<;>simp only at he ⊢<;>try (cases he;done)
    rename_i e
    cases ek:aX P e with
    | none=>rw [ek] at he;cases he
    | some bb=>
      rw [ek] at he
      simp only at he ⊢
      cases bn:bb.zero with
      | none=>rw [bn] at he;cases he
      | some z=>
        rw [bn] at he
        simp only at he ⊢
        cases af:Nat.ble bb.bytes 4096 with
        | false=>rw [af] at he;cases he
        | true=>rw [af] at he;simpa only [cond_true,eZ,G.run] using he
 case slice t x bI aC m3=>
  unfold zZ
  cases aB:aX P t with
  | none=>rw [aB] at he;cases he
  | some aL=>
    rw [aB] at he
    simp only at he ⊢
    cases hu:aL.a_<;>rw [hu] at he<;>simp only at he ⊢<;>try (cases he;done)
    · simpa only [eZ,EK,G.run] using he
    · rename_i e
      cases ek:aX P e with
      | none=>rw [ek] at he;cases he
      | some bb=>
        rw [ek] at he
        simp only [eZ,EK,G.run] at he ⊢
        generalize (rx x).aU (dm cr)=q at he ⊢
        cases q<;>exact he
 case fieldAddr t x i=>
  unfold x3
  cases ax:m_ P t i with
  | none=>rw [ax] at he;cases he
  | some f=>
    rw [ax] at he
    simp only at he ⊢
    cases aB:aX P f.type with
    | none=>rw [aB] at he;cases he
    | some h5=>
      rw [aB] at he
      simp only at he ⊢
      cases af:Nat.beq h5.size 0 with
      | true=>rw [af] at he;cases he
      | false=>rw [af] at he;simpa only [cond_false,eZ,G.run] using he
 case field t x i=>
  unfold x4
  cases ax:m_ P t i with
  | none=>rw [ax] at he;cases he
  | some f=>
    rw [ax] at he
    simp only [mE] at he ⊢
    cases aB:aX P f.type with
    | none=>rw [aB] at he;cases he
    | some h5=>
      rw [aB] at he
      simp only at he ⊢
      cases af:h5.agg with
      | true=>
        rw [af] at he
        simp only [cond_true,eZ,G.run] at he ⊢
        generalize (rx x).aU (dm cr)=q at he ⊢
        cases q<;>exact he
      | false=>
        rw [af] at he
        simp only [cond_false,eZ,G.run] at he ⊢
        generalize (rx x).aU (dm cr)=q at he ⊢
        cases q<;>exact he
 case indexAddr t x i=>
  unfold yR
  cases aB:aX P t with
  | none=>rw [aB] at he;cases he
  | some aL=>
    rw [aB] at he
    simp only at he ⊢
    cases hu:aL.a_<;>rw [hu] at he<;>simp only at he ⊢<;>try (cases he;done)
    all_goals
     rename_i e
     cases ek:aX P e with
     | none=>rw [ek] at he;cases he
     | some bb=>rw [ek] at he;simpa only [eZ,G.run] using he
 case index t x i=>
  cases aB:aX P t with
  | none=>rw [aB] at he;cases he
  | some aL=>
    rw [aB] at he
    simp only at he
    cases hu:aL.a_<;>rw [hu] at he<;>simp only [G.run] at he
    case string=>
     unfold oB
     rw [aB]
     simp only [hu]
     simpa only [eZ] using he
    all_goals simpa only [eZ] using he
 case range t x=>
  unfold zK
  cases aB:aX P t with
  | none=>rw [aB] at he;cases he
  | some aL=>
    rw [aB] at he
    simp only at he ⊢
    cases hu:aL.a_<;>rw [hu] at he<;>simp only at he ⊢<;>try (cases he;done)
    simp only [eZ,G.run] at he ⊢
    generalize (rx x).aU (dm cr)=q at he ⊢
    cases q<;>exact he
 case next it b=>
  cases b<;>simp only at he<;>try (cases he;done)
  simpa only [cond_true,eZ,G.run] using he
 case lookup t x k ok=>
  unfold y9
  cases aB:aX P t with
  | none=>rw [aB] at he;cases he
  | some aL=>
    rw [aB] at he
    simp only at he ⊢
    cases hu:aL.a_<;>rw [hu] at he<;>simp only at he ⊢<;>try (cases he;done)
    rename_i bl e
    cases az:aX P bl with
    | none=>rw [az] at he;cases he
    | some fT=>
      rw [az] at he
      simp only at he ⊢
      cases ek:aX P e with
      | none=>rw [ek] at he;cases he
      | some bb=>
        rw [ek] at he
        simp only at he ⊢
        cases bn:bb.zero with
        | none=>rw [bn] at he;cases he
        | some z=>
          rw [bn] at he
          simp only at he ⊢
          cases hR:rG fT.a_ with
          | none=>rw [hR] at he;cases he
          | some cc=>
            rw [hR] at he
            obtain ⟨ai,ay⟩:=Ea hR
            simp only [ai,ay,cond_true]
            simpa only [eZ,G.run] using he
 case mapUpdate t m k x=>
  unfold lO
  cases aB:aX P t with
  | none=>rw [aB] at he;cases he
  | some aL=>
    rw [aB] at he
    simp only at he ⊢
    cases hu:aL.a_<;>rw [hu] at he<;>simp only at he ⊢<;>try (cases he;done)
    rename_i bl e
    cases az:aX P bl with
    | none=>rw [az] at he;cases he
    | some fT=>
      rw [az] at he
      simp only at he ⊢
      cases hR:rG fT.a_ with
      | none=>rw [hR] at he;cases he
      | some cc=>
        rw [hR] at he
        obtain ⟨ai,ay⟩:=Ea hR
        simp only [ai,ay,cond_true]
        simpa only [eZ,G.run] using he
 case insert t m k x=>
  unfold lO
  cases aB:aX P t with
  | none=>rw [aB] at he;cases he
  | some aL=>
    rw [aB] at he
    simp only at he ⊢
    cases hu:aL.a_<;>rw [hu] at he<;>simp only at he ⊢<;>try (cases he;done)
    rename_i bl e
    cases az:aX P bl with
    | none=>rw [az] at he;cases he
    | some fT=>
      rw [az] at he
      simp only at he ⊢
      cases hR:rG fT.a_ with
      | none=>rw [hR] at he;cases he
      | some cc=>
        rw [hR] at he
        obtain ⟨ai,ay⟩:=Ea hR
        simp only [ai,ay,cond_true]
        simpa only [eZ,G.run] using he
 case makeMap t x=>
  unfold tB
  cases aB:aX P t with
  | none=>rw [aB] at he;cases he
  | some aL=>
    rw [aB] at he
    simp only at he ⊢
    cases af:Nat.beq (dW aL.a_) 3 with
    | false=>rw [af] at he;cases he
    | true=>rw [af] at he;simpa only [cond_true,EK,G.run] using he
 case extract x i=>
  simp only [eZ,G.run] at he ⊢
  generalize (rx x).aU (dm cr)=q at he ⊢
  cases q<;>exact he
 case call c=>exact aav he
end
end Go.Proofs.YtkehcalakofigaaGreatDoor.aY
namespace Go.Proofs.YtkehcalakofigaaGreatDoor.aY
variable [Lay]
open Go Go.RowKit
def eh (P:Program) (f:FuncId) (args:List V) (h:ae) (v:V) (aa:ae):Prop:=
 f≠cJ∧(((∃fn,P.funcs[f]? =some fn∧fn.body.isSome=true)∧∀(au:Fr) E w xs,aZ E args xs→aW au E h w→
  Calls P f xs.toArray w fun e ak=>∃ar x,e=.returned x∧E.le ar∧Rel ar v x∧aW au ar aa ak)∨
 ∀(au:Fr) E w xs,aZ E args xs→aW au E h w→∃ar x ak,(callFunc f xs.toArray).run P w=.ok (.value x) ak∧E.le ar∧Rel ar v x∧aW au ar aa ak)
def Gf (P:Program) (args:List V) (b:aN) (h:ae) (v:V) (aa:ae):Prop:=
 ∀(au:Fr) E w xs p,aZ E args xs→aW au E h w→E b=some p→
  ∃f tmps assign body,(Instr.yield p.bd xs.toArray).run P w=.ok (.round p.bd f tmps assign body) w∧
   RoundIn (bQ none) 0 P p.bd f tmps assign body w fun e ak=>∃ar x,e=.returned x∧E.le ar∧Rel ar v x∧aW au ar aa ak
theorem eh.calls {P:Program} (bt:dJ P) {f:FuncId} {args:List V} {h aa:ae} {v:V} (H:eh P f args h v aa) (af:∃fn,P.funcs[f]? =some fn∧fn.body.isSome=true) (au:Fr) (E:Env) (w:World) (xs:List Value) (ao:aZ E args xs) (s:aW au E h w):
 Calls P f xs.toArray w fun e ak=>∃ar x,e=.returned x∧E.le ar∧Rel ar v x∧aW au ar aa ak:=by
 rcases H.2 with ⟨_,H⟩ | H
 · exact H au E w xs ao s
 · obtain ⟨ar,x,ak,aH,_⟩:=H au E w xs ao s
   obtain ⟨fn,U,ad⟩:=af
   rw [p_ bt U ad] at aH
   cases aH
def bK (P:Program) (f:FuncId) (args:List V) (h:ae) (K:V→ae→Prop):Prop:=∃v aa,eh P f args h v aa∧K v aa
def xn (P:Program) (args:List V) (b:aN) (h:ae) (K:V→ae→Prop):Prop:=∃v aa,Gf P args b h v aa∧K v aa
def Gg (P:Program) (xs:List V) (h:ae) (K:V→ae→Prop):Prop:=∃bZ b,xs=bZ++[.ptr b 0]∧xn P bZ b h K
def FQ (P:Program) (g:FuncId) (xs:List V) (h:ae) (K:V→ae→Prop):Prop:=if g=cJ then Gg P xs h K else bK P g xs h K
def V.target (v:V) (args:List V):Option (FuncId × List V):=
 match v with
 | .func g cs=>some (g,args++cs)
 | .jR g cs=>some (g,cs++args)
 | _=>none
theorem KX {v:V} {args xs:List V} {g:FuncId} (h:v.target args=some (g,xs)) (F:FuncId→List V→aT):v.tM args F=F g xs:=by
 cases v<;>simp only [V.target] at h<;>try (cases h;done)
 all_goals (simp only [Option.some.injEq,Prod.mk.injEq] at h;obtain ⟨rfl,rfl⟩:=h;rfl)
theorem bK.mono {P:Program} {f:FuncId} {args:List V} {h:ae} {K kC:V→ae→Prop} (c:bK P f args h K) (az:∀v aa,K v aa→kC v aa):bK P f args h kC:=by
 obtain ⟨v,aa,ai,ay⟩:=c
 exact ⟨v,aa,ai,az v aa ay⟩
def iL:c4:=fun _ _ _=>.fail
theorem ze (P:Program):fe P iL∧fp P iL:=
 ⟨⟨fun _ f args h v aa _ he=>by simp [iL] at he,fun _ f args h v aa _ he=>by simp [iL] at he,fun _ args b h v aa he=>by simp [iL] at he,fun args h v aa he=>by simp [iL] at he⟩,fun f args h v aa he=>by simp [iL] at he⟩
open Classical in
noncomputable def kr (f:FuncId) (args:List V) (h:ae) (v:V) (aa:ae):c4:=
 fun f1 bN U=>if f1=f∧bN=args∧U=h then .val v aa else .fail
theorem K2 {P:Program} {f:FuncId} {args:List V} {h aa:ae} {v:V} (H:eh P f args h v aa):fe P (kr f args h v aa)∧fp P (kr f args h v aa):=by
 refine ⟨⟨fun au f1 bN U v1 fg _ he=>?_,fun au f1 bN U v1 fg _ he=>?_,fun au bN b U v1 fg he=>?_,fun bN U v1 fg he=>?_⟩,fun f1 bN U v1 fg he=>?_⟩
 · unfold kr at he
   split at he
   · rename_i aq
     obtain ⟨rfl,rfl,rfl⟩:=aq
     simp only [aT.val.injEq] at he
     obtain ⟨rfl,rfl⟩:=he
     intro E w xs ao s
     rcases H.2 with H | H
     · exact .inl ⟨H.1,H.2 au E w xs ao s⟩
     · exact .inr (H au E w xs ao s)
   · cases he
 · unfold kr at he
   split at he<;>cases he
 · unfold kr at he
   split at he
   · rename_i aq
     exact absurd aq.1.symm H.1
   · cases he
 · unfold kr at he
   split at he<;>cases he
 · trivial
theorem abe {xs bZ:List V} {x y:V} (h:xs++[x]=bZ++[y]):xs=bZ∧x=y:=by
 have:=List.append_inj' h rfl
 exact ⟨this.1,by simpa using this.2⟩
theorem ZS {P:Program} {args:List V} {b:aN} {h aa:ae} {v:V} (H:Gf P args b h v aa):fe P (kr cJ (args++[.ptr b 0]) h v aa)∧fp P (kr cJ (args++[.ptr b 0]) h v aa):=by
 refine ⟨⟨fun au f1 bN U v1 fg c2 he=>?_,fun au f1 bN U v1 fg _ he=>?_,fun au bN bJ U v1 fg he=>?_,fun bN U v1 fg he=>?_⟩,fun f1 bN U v1 fg he=>?_⟩
 · unfold kr at he
   split at he
   · rename_i aq
     exact absurd aq.1 c2
   · cases he
 · unfold kr at he
   split at he<;>cases he
 · unfold kr at he
   split at he
   · rename_i aq
     obtain ⟨_,aq,rfl⟩:=aq
     obtain ⟨rfl,af⟩:=abe aq
     simp only [V.ptr.injEq,and_true] at af
     subst af
     simp only [aT.val.injEq] at he
     obtain ⟨rfl,rfl⟩:=he
     exact fun E w xs p ao s ag=>H au E w xs p ao s ag
   · cases he
 · unfold kr at he
   split at he<;>cases he
 · trivial
theorem EL {f:FuncId} {args:List V} {h aa:ae} {v:V}:kr f args h v aa f args h=.val v aa:=by
 unfold kr
 rw [if_pos ⟨rfl,rfl,rfl⟩]
def aS.set (r:aS) (d:Option Nat) (v:V):aS:=
 match d with
 | none=>r
 | some d=>fun t=>if t=d then v else r t
def aS.trim (r:aS):List Nat→aS
 | [],_=>.bad
 | u::us,t=>if t=u then r t else aS.trim r us t
def aS.bk:List V→aS
 | [],_=>.bad
 | v::ab,t=>if t=0 then v else aS.bk ab (t-1)
noncomputable def wS (r:aS):List Nat→bp
 | []=>.e
 | t::b7=>T.put .bad (r t) (aG t) (wS r b7)
theorem Mu (r:aS):∀b7:List Nat,dm (wS r b7)=aS.trim r b7
 | []=>by funext t;simp [dm,wS,aS.trim]
 | u::b7=>by
   funext t
   have bh:=congrFun (Mu r b7) t
   simp only [dm] at bh
   simp only [dm,wS,aS.trim,T.gj]
   by_cases h:t=u
   · subst h;simp
   · rw [if_neg (fun e=>h (gB e).symm),if_neg h]
     exact bh
theorem Af (cr:bp):∀b7:List Nat,dm (cX cr b7)=aS.trim (dm cr) b7
 | []=>by funext t;simp [dm,cX,aS.trim]
 | u::b7=>by
   funext t
   have bh:=congrFun (Af cr b7) t
   simp only [dm] at bh
   simp only [dm,cX,aS.trim,T.gj]
   by_cases h:t=u
   · subst h;simp
   · rw [if_neg (fun e=>h (gB e).symm),if_neg h]
     exact bh
theorem FC {r:aS}:∀{b7:List Nat} {t:Nat},t ∈ b7→aS.trim r b7 t=r t
 | [],t,h=>by simp at h
 | u::b7,t,h=>by
   simp only [aS.trim]
   by_cases hu:t=u
   · rw [if_pos hu]
   · rw [if_neg hu]
     simp only [List.mem_cons] at h
     exact FC (h.resolve_left hu)
theorem Mw {r:aS}:∀{b7:List Nat} {t:Nat},t ∉ b7→aS.trim r b7 t=.bad
 | [],t,_=>rfl
 | u::b7,t,h=>by
   simp only [List.mem_cons,not_or] at h
   simp only [aS.trim]
   rw [if_neg h.1]
   exact Mw h.2
theorem zC (d:Option Nat) (cr:bp) (v:V):dm ((ey d).run cr v)=(dm cr).set d v:=by
 cases d with
 | none=>rfl
 | some d=>
   funext t
   simp only [dm,ey,aS.set,T.gj]
   by_cases h:t=d
   · subst h;simp
   · rw [if_neg (fun e=>h (gB e).symm),if_neg h]
abbrev d':Nat:=17179869185
def Out (an:Nat) (r:aS):Prop:=∀t,an≤t→t≠d'→r t=.bad
theorem x1 {an:Nat} {r:aS} (aP:Out an r):∃cr,dm cr=r:=by
 refine ⟨wS r (d'::List.range an),?_⟩
 rw [Mu]
 funext t
 by_cases h:t<an
 · exact FC (List.mem_cons_of_mem _ (List.mem_range.2 h))
 · by_cases ad:t=d'
   · exact FC (by rw [ad];exact List.mem_cons_self)
   · rw [Mw (by simp only [List.mem_cons,List.mem_range,not_or];exact ⟨ad,h⟩),aP t (by omega) ad]
theorem Out.set {an:Nat} {r:aS} (aP:Out an r) {d:Option Nat} (aV:ed an d=true) (v:V):Out an (r.set d v):=by
 intro t aB aR
 cases d with
 | none=>exact aP t aB aR
 | some d=>
   simp only [ed,Bool.and_eq_true,Nat.blt_eq] at aV
   simp only [aS.set]
   rw [if_neg (by omega)]
   exact aP t aB aR
theorem Fl {an:Nat} {r:aS} {d:Option Nat} (aV:ed an d=true) (v:V):r.set d v d'=r d':=by
 cases d with
 | none=>rfl
 | some d=>
   simp only [ed,Bool.and_eq_true,Nat.blt_eq,Nat.ble_eq] at aV
   simp only [aS.set]
   rw [if_neg (by have:=aV.2;unfold top at this;unfold d';omega)]
structure hZ (E:Env) (an:Nat) (r:aS) (a:Act):Prop where
 size:a.tmps.size=an
 defers:iR E (r d') a.defers
 av:∀t,t≠d'→Rel E (r t) (a.tmps.getD t undef)
theorem tG {t:Nat} (h:t≤top):t≠d':=by unfold top at h;unfold d';omega
theorem hZ.mono {E ar:Env} (h:E.le ar) {an:Nat} {r:aS} {a:Act} (k:hZ E an r a):hZ ar an r a:=
 ⟨k.size,k.defers.mono h,fun t aB=>Rel.mono h _ _ (k.av t aB)⟩
theorem hZ.put {E ar:Env} (h:E.le ar) {an:Nat} {r:aS} {a:Act} (k:hZ E an r a) {d:Option Nat} (aV:ed an d=true) {v:V} {x:Value} (ao:Rel ar v x):hZ ar an (r.set d v) (a.put d x):=by
 cases d with
 | none=>exact k.mono h
 | some d=>
   have aR:=Fl (r:=r) aV v
   simp only [ed,Bool.and_eq_true,Nat.blt_eq] at aV
   refine ⟨by simp [Act.put,k.size],by rw [aR];exact k.defers.mono h,fun t eo=>?_⟩
   simp only [aS.set,Act.put]
   rw [Array.getD_eq_getD_getElem?,Array.getElem?_setIfInBounds]
   by_cases aB:t=d
   · subst aB
     rw [if_pos rfl,if_pos rfl,if_pos (by rw [k.size];exact aV.1)]
     exact ao
   · rw [if_neg aB,if_neg (fun e=>aB e.symm),←Array.getD_eq_getD_getElem?]
     exact Rel.mono h _ _ (k.av t eo)
noncomputable def G.wp (P:Program) (g:G) (r:aS) (h:ae) (K:V→ae→Prop):Prop:=
 match g with
 | .call f args=>bK P f (aQ.eJ r args) h K
 | .lf f args=>∃g xs,(f.aU r).target (aQ.eJ r args)=some (g,xs)∧FQ P g xs h K
 | g=>∃v aa,g.run P iL r h=.val v aa∧K v aa
theorem G.um {P:Program} {g:G} {r:aS} {h:ae} {K:V→ae→Prop} (H:g.wp P r h K):∃call v aa,(fe P call∧fp P call)∧g.run P call r h=.val v aa∧K v aa:=by
 cases g
 case call f args=>
  obtain ⟨v,aa,ai,ay⟩:=H
  exact ⟨_,v,aa,K2 ai,EL,ay⟩
 case lf f args=>
  obtain ⟨g,xs,ax,H⟩:=H
  unfold FQ at H
  split at H
  rotate_left
  · obtain ⟨v,aa,ai,ay⟩:=H
    refine ⟨_,v,aa,K2 ai,?_,ay⟩
    simp only [G.run]
    rw [KX ax]
    exact EL
  · rename_i aD
    subst aD
    obtain ⟨bZ,b,rfl,v,aa,ai,ay⟩:=H
    refine ⟨_,v,aa,ZS ai,?_,ay⟩
    simp only [G.run]
    rw [KX ax]
    exact EL
 all_goals
  obtain ⟨v,aa,ai,ay⟩:=H
  exact ⟨iL,v,aa,ze P,ai,ay⟩
structure br where
 dst:Option Nat
 g:G
 Cx:Option (Nat × Bool)
 rs:List Nat
def br.bad:br:=⟨none,.bad,none,[]⟩
def gate (v:V) (want:Bool) (A B:Prop):Prop:=
 match v with
 | .bool b=>(b=want→A)∧(b=!want→B)
 | .tuple _=>B
 | _=>False
noncomputable def br.wp (P:Program) (o:br) (r:aS) (h:ae) (K:aS→V→ae→Prop):Prop:=
 match o.Cx with
 | none=>o.g.wp P (r.trim o.rs) h fun v aa=>K (r.set o.dst v) v aa
 | some (d,want)=>gate (r.trim o.rs d) want (o.g.wp P (r.trim o.rs) h fun v aa=>K (r.set o.dst v) v aa) (K (r.set o.dst (.tuple [])) (.tuple []) h)
def zP (P:Program) (an:Nat) (all:Array Oper) (o:Oper):br:=
 bif ed an o.dst&&il (bO all o) then
  match o.guard with
  | none=>⟨o.dst,zO P o.op,none,bO all o⟩
  | some (j,want)=>match all[j]? with
    | some g=>match g.dst with
      | some d=>bif Nat.blt d an&&Nat.ble d top then ⟨o.dst,zO P o.op,some (d,want),bO all o⟩ else br.bad
      | none=>br.bad
    | none=>br.bad
 else br.bad
def oO (P:Program) (an:Nat) (all:Array Oper):List Oper→List br
 | []=>[]
 | o::os=>zP P an all o::oO P an all os
theorem LO (P:Program) (an:Nat) (all:Array Oper):∀l:List Oper,oO P an all l=l.map (zP P an all)
 | []=>rfl
 | o::os=>by simp [oO,LO P an all os]
theorem br.xy {P:Program} {r:aS} {h:ae} {K:aS→V→ae→Prop}:¬br.bad.wp P r h K:=by
 rintro ⟨v,aa,q,_⟩
 cases q
theorem br.um {P:Program} {an:Nat} {all:Array Oper} {o:Oper} {r:aS} {h:ae} {K:aS→V→ae→Prop} (H:(zP P an all o).wp P r h K):
 ∃call v aa,(fe P call∧fp P call)∧ed an o.dst=true∧K (r.set o.dst v) v aa∧∀cr,dm cr=r→(b8 P an all o).run call cr h=.val v aa:=by
 unfold zP at H
 cases aq:(ed an o.dst&&il (bO all o)) with
 | false=>rw [aq] at H;exact absurd H br.xy
 | true=>
   have aV:ed an o.dst=true:=by simp only [Bool.and_eq_true] at aq;exact aq.1
   rw [aq] at H
   simp only [cond_true] at H
   cases aD:o.guard with
   | none=>
     rw [aD] at H
     obtain ⟨call,v,aa,ai,ay,aK⟩:=G.um H
     refine ⟨call,v,aa,ai,aV,aK,fun cr dw=>?_⟩
     unfold b8
     rw [aq]
     simp only [cond_true,aD,gR]
     refine LN ?_
     rw [Af,dw]
     exact ay
   | some mu=>
     obtain ⟨j,want⟩:=mu
     rw [aD] at H
     simp only at H
     cases bG:all[j]? with
     | none=>rw [bG] at H;exact absurd H br.xy
     | some g=>
       rw [bG] at H
       simp only at H
       cases h6:g.dst with
       | none=>rw [h6] at H;exact absurd H br.xy
       | some d=>
         rw [h6] at H
         simp only at H
         cases af:(Nat.blt d an&&Nat.ble d top) with
         | false=>rw [af] at H;exact absurd H br.xy
         | true=>
           rw [af] at H
           simp only [cond_true,br.wp] at H
           have key:b8 P an all o=⟨gR (some (lk (aG d),want)) (eb P o) (bO all o)⟩:=by
            unfold b8
            rw [aq]
            simp only [cond_true,aD,bG,h6,af]
           have C1:∀cr,dm cr=r→(lk (aG d)).run (cX cr (bO all o))=r.trim (bO all o) d:=by
            intro cr dw
            rw [←dw,←Af]
            rfl
           cases bw:r.trim (bO all o) d<;>rw [bw] at H<;>simp only [gate] at H
           case bool b=>
            by_cases IF:b=want
            · obtain ⟨call,v,aa,ai,ay,aK⟩:=G.um (H.1 IF)
              refine ⟨call,v,aa,ai,aV,aK,fun cr dw=>?_⟩
              rw [key]
              simp only [gR,C1 cr dw,bw]
              rw [show (bif want then b else !b)=true from by subst IF;cases b<;>rfl]
              simp only [cond_true]
              refine LN ?_
              rw [Af,dw]
              exact ay
            · have ID:b=!want:=by cases b<;>cases want<;>simp_all
              refine ⟨iL,.tuple [],h,ze P,aV,H.2 ID,fun cr dw=>?_⟩
              rw [key]
              simp only [gR,C1 cr dw,bw]
              rw [show (bif want then b else !b)=false from by subst ID;cases want<;>rfl]
              rfl
           case tuple ab=>
            refine ⟨iL,.tuple [],h,ze P,aV,H,fun cr dw=>?_⟩
            rw [key]
            simp only [gR,C1 cr dw,bw]
noncomputable def o4 (P:Program):List br→aS→ae→(aS→ae→Prop)→Prop
 | [],r,h,K=>K r h
 | o::os,r,h,K=>o.wp P r h fun bo _ aa=>o4 P os bo aa K
structure eV where
 r:aS
 h:ae
 v:V
noncomputable def iQ (P:Program):List br→aS→ae→(List eV→aS→ae→Prop)→Prop
 | [],r,h,K=>K [] r h
 | o::os,r,h,K=>o.wp P r h fun bo v aa=>iQ P os bo aa fun es cv ax=>K (⟨r,h,v⟩::es) cv ax
def s6 (es:List eV) (ax:ae) (i:Nat):ae:=
 match es[i]? with
 | some e=>e.h
 | none=>ax
noncomputable def nS (P:Program) (o:Option br) (e:Option eV) (es:List eV) (ax:ae):List Nat→Prop
 | []=>True
 | s::eL=>(match o,e with
   | some o,some e=>o.wp P e.r (s6 es ax s) fun _ hr _=>hr=e.v
   | _,_=>False)∧nS P o e es ax eL
noncomputable def lV (P:Program) (ops:List br) (es:List eV) (ax:ae):List (Nat × List Nat)→Prop
 | []=>True
 | (p,eL)::rest=>nS P ops[p]? es[p]? es ax eL∧lV P ops es ax rest
inductive bD where
 | bad
 | skip
 | av (ops:List br)
 | draw (ops:List br) (asks:List (Nat × List Nat))
 | seq (a b:bD)
 | cond (c:aQ) (a b:bD)
 | block (id:Nat) (b:bD)
 | loop (b:bD)
 | exit (id:Nat)
 | ret
 | range (f:aQ) (a':List Nat) (an:Nat) (a b:bD)
def sx (P:Program) (ops:List Oper) (c' aA dE:List Nat):Nat→List Oper→List (Nat × List Nat)
 | _,[]=>[]
 | i,o::os=>bif looks o.op&&!dU P o.op then
    (posOf aA i,dE.filter (oI P c' ops aA i ((c'[i]?).getD 0)))::sx P ops c' aA dE (i+1) os
   else sx P ops c' aA dE (i+1) os
def E' (P:Program) (an:Nat) (ops:Array Oper) (order aA:List Nat):bD:=
 bif jo ops.size order aA&&sE P ops aA then
  .draw (oO P an ops (fJ ops order)) (bif nP P ops.toList then sx P ops.toList (dM [] ops.toList) aA (fV P aA 0 ops.toList) 0 ops.toList else [])
 else .bad
def cf (P:Program) (an:Nat):Code→bD
 | .skip=>.skip
 | .label _=>.skip
 | .region _ ops draw=>bif draw then E' P an ops (wv P ops) (zz (wv P ops) 0 ops.toList) else .av (oO P an ops ops.toList)
 | .seq a b=>.seq (cf P an a) (cf P an b)
 | .cond c a b=>.cond (rx c) (cf P an a) (cf P an b)
 | .block id b=>.block id (cf P an b)
 | .loop b=>.loop (cf P an b)
 | .exit id=>.exit id
 | .ret=>.ret
 | .scope b=>cf P an b
 | .rangeFunc f a' a b=>bif lI an a'.toList&&(noMark a&&noMark b) then .range (rx f) a'.toList an (cf P an a) (cf P an b) else .bad
 | _=>.bad
structure xk (P:Program) (l:lS) (an:Nat) (r:aS) (a':List Nat) (wH zL:bD):Prop where
 a7:l.an=an
 aH:dm l.r=r
 ag:l.a'=a'
 bm:cf P an l.assign=wH
 af:cf P an l.body=zL
 j_:lI an a'=true
 adD:noMark l.assign=true
 adE:noMark l.body=true
 out:Out an r
def lS.go (l:lS) (st:Nat) (ep:Option cY):lS:=⟨st,ep,l.d,l.an,l.r,l.a',l.assign,l.body⟩
def aS.tP:List Nat→List V→aS→aS
 | p::a',v::ab,r=>aS.tP a' ab (r.set (some p) v)
 | _,_,r=>r
def p9 (a':List Nat) (ab:List V) (r:aS):aS:=(aS.tP a' ab r).set (some d') .bad
def cY.andThen:cY→Prop→Prop→Prop
 | .normal,A,_=>A
 | _,_,B=>B
def cY.leave (id:Nat):cY→cY
 | .exit i=>if i=id then .normal else .exit i
 | e=>e
noncomputable def b_ (P:Program):bD→aS→ae→(cY→aS→ae→Prop)→Prop
 | .bad,_,_,_=>False
 | .skip,r,h,Q=>Q .normal r h
 | .av ops,r,h,Q=>o4 P ops r h (Q .normal)
 | .draw ops asks,r,h,Q=>iQ P ops r h fun es cv ax=>lV P ops es ax asks∧Q .normal cv ax
 | .seq a b,r,h,Q=>b_ P a r h fun e bo aa=>e.andThen (b_ P b bo aa Q) (Q e bo aa)
 | .cond c a b,r,h,Q=>match c.aU r with
   | .bool t=>(t=true→b_ P a r h Q)∧(t=false→b_ P b r h Q)
   | _=>False
 | .block id b,r,h,Q=>b_ P b r h fun e bo aa=>Q (e.leave id) bo aa
 | .loop b,r,h,Q=>∃(I:aS→ae→Prop) (μ:aS→ae→Nat),I r h∧∀r h,I r h→b_ P b r h fun e bo aa=>e.andThen (I bo aa∧μ bo aa<μ r h) (Q e bo aa)
 | .exit id,r,h,Q=>Q (.exit id) r h
 | .ret,r,h,Q=>Q .ret r h
 | .range f a' an a b,r,h,Q=>∃g cs,f.aU r=.func g cs∧g≠cJ∧(∃fn,P.funcs[g]? =some fn∧fn.body.isSome=true)∧∀l,xk P l an r a' a b→l.st=0→l.ep=none→
    bK P g (.func cJ [.ptr (aG (h.next+1)) 0]::cs) ((h.new .eX).new (.dq l)) fun _ aa=>
     ∃dY,aa.get (aG (h.next+1))=.dq dY∧dY.st≠1∧Q (dY.ep.getD .normal) (r.set (some d') (.tuple (.ptr (aG h.next) 0::(r d').list))) (aa.set (aG (h.next+1)) .dead)
def bD.plain:bD→Bool
 | .seq a b=>a.plain&&b.plain
 | .cond _ a b=>a.plain&&b.plain
 | .block _ b=>b.plain
 | .loop b=>b.plain
 | .range _ _ _ _ _=>false
 | _=>true
def w0 (P:Program) (an:Nat) (c:Code) (r:aS) (h:ae) (e:cY) (bo:aS) (aa:ae):Prop:=
 ∀(rd:Option Nat) (au:Fr) E a w,(rd=none∨noMark c=true)→hZ E an r a→aW au E h w→∀Q:Exit→Act→World→Prop,
  (∀ar bf ak,E.le ar→hZ ar an bo bf→aW au ar aa ak→Q (toExit e) bf ak)→Ag rd P c Q a w
section
variable {P:Program} {an:Nat}
theorem MQ (bt:dJ P) {all:Array Oper}:∀(l:List Oper) (i:Nat),(∀j,l[j]? =all[i+j]?)→∀(r:aS) (h:ae) (K:aS→ae→Prop),Out an r→o4 P (oO P an all l) r h K→
 ∃bo aa,K bo aa∧(Out an bo∧bo d'=r d')∧∀(rd:Option Nat) (au:Fr) E a w,hZ E an r a→aW au E h w→∀Q:Exit→Act→World→Prop,
  (∀ar bf ak,E.le ar→hZ ar an bo bf→aW au ar aa ak→Q .normal bf ak)→wpOpsIn (bQ rd) 0 P all Q (List.range' i l.length) a w
 | [],i,_,r,h,K,aP,H=>by
   refine ⟨r,h,H,⟨aP,rfl⟩,fun rd au E a w k s Q cP=>?_⟩
   simp only [List.length_nil,List.range'_zero,wpOpsIn]
   exact cP E a w (Env.le.refl E) k s
 | o::os,i,aj,r,h,K,aP,H=>by
   have aC:all[i]? =some o:=by have:=aj 0;simpa using this.symm
   simp only [oO,o4] at H
   obtain ⟨call,v,U,aq,aV,H1,cu⟩:=br.um H
   obtain ⟨cV,ad,ai,ay,aK⟩:=MQ bt os (i+1) (fun j=>by
    have:=aj (j+1)
    simp only [List.getElem?_cons_succ] at this
    rw [this]
    congr 1
    omega) _ U K (aP.set aV v) H1
   refine ⟨cV,ad,ai,⟨ay.1,ay.2.trans (Fl aV v)⟩,fun rd au E a w k s Q cP=>?_⟩
   obtain ⟨cr,dw⟩:=x1 aP
   rw [List.length_cons,List.range'_succ,wpOpsIn_cons]
   refine mU bt aq.1 aq.2 aC (cu cr dw) k.size (fun t aB=>?_) s fun ar x ak bY b9 dZ=>?_
   · have:=congrFun dw t
     simp only [dm] at this
     rw [this]
     exact k.av t (tG (Nat.le_of_ble_eq_true (List.all_eq_true.1 (h2 (cu cr dw)).2 t aB)))
   · exact aK rd au ar _ ak (k.put bY aV b9) dZ Q fun bM a2 bH ca z2 z3=>cP bM a2 bH (bY.trans ca) z2 z3
noncomputable def toF (e:dS):eV:=⟨dm e.r,e.h,e.v⟩
theorem T9 (es:List dS) (ax:ae) (i:Nat):s6 (es.map toF) ax i=bT es ax i:=by
 unfold s6 bT
 rw [List.getElem?_map]
 cases es[i]? <;>rfl
theorem MP {all:Array Oper}:∀(l:List Oper) (j2:bp) (h:ae) (K:List eV→aS→ae→Prop),iQ P (oO P an all l) (dm j2) h K→Out an (dm j2)→
 ∃es k_ ax,K (es.map toF) (dm k_) ax∧(Out an (dm k_)∧dm k_ d'=dm j2 d')∧es.length=l.length∧bT es ax 0=h∧dt es k_ 0=j2∧
  ∀j o,l[j]? =some o→∃e call,es[j]? =some e∧(fe P call∧fp P call)∧(b8 P an all o).run call e.r e.h=.val e.v (bT es ax (j+1))∧dt es k_ (j+1)=(ey o.dst).run e.r e.v
 | [],j2,h,K,H,aP=>⟨[],j2,h,H,⟨aP,rfl⟩,rfl,rfl,rfl,fun j o bG=>by simp at bG⟩
 | o::os,j2,h,K,H,aP=>by
   simp only [oO,iQ] at H
   obtain ⟨call,v,U,aq,aV,H1,cu⟩:=br.um H
   rw [←zC] at H1
   obtain ⟨es,k_,ax,ai,ay,aK,bE,dr,eS⟩:=MP os _ U _ H1 (by rw [zC];exact aP.set aV v)
   refine ⟨⟨j2,h,v⟩::es,k_,ax,ai,⟨ay.1,ay.2.trans (by rw [zC];exact Fl aV v)⟩,by simp [aK],by simp [bT],by simp [dt],fun j bR bG=>?_⟩
   cases j with
   | zero=>
     simp only [List.getElem?_cons_zero,Option.some.injEq] at bG
     subst bG
     exact ⟨⟨j2,h,v⟩,call,rfl,aq,by rw [s5,bE];exact cu j2 rfl,by rw [tZ,dr]⟩
   | succ j=>
     obtain ⟨e,c,bY,b9,dZ,hG⟩:=eS j bR (by simpa using bG)
     exact ⟨e,c,by simpa using bY,b9,by rw [s5];exact dZ,by rw [tZ];exact hG⟩
theorem Gv {o:Option br} {e:Option eV} {es:List eV} {ax:ae}:∀{eL:List Nat},nS P o e es ax eL→∀s ∈ eL,∃bR cN,o=some bR∧e=some cN∧bR.wp P cN.r (s6 es ax s) fun _ hr _=>hr=cN.v
 | [],_,s,h=>by simp at h
 | fK::eL,H,s,hm=>by
   simp only [nS] at H
   simp only [List.mem_cons] at hm
   rcases hm with rfl | hm
   · cases o with
     | none=>exact H.1.elim
     | some o=>
       cases e with
       | none=>exact H.1.elim
       | some e=>exact ⟨o,e,rfl,rfl,H.1⟩
   · exact Gv H.2 s hm
theorem Gy {ops:List Oper} {c' aA dE:List Nat} {gs:List br} {es:List eV} {ax:ae}:∀{l:List Oper} {i:Nat},lV P gs es ax (sx P ops c' aA dE i l)→∀j o,l[j]? =some o→looks o.op=true→dU P o.op=false→
 nS P gs[posOf aA (i+j)]? es[posOf aA (i+j)]? es ax (dE.filter (oI P c' ops aA (i+j) ((c'[i+j]?).getD 0)))
 | [],i,_,j,o,h,_,_=>by simp at h
 | bR::os,i,H,j,o,h,U,ad=>by
   simp only [sx] at H
   cases j with
   | zero=>
     simp only [List.getElem?_cons_zero,Option.some.injEq] at h
     subst h
     rw [U,ad] at H
     simp only [Bool.not_false,Bool.and_true,cond_true,lV] at H
     exact H.1
   | succ j=>
     have hY:lV P gs es ax (sx P ops c' aA dE (i+1) os):=by
      cases aq:(looks bR.op&&!dU P bR.op) with
      | true=>rw [aq] at H;simp only [cond_true,lV] at H;exact H.2
      | false=>rw [aq] at H;exact H
     have:=Gy hY j o (by simpa using h) U ad
     rw [show i+1+j=i + (j+1) from by omega] at this
     exact this
theorem R' (fu:an≤top) (cO:P.follows .mixedOrders=true) (bt:dJ P) {id:Nat} {ops:Array Oper} {order aA:List Nat} {r:aS} {h:ae} {Q:cY→aS→ae→Prop} (aP:Out an r)
 (H:b_ P (E' P an ops order aA) r h Q):∃bo aa,Q .normal bo aa∧(Out an bo∧bo d'=r d')∧w0 P an (.region id ops true) r h .normal bo aa:=by
 unfold E' at H
 cases ax:(jo ops.size order aA&&sE P ops aA) with
 | false=>rw [ax] at H;exact H.elim
 | true=>
   rw [ax] at H
   simp only [cond_true,b_] at H
   simp only [Bool.and_eq_true] at ax
   obtain ⟨fj,fE⟩:=ax
   unfold jo at fj
   simp only [Bool.and_eq_true,Nat.beq_eq] at fj
   obtain ⟨lr,tb,vq,vr⟩:=fj
   have gp:∀k,k<ops.size→posOf aA k<ops.size∧order[posOf aA k]? =some k:=by
    intro k az
    have aD:aA[k]? =some (posOf aA k):=by
     unfold posOf
     rw [List.getElem?_eq_getElem (by omega)]
     rfl
    have:=p3 vq aD
    rw [Nat.zero_add] at this
    exact ⟨by have:=(List.getElem?_eq_some_iff.1 this).1;omega,this⟩
   have iN:∀p,p<ops.size→∃i,i<ops.size∧posOf aA i=p:=by
    intro p ag
    have aD:order[p]? =some (order[p]'(by omega)):=List.getElem?_eq_getElem (by omega)
    have:=p3 vr aD
    rw [Nat.zero_add] at this
    refine ⟨order[p]'(by omega),by have:=(List.getElem?_eq_some_iff.1 this).1;omega,?_⟩
    unfold posOf
    rw [this]
    rfl
   obtain ⟨j2,yj⟩:=x1 aP
   rw [←yj] at H aP
   obtain ⟨es,k_,a8,⟨vb,cP⟩,⟨oo,Jn⟩,ai,ay,aK,bE⟩:=MP _ j2 h _ H aP
   refine ⟨_,a8,cP,⟨oo,by rw [←yj];exact Jn⟩,fun rd au E a w aH k s gr CJ=>?_⟩
   have step:∀i:Nat,∃call,(fe P call∧fp P call)∧∀o,ops[i]? =some o→∃e,es[posOf aA i]? =some e∧(b8 P an ops o).run call e.r e.h=.val e.v (bT es a8 (posOf aA i+1))∧dt es k_ (posOf aA i+1)=(ey o.dst).run e.r e.v:=by
    intro i
    cases aC:ops[i]? with
    | none=>exact ⟨iL,ze P,fun o h=>by cases h⟩
    | some o=>
      obtain ⟨e,call,bY,b9,dZ,hG⟩:=bE _ o (kq (gp i (Array.getElem?_eq_some_iff.1 aC).1).2 aC)
      exact ⟨call,b9,fun bR fQ=>by cases fQ;exact ⟨e,bY,dZ,hG⟩⟩
   obtain ⟨calls,s3⟩:=Classical.axiomOfChoice step
   have py:∀j o,ops[j]? =some o→looks o.op=true→dU P o.op=false→∃e,es[posOf aA j]? =some e∧∀s ∈ fV P aA 0 ops.toList,
    oI P (dM [] ops.toList) ops.toList aA j (((dM [] ops.toList)[j]?).getD 0) s=true→∃c aa,(fe P c∧fp P c)∧(b8 P an ops o).run c e.r (bT es a8 s)=.val e.v aa:=by
    intro j o nf dL Uc
    have bG:=(Array.getElem?_eq_some_iff.1 nf).1
    obtain ⟨e,bY,b9,dZ⟩:=(s3 j).2 o nf
    refine ⟨e,bY,fun s aR hm=>?_⟩
    cases aj:nP P ops.toList with
    | true=>
      rw [aj] at vb
      simp only [cond_true] at vb
      have:=Gy vb j o (by simpa using nf) dL Uc
      rw [Nat.zero_add] at this
      obtain ⟨bR,cN,ca,z2,z3⟩:=Gv this s (List.mem_filter.2 ⟨aR,hm⟩)
      rw [LO,List.getElem?_map,kq (gp j bG).2 nf] at ca
      simp only [Option.map_some,Option.some.injEq] at ca
      rw [List.getElem?_map,bY] at z2
      simp only [Option.map_some,Option.some.injEq] at z2
      subst ca;subst z2
      rw [T9] at z3
      obtain ⟨c,v,aa,dp,_,y3,y4⟩:=br.um z3
      have MS:=y4 e.r rfl
      rw [show v=e.v from y3] at MS
      exact ⟨c,aa,dp,MS⟩
    | false=>
      have none:∀(l:List Oper),nP P l=false→∀(j:Nat) (o:Oper),l[j]? =some o→dU P o.op=false:=by
       intro l
       induction l with
       | nil=>intro _ j o h;simp at h
       | cons x l bh=>
         intro h j o aP
         simp only [nP,Bool.or_eq_false_iff] at h
         cases j with
         | zero=>simp only [List.getElem?_cons_zero,Option.some.injEq] at aP;subst aP;exact h.1
         | succ j=>exact bh h.2 j o (by simpa using aP)
      have hg:s=ops.size:=by
       rcases pT aR with h | ⟨yX,bR,U,ad,aI⟩
       · simpa using h
       · have:=none _ aj yX bR U
         unfold dj at ad
         rw [this] at ad
         cases ad
      have flat:∀d,d≤ops.size→bT es a8 d=bT es a8 0:=by
       intro d
       induction d with
       | zero=>intro _;rfl
       | succ d bh=>
         intro aV
         obtain ⟨i,pD,jF⟩:=iN d (by omega)
         have b0:ops[i]? =some ops[i]:=Array.getElem?_eq_getElem pD
         obtain ⟨Sa,bL,bH,_⟩:=(s3 i).2 ops[i] b0
         rw [jF] at bL bH
         have c2:dU P ops[i].op=false:=none _ aj i _ (by simp)
         rw [(qL c2 bH).1,←bh (by omega)]
         simp [bT,bL]
      have adr:=(gp j bG).1
      have:e.h=bT es a8 s:=by rw [hg,flat ops.size (Nat.le_refl _),←flat (posOf aA j) (by omega)];simp [bT,bY]
      rw [←this]
      exact ⟨_,_,(s3 j).1,b9⟩
   have hlen:es.length=ops.size:=by rw [ai,mB,lr]
   have C:Cert P an ops calls es j2 h k_ a8 (fV P aA 0 ops.toList) order aA ops.size ops.size false:=
    ⟨hlen,Nat.le_refl _,Nat.le_refl _,gp,iN,ay,aK,fun i o b0 _=>(s3 i).2 o b0,
      fun i o b0=>by
       obtain ⟨ch,ca,z2,z3⟩:=Hz fE i o b0
       exact ⟨ch,ca,z2,fun _ k ok az _=>by
        obtain ⟨mk,dp,eF,y3⟩:=z3 k ok az
        exact ⟨mk,dp,eF,fun aF aM cm=>.inl (y3 aF aM cm)⟩⟩,
      by simpa using y5 (P:=P) (aA:=aA) (l:=ops.toList) (i:=0),
      fun j o U ad=>by simpa using tA (aA:=aA) (i:=0) (j:=j) (l:=ops.toList) (by simpa using U) ad,
      fun s aR=>by
       rcases pT aR with h | ⟨j,o,U,ad,aI⟩
       · exact .inl (.inl (by simpa using h))
       · exact .inr ⟨j,o,by simpa using U,ad,by simpa using aI⟩,
      fun j o U ad aI _=>py j o U ad aI,fun h=>absurd h (Nat.lt_irrefl _),fun h=>absurd h (Nat.lt_irrefl _)⟩
   have az:RegRel0 E an j2 a:=⟨k.size,fun t aB=>by
    have:=congrFun yj t
    simp only [dm] at this
    rw [this]
    exact k.av t (tG aB)⟩
   have cU:∀k,¬(Array.replicate ops.size false).getD k false=true:=by
    intro k
    rw [ps,Array.getElem?_replicate]
    split<;>simp
   have hQ:Holds au au es a8 aA (hM ops es a8 aA (Array.replicate ops.size false) 0):=
    ⟨rfl,fun _ _=>rfl,fun k az=>(by obtain ⟨_,_,_,_,a6⟩:=az;omega),fun k bl az=>(by obtain ⟨_,_,_,_,a6⟩:=az;omega)⟩
   obtain ⟨fK,de,g1,g2,g3,g4,g5,g6⟩:=C.advance ops.size 0 (by omega) (fun k o _ _ _=>cU k) au hQ (E:=E) (w:={w with drawn:=w.drawn}) (by rw [ay];exact s.same rfl rfl rfl rfl)
   have Jm:dm k_ d'=r d':=by rw [←yj];exact Jn
   have fin:∀ar bf ak,E.le ar→RegRel0 ar an k_ bf→bf.defers=a.defers→aW au ar a8 ak→gr .normal bf ak:=by
    intro ar bf ak ca z2 acK z3
    refine CJ ar bf ak ca ⟨z2.size,by rw [Jm,acK];exact k.defers.mono ca,fun t eo=>?_⟩ z3
    by_cases aB:t≤top
    · exact z2.av t aB
    · have b4:=z2.size
      rw [oo t (by omega) eo]
      simp [Rel]
   refine MN cO (HB bt (fun i=>(s3 i).1.1) (fun i=>(s3 i).1.2) C (gf:=E) (D:=a.defers) (fun _=>fin)
    (fun _ _ _ _ _ _ _ h=>absurd h (Nat.lt_irrefl _)) (fun h=>absurd h (Nat.lt_irrefl _)) ops.size _ a _ ?_ ?_)
   · exact Nat.le_trans List.countP_le_length (by simp)
   · refine ⟨by simp,az.size,rfl,fun bl az=>absurd az (cU bl),fun bl o e az=>absurd az (cU bl),E,fK,de,Env.le.refl E,g1,g3,fun bl o U ad=>⟨fun h=>absurd h (cU bl),fun h=>by have:=g4 bl o U ad (Nat.zero_le _);omega⟩,
      fun bl o _ _ h=>absurd h (cU bl),g5,?_,fun t aB=>.inr ⟨fun bl o az=>absurd az (cU bl),az.av t aB⟩⟩
     exact g6.same rfl rfl rfl rfl
theorem Sv {rd:Option Nat} {e:cY} {Q:Exit→Act→World→Prop} {a:Act} {w:World} (h:Q (toExit e) a w):(Co e).wpIn (bQ rd) 0 P Q a w:=by
 cases e with
 | normal=>exact wpIn_skip h
 | exit id=>exact wpIn_exit h
 | ret=>exact wpIn_ret h
theorem aao (fu:an≤top) (cO:P.follows .mixedOrders=true) (bt:dJ P) {f:Operand} {a':Array Tmp} {x y:Code} {r:aS} {h:ae} {Q:cY→aS→ae→Prop} (aP:Out an r)
 (H:b_ P (cf P an (.rangeFunc f a' x y)) r h Q):∃e bo aa,Q e bo aa∧(Out an bo∧((cf P an (.rangeFunc f a' x y)).plain=true→bo d'=r d'))∧w0 P an (.rangeFunc f a' x y) r h e bo aa:=by
 simp only [cf] at H ⊢
 cases fE:(lI an a'.toList&&(noMark x&&noMark y)) with
 | false=>rw [fE] at H;exact H.elim
 | true=>
   rw [fE] at H
   simp only [cond_true,b_] at H ⊢
   simp only [Bool.and_eq_true] at fE
   obtain ⟨g,cs,bw,aD,oe,H⟩:=H
   obtain ⟨cr,dw⟩:=x1 aP
   obtain ⟨v,aa,cp,dY,aF,aM,cP⟩:=H ⟨0,none,aG h.next,an,cr,a'.toList,x,y⟩ ⟨rfl,dw,rfl,rfl,rfl,fE.1,fE.2.1,fE.2.2,aP⟩ rfl rfl
   refine ⟨_,_,_,cP,⟨fun t U ad=>by simp only [aS.set];rw [if_neg ad];exact aP t U ad,fun z=>by cases z⟩,fun rd au E a w aH k s gr CJ=>?_⟩
   have vz:rd=none:=aH.resolve_right (by simp [noMark])
   subst vz
   have ax:Rel E (.func g cs) (a.eval f):=by
    rw [←bw]
    cases f with
    | tmp t=>
      simp only [rx]
      cases af:Nat.ble t top with
      | false=>simp [aQ.aU,Rel]
      | true=>
        simp only [cond_true,aQ.aU]
        exact k.av t (tG (Nat.le_of_ble_eq_true af))
    | const v=>exact pZ E v
    | func f=>
      simp only [rx]
      cases af:Nat.beq f cJ with
      | true=>simp [aQ.aU,Rel]
      | false=>
        simp only [cond_false,aQ.aU,Rel]
        exact .inl ⟨fun e=>by subst e;simp at af,_,rfl,by simp [aZ]⟩
    | global g=>simp [rx,aQ.aU,Rel]
   simp only [Rel] at ax
   rcases ax with ⟨_,dP,cK,aj⟩ | ⟨C8,_⟩
   case inr=>exact absurd C8 aD
   refine (wpIn_rangeFunc fun fn _=>?_:(Code.rangeFunc f a' x y).wpIn (bQ none) 0 P gr a w)
   have f0:=s.fresh h.next (Nat.le_refl _)
   obtain ⟨eU,qY⟩:∃eU,eU=E.put (aG h.next) ⟨w.heap.size,0,0⟩:=⟨_,rfl⟩
   obtain ⟨bL,kR⟩:∃bL:World,bL={w with heap:=w.heap.push (.deferred (some []))}:=⟨_,rfl⟩
   have vw:eU (aG h.next)=some ⟨w.heap.size,0,0⟩:=by rw [qY];unfold Env.put;rw [if_pos rfl]
   have s1:aW au eU (h.new .eX) bL:=by
    rw [qY,kR]
    refine s.alloc 0 ⟨⟨w.heap.size,0,0⟩,by unfold Env.put;rw [if_pos rfl],s.frame.size,by simp⟩
   have lC:E.le eU:=by rw [qY];exact Env.jj f0
   have ru:bL.heap.size=w.heap.size+1:=by rw [kR];simp
   obtain ⟨o,fQ⟩:∃o:Loop,o={state:=.ready,pending:=none,fn,tmps:=a.tmps,params:=a',assign:=x,body:=y,defers:=w.heap.size}:=⟨_,rfl⟩
   obtain ⟨bM,n_⟩:∃bM,bM=eU.put (aG (h.next+1)) ⟨bL.heap.size,0,0⟩:=⟨_,rfl⟩
   obtain ⟨bH,nj⟩:∃bH:World,bH={bL with heap:=bL.heap.push (.loop o)}:=⟨_,rfl⟩
   have f1:eU (aG (h.next+1))=none:=s1.fresh (h.next+1) (Nat.le_refl _)
   have ji:eU.le bM:=by rw [n_];exact Env.jj f1
   have vx:bM (aG (h.next+1))=some ⟨bL.heap.size,0,0⟩:=by rw [n_];unfold Env.put;rw [if_pos rfl]
   have dq:qx bM ⟨0,none,aG h.next,an,cr,a'.toList,x,y⟩ o:=by
    subst fQ
    refine ⟨rfl,rfl,rfl,rfl,rfl,k.size,fun t aB=>?_,_,ji _ _ vw,rfl⟩
    have:=congrFun dw t
    simp only [dm] at this
    simp only [this]
    exact Rel.mono (lC.trans ji) _ _ (k.av t (tG aB))
   have s2:aW au bM ((h.new .eX).new (.dq ⟨0,none,aG h.next,an,cr,a'.toList,x,y⟩)) bH:=by
    rw [n_,nj]
    refine s1.alloc 0 ⟨⟨bL.heap.size,0,0⟩,o,by show eU.put (aG (h.next+1)) _ (aG (h.next+1))=_;unfold Env.put;rw [if_pos rfl],by show au.w.heap.size≤bL.heap.size;rw [ru];have:=s.frame.size;omega,by simp,?_⟩
    have:=dq
    rw [n_] at this
    exact this
   obtain ⟨ga,mh⟩:∃ga,ga=bL.heap.size:=⟨_,rfl⟩
   have a1:Rel bM (.func cJ [.ptr (aG (h.next+1)) 0]) (.func (.yield ga) #[] #[]):=by
    simp only [Rel]
    exact .inr ⟨trivial,_,_,rfl,vx,by rw [mh]⟩
   have l':aZ bM (.func cJ [.ptr (aG (h.next+1)) 0]::cs) (.func (.yield ga) #[] #[]::dP.toList):=by
    simp only [aZ]
    exact ⟨_,_,rfl,a1,aZ.mono (lC.trans ji) _ _ aj⟩
   have aq:Calls P g (Value.func (Fn.yield ga) #[] #[]::dP.toList).toArray bH (rangePost (bQ none) 0 P ga gr {a with defers:=[{target:=.collected w.heap.size,args:=#[]}]++a.defers}):=(cp.calls bt oe au bM bH _ l' s2).mono fun e ak aE=>by
    obtain ⟨ar,aeb,rfl,ai,_,aK⟩:=aE
    simp only [rangePost]
    have h':=ai _ _ vx
    have af:=aK.at h'
    rw [aF] at af
    obtain ⟨p',bR,fv,cS,a8,Dl⟩:=af
    rw [h'] at fv;cases fv
    obtain ⟨t1,t2,t3,t4,t5,t6,t7,t8⟩:=Dl
    simp only at a8
    rw [←mh] at a8
    have Dt:(bR.state == LoopState.busy)=false:=by
     rw [t1]
     match oh:dY.st with
     | 0=>rfl
     | 1=>exact absurd oh aM
     | n+2=>rfl
    have i':=(Array.getElem?_eq_some_iff.1 a8).1
    let hK:World:={ak with heap:=ak.heap.setIfInBounds ga (.loop {bR with state:=.exhausted})}
    have eP:(Instr.endLoop ga).run P ak=.ok bR.pending hK:=by
     have ou:(setObj ga (.loop {bR with state:=.exhausted})).run P ak=.ok () hK:=by simp only [setObj,Sem.run,a8];rfl
     simp only [Instr.endLoop,Sem.run_bind,run_getLoop a8,Result.andThen_ok,Dt,Bool.false_eq_true,if_false,ou,Sem.run_pure]
    have uc:aW au ar (aa.set (aG (h.next+1)) .dead) hK:=by
     refine aK.gone (p:=⟨bL.heap.size,0,0⟩) (by rw [aF];rfl) h' cS (by simp [hK]) (fun j bG=>?_) rfl rfl rfl
     simp only at bG
     simp only [hK,Array.getElem?_setIfInBounds]
     rw [if_neg (fun e=>bG (by rw [←e,mh]))]
    have fG:hZ ar an (r.set (some d') (.tuple (.ptr (aG h.next) 0::(r d').list))) {a with defers:=[{target:=.collected w.heap.size,args:=#[]}]++a.defers}:=by
     refine ⟨k.size,?_,fun t aB=>?_⟩
     · simp only [aS.set,if_true,iR,kz,List.cons_append,List.nil_append]
       exact ⟨_,_,rfl,⟨_,ai _ _ (ji _ _ vw),rfl⟩,(k.defers.mono (lC.trans (ji.trans ai))).list⟩
     · simp only [aS.set]
       rw [if_neg aB]
       exact Rel.mono (lC.trans (ji.trans ai)) _ _ (k.av t aB)
    refine ⟨bR.pending,hK,eP,?_⟩
    rw [t2]
    have fin:=CJ ar _ hK (lC.trans (ji.trans ai)) fG uc
    cases h9:dY.ep with
    | none=>rw [h9] at fin;exact fin
    | some e=>rw [h9] at fin;exact Sv fin
   obtain ⟨adh,Uj,oe⟩:=oe
   refine ⟨ga,[{target:=.collected w.heap.size,args:=#[]}],bH,{target:=.fn (.func g) dP,args:=#[]++#[.func (.yield ga) #[] #[]]},bH,g,_,bH,?_,?_,fun _ _=>trivial,?_,fun h=>by simp at h,pk.2 aq⟩
   · subst fQ nj kR
     have he:=run_enterLoop_outer (P:=P) (w:=w) fn a.tmps a' x y
     rw [World.alloc,World.alloc] at he
     simp only [Array.size_push] at mh ⊢
     rw [mh]
     exact he
   · simp only [resolve,cK,Deferred.ofValue,Sem.run_pure]
     simp [Act.eval]
   · simp only [invoke]
     have e:(#[]++#[Value.func (.yield ga) #[] #[]]:Array Value)++dP=(Value.func (.yield ga) #[] #[]::dP.toList).toArray:=by apply Array.ext';simp
     rw [e]
     exact p_ bt Uj oe _ bH
theorem FL (fu:an≤top) (cO:P.follows .mixedOrders=true) (bt:dJ P):∀(c:Code) (r:aS) (h:ae) (Q:cY→aS→ae→Prop),Out an r→b_ P (cf P an c) r h Q→
 ∃e bo aa,Q e bo aa∧(Out an bo∧((cf P an c).plain=true→bo d'=r d'))∧w0 P an c r h e bo aa:=by
 intro c
 induction c with
 | skip=>
   intro r h Q aP H
   exact ⟨.normal,r,h,H,⟨aP,fun _=>rfl⟩,fun rd au E a w aH k s gr cP=>wpIn_skip (cP E a w (Env.le.refl E) k s)⟩
 | label l=>
   intro r h Q aP H
   exact ⟨.normal,r,h,H,⟨aP,fun _=>rfl⟩,fun rd au E a w aH k s gr cP=>wpIn_label (cP E a w (Env.le.refl E) k s)⟩
 | exit id=>
   intro r h Q aP H
   exact ⟨.exit id,r,h,H,⟨aP,fun _=>rfl⟩,fun rd au E a w aH k s gr cP=>wpIn_exit (cP E a w (Env.le.refl E) k s)⟩
 | ret=>
   intro r h Q aP H
   exact ⟨.ret,r,h,H,⟨aP,fun _=>rfl⟩,fun rd au E a w aH k s gr cP=>wpIn_ret (cP E a w (Env.le.refl E) k s)⟩
 | region id ops draw=>
   intro r h Q aP H
   cases draw with
   | true=>
     simp only [cf,cond_true] at H
     obtain ⟨bo,aa,ai,ay,aK⟩:=R' fu cO bt (id:=id) aP H
     exact ⟨.normal,bo,aa,ai,⟨ay.1,fun _=>ay.2⟩,aK⟩
   | false=>
     simp only [cf,cond_false,b_] at H
     obtain ⟨bo,aa,ai,ay,aK⟩:=MQ bt ops.toList 0 (fun j=>by simp) r h _ aP H
     refine ⟨.normal,bo,aa,ai,⟨ay.1,fun _=>ay.2⟩,fun rd au E a w aH k s gr cP=>?_⟩
     refine wpIn_region ?_
     have:=aK rd au E a w k s gr cP
     rw [List.range_eq_range']
     simpa using this
 | seq x y rA rB=>
   intro r h Q aP H
   simp only [cf,b_] at H
   obtain ⟨e,bs,U,ai,ay,aK⟩:=rA r h _ aP H
   cases e with
   | normal=>
     obtain ⟨e,cV,ad,bY,b9,dZ⟩:=rB bs U Q ay.1 ai
     refine ⟨e,cV,ad,bY,⟨b9.1,fun z=>by simp only [cf,bD.plain,Bool.and_eq_true] at z;exact (b9.2 z.2).trans (ay.2 z.1)⟩,fun rd au E a w aH k s gr cP=>?_⟩
     refine wpIn_seq (aK rd au E a w (aH.imp (fun h=>h) fun h=>by simp only [noMark,Bool.and_eq_true] at h;exact h.1) k s _ fun ar bf ak ca z2 z3=>?_).wp
     exact (dZ rd au ar bf ak (aH.imp (fun h=>h) fun h=>by simp only [noMark,Bool.and_eq_true] at h;exact h.2) z2 z3 gr fun bM a2 bH dp eF y3=>cP bM a2 bH (ca.trans dp) eF y3).wp
   | exit i=>
     refine ⟨.exit i,bs,U,ai,⟨ay.1,fun z=>by simp only [cf,bD.plain,Bool.and_eq_true] at z;exact ay.2 z.1⟩,fun rd au E a w aH k s gr cP=>?_⟩
     refine wpIn_seq (aK rd au E a w (aH.imp (fun h=>h) fun h=>by simp only [noMark,Bool.and_eq_true] at h;exact h.1) k s _ fun ar bf ak ca z2 z3=>?_).wp
     exact cP ar bf ak ca z2 z3
   | ret=>
     refine ⟨.ret,bs,U,ai,⟨ay.1,fun z=>by simp only [cf,bD.plain,Bool.and_eq_true] at z;exact ay.2 z.1⟩,fun rd au E a w aH k s gr cP=>?_⟩
     refine wpIn_seq (aK rd au E a w (aH.imp (fun h=>h) fun h=>by simp only [noMark,Bool.and_eq_true] at h;exact h.1) k s _ fun ar bf ak ca z2 z3=>?_).wp
     exact cP ar bf ak ca z2 z3
 | cond c x y rA rB=>
   intro r h Q aP H
   simp only [cf,b_] at H
   cases bw:(rx c).aU r<;>rw [bw] at H<;>simp only at H<;>try (exact H.elim)
   rename_i t
   have aq:∀E a,hZ E an r a→a.eval c=.bool t:=by
    intro E a k
    cases c with
    | tmp d=>
      simp only [rx] at bw
      cases af:Nat.ble d top with
      | false=>rw [af] at bw;simp [aQ.aU] at bw
      | true=>
        rw [af] at bw
        simp only [cond_true,aQ.aU] at bw
        have:=k.av d (tG (Nat.le_of_ble_eq_true af))
        rw [bw] at this
        simp only [Rel] at this
        exact this
    | const v=>
      simp only [rx,aQ.aU] at bw
      have:=pZ E v
      rw [bw] at this
      simp only [Rel] at this
      exact this
    | func f=>
      simp only [rx] at bw
      cases af:Nat.beq f cJ<;>rw [af] at bw<;>simp [aQ.aU] at bw
    | global g=>simp [rx,aQ.aU] at bw
   cases t with
   | true=>
     obtain ⟨e,bs,U,ai,ay,aK⟩:=rA r h Q aP (H.1 rfl)
     exact ⟨e,bs,U,ai,⟨ay.1,fun z=>by simp only [cf,bD.plain,Bool.and_eq_true] at z;exact ay.2 z.1⟩,fun rd au E a w aH k s gr cP=>wpIn_cond_true (aq E a k) (aK rd au E a w (aH.imp (fun h=>h) fun h=>by simp only [noMark,Bool.and_eq_true] at h;exact h.1) k s gr cP).wp⟩
   | false=>
     obtain ⟨e,bs,U,ai,ay,aK⟩:=rB r h Q aP (H.2 rfl)
     exact ⟨e,bs,U,ai,⟨ay.1,fun z=>by simp only [cf,bD.plain,Bool.and_eq_true] at z;exact ay.2 z.2⟩,fun rd au E a w aH k s gr cP=>wpIn_cond_false (aq E a k) (aK rd au E a w (aH.imp (fun h=>h) fun h=>by simp only [noMark,Bool.and_eq_true] at h;exact h.2) k s gr cP).wp⟩
 | block id x bh=>
   intro r h Q aP H
   simp only [cf,b_] at H
   obtain ⟨e,bs,U,ai,ay,aK⟩:=bh r h _ aP H
   refine ⟨e.leave id,bs,U,ai,ay,fun rd au E a w aH k s gr cP=>?_⟩
   refine wpIn_block (aK rd au E a w (aH.imp (fun h=>h) fun h=>h) k s _ fun ar bf ak ca z2 z3=>?_).wp
   cases e with
   | normal=>exact cP ar bf ak ca z2 z3
   | ret=>exact cP ar bf ak ca z2 z3
   | exit i=>
     have:=cP ar bf ak ca z2 z3
     simp only [toExit,Exit.inBlock]
     simp only [cY.leave] at this
     by_cases aC:i=id
     · rw [if_pos aC] at this ⊢;exact this
     · rw [if_neg aC] at this ⊢;exact this
 | loop x bh=>
   intro r h Q aP H
   simp only [cf,b_] at H
   obtain ⟨I,μ,oa,U9⟩:=H
   have key:∀n r h,μ r h=n→I r h→Out an r→∃e bo aa,Q e bo aa∧(Out an bo∧((cf P an (.loop x)).plain=true→bo d'=r d'))∧w0 P an (.loop x) r h e bo aa:=by
    intro n
    induction n using Nat.strongRecOn with
    | _ n VM=>
      intro r h a7 oa aP
      obtain ⟨e,bs,U,ai,ay,aK⟩:=bh r h _ aP (U9 r h oa)
      have body:∀(rd:Option Nat) (au:Fr) E a w,(rd=none∨noMark x=true)→hZ E an r a→aW au E h w→∀(b:Frame) (cc:List Item) (cs:List Frame),b.roundOf=rd→∃bf ak ar,E.le ar∧hZ ar an bs bf∧aW au ar U ak∧ArrivesIn (Machine.fenced P (bQ rd)) P (lone (b.atR a (.code x::.inLoop x::cc)) cs w) b (.inLoop x::cc) cs (toExit e) bf ak:=by
       intro rd au E a w aH k s b cc cs jb
       have:=(aK rd au E a w aH k s (fun cN bf ak=>cN=toExit e∧∃ar,E.le ar∧hZ ar an bs bf∧aW au ar U ak) (fun ar bf ak ai ay aK=>⟨rfl,ar,ai,ay,aK⟩)).wp b (.inLoop x::cc) cs jb trivial (Ff _)
       obtain ⟨aM,a2,bH,⟨rfl,bM,ca,z2,z3⟩,hv⟩:=this
       exact ⟨a2,bH,bM,ca,z2,z3,hv⟩
      cases e with
      | normal=>
        obtain ⟨TE,aO⟩:=ai
        obtain ⟨aM,cV,ad,bY,b9,dZ⟩:=VM (μ bs U) (a7 ▸ aO) bs U rfl TE ay.1
        refine ⟨aM,cV,ad,bY,⟨b9.1,fun z=>(b9.2 z).trans (ay.2 z)⟩,fun rd au E a w aH k s gr cP b cc cs jb=>?_⟩
        obtain ⟨a2,bH,bM,ca,z2,z3,hv⟩:=body rd au E a w (aH.imp (fun h=>h) fun h=>h) k s b cc cs jb
        obtain ⟨cm,a3,lP,dp,eF⟩:=dZ rd au bM a2 bH aH z2 z3 gr (fun qm a4 hK t1 t2 t3=>cP qm a4 hK (ca.trans t1) t2 t3) b cc cs jb
        exact ⟨cm,a3,lP,dp,.of_steps (StepsIn.trans hv (.one (m' _) stepR_inLoop)) eF⟩
      | exit i=>
        refine ⟨.exit i,bs,U,ai,ay,fun rd au E a w aH k s gr cP b cc cs jb=>?_⟩
        obtain ⟨a2,bH,bM,ca,z2,z3,hv⟩:=body rd au E a w (aH.imp (fun h=>h) fun h=>h) k s b cc cs jb
        exact ⟨.exit i,a2,bH,cP bM a2 bH ca z2 z3,.pass (x:=.inLoop x) rfl (fun _ _=>.inl (by simp)) hv⟩
      | ret=>
        refine ⟨.ret,bs,U,ai,ay,fun rd au E a w aH k s gr cP b cc cs jb=>?_⟩
        obtain ⟨a2,bH,bM,ca,z2,z3,hv⟩:=body rd au E a w (aH.imp (fun h=>h) fun h=>h) k s b cc cs jb
        exact ⟨.ret,a2,bH,cP bM a2 bH ca z2 z3,.pass (x:=.inLoop x) rfl (fun _ _=>.inl (by simp)) hv⟩
   exact key _ r h rfl oa aP
 | scope x bh=>
   intro r h Q aP H
   obtain ⟨e,bs,U,ai,ay,aK⟩:=bh r h Q aP H
   refine ⟨e,bs,U,ai,ay,fun rd au E a w aH k s gr cP=>?_⟩
   refine L3 (aK rd au E a w (aH.imp (fun h=>h) fun h=>h) k s _ fun ar bf ak ca z2 z3=>?_).wp
   have:=cP ar bf ak ca z2 z3
   cases e<;>exact this
 | rangeFunc f a' x y _ _=>intro r h Q aP H;exact aao fu cO bt aP H
 | goto l=>intro r h Q aP H;exact H.elim
 | refuse acf=>intro r h Q aP H;exact H.elim
inductive uG where
 | t (n:Nat)
 | bB (n:Nat)
 | lg (n size:Nat)
 | bad
def cW (P:Program) (an:Nat):List ResultVar→List uG
 | []=>[]
 | .tmp t::rs=>(bif Nat.ble t top&&Nat.blt t an then .t t else .bad)::cW P an rs
 | .cell a t::rs=>(bif Nat.ble a top&&Nat.blt a an then (match aX P t with
   | none=>.bad
   | some aL=>bif aL.agg then .lg a aL.size else bif Nat.beq aL.size 1 then .bB a else .bad) else .bad)::cW P an rs
noncomputable def cH (r:aS) (h:ae):List uG→Option (List V)
 | []=>some []
 | x::xs=>match (match x with
   | .t n=>some (r n)
   | .bB n=>kn h (r n)
   | .lg n size=>km size h (r n)
   | .bad=>none) with
   | none=>none
   | some v=>match cH r h xs with
     | none=>none
     | some ab=>some (v::ab)
theorem x0 {r:aS} {h:ae} {cr:bp} (dw:dm cr=r):∀{l:List ResultVar} {ab:List V},cH r h (cW P an l)=some ab→(ih P an l).run cr h=some ab
 | [],ab,he=>by simpa [cH,cW,ih] using he
 | .tmp t::rs,ab,he=>by
   simp only [cW,cH] at he
   unfold ih
   cases aq:(Nat.ble t top&&Nat.blt t an) with
   | false=>rw [aq] at he;simp at he
   | true=>
     rw [aq] at he
     simp only [cond_true] at he ⊢
     cases aH:cH r h (cW P an rs) with
     | none=>rw [aH] at he;cases he
     | some r7=>
       rw [aH] at he
       rw [x0 dw aH]
       have:=congrFun dw t
       simp only [dm] at this
       rw [this]
       exact he
 | .cell a t::rs,ab,he=>by
   simp only [cW,cH] at he
   unfold ih
   cases aq:(Nat.ble a top&&Nat.blt a an) with
   | false=>rw [aq] at he;simp at he
   | true=>
     rw [aq] at he
     simp only [cond_true] at he ⊢
     have Ji:=congrFun dw a
     simp only [dm] at Ji
     rw [Ji]
     unfold mz
     cases aB:aX P t with
     | none=>rw [aB] at he;simp at he
     | some aL=>
       rw [aB] at he
       simp only at he ⊢
       cases IA:aL.agg with
       | true=>
         rw [IA] at he
         simp only [cond_true] at he ⊢
         cases aj:km aL.size h (r a) with
         | none=>rw [aj] at he;cases he
         | some v=>
           rw [aj] at he
           simp only at he ⊢
           cases aH:cH r h (cW P an rs) with
           | none=>rw [aH] at he;cases he
           | some r7=>rw [aH] at he;rw [x0 dw aH];exact he
       | false=>
         rw [IA] at he
         simp only [cond_false] at he ⊢
         cases aR:Nat.beq aL.size 1 with
         | false=>rw [aR] at he;simp at he
         | true=>
           rw [aR] at he
           simp only [cond_true] at he ⊢
           cases aj:kn h (r a) with
           | none=>rw [aj] at he;cases he
           | some v=>
             rw [aj] at he
             simp only at he ⊢
             cases aH:cH r h (cW P an rs) with
             | none=>rw [aH] at he;cases he
             | some r7=>rw [aH] at he;rw [x0 dw aH];exact he
theorem zh:∀(l:List V) (t:Nat),aS.bk l t=(l[t]?).getD .bad
 | [],t=>by simp [aS.bk]
 | v::ab,t=>by
   simp only [aS.bk]
   cases t with
   | zero=>simp
   | succ t=>simp [zh ab t]
def cY.ends:cY→Prop
 | .exit _=>False
 | _=>True
noncomputable def pR:List V→ae→Option ae
 | [],h=>some h
 | .ptr b _::ds,h=>(match h.get b with
   | .eX=>pR ds (h.set b .dead)
   | _=>none)
 | _::_,_=>none
theorem Kc {h1:ql}:∀{ds:List V} {h ad:ae},pR ds h=some ad→kk h1 ds none h=.go none ad
 | [],h,ad,e=>by simp only [pR,Option.some.injEq] at e;subst e;rfl
 | d::ds,h,ad,e=>by
   cases d<;>simp only [pR] at e<;>try (cases e;done)
   rename_i b o
   simp only [kk]
   cases aD:h.get b<;>rw [aD] at e<;>simp only at e<;>try (cases e;done)
   exact Kc e
theorem Hl (cO:P.follows .mixedOrders=true) (bt:dJ P) {f:FuncId} {fn:Func} {c:Code} {args:List V} {h:ae} {K:V→ae→Prop} (ax:P.funcs[f]? =some fn) (af:fn.body=some c)
 (fu:Nat.ble fn.ntmps top=true) (a1:Nat.beq f cJ=false) (iW:Nat.ble args.length fn.ntmps=true) {rc:bD} {eg:List uG} (vy:cf P fn.ntmps c=rc) (rr:cW P fn.ntmps fn.results.toList=eg) {Q:cY→aS→ae→Prop} (H:b_ P rc (aS.bk args) h Q)
 (cP:∀e r aa,(rc.plain=true→r d'=.bad)→Q e r aa→e.ends∧∃ad,pR (r d').list aa=some ad∧∃ab,cH r ad eg=some ab∧K (oneOf ab) ad):bK P f args h K:=by
 subst vy rr
 rw [Nat.ble_eq] at fu iW
 have aP:Out fn.ntmps (aS.bk args):=by
  intro t aB _
  rw [zh,List.getElem?_eq_none (by omega)]
  rfl
 have kP:(aS.bk args) d'=.bad:=by
  rw [zh,List.getElem?_eq_none (by unfold d';unfold top at fu;omega)]
  rfl
 obtain ⟨e,bo,aa,aE,oo,T2⟩:=FL fu cO bt c _ h _ aP H
 obtain ⟨eP,ad,UE,ab,Vt,c9⟩:=cP e bo aa (fun z=>(oo.2 z).trans kP) aE
 have gy:f≠cJ:=fun e=>by subst e;simp at a1
 refine ⟨oneOf ab,ad,⟨gy,.inl ⟨⟨fn,ax,by rw [af];rfl⟩,fun au E w xs ao s=>?_⟩⟩,c9⟩
 have hlen:=ao.length
 have b4:xs.toArray.size≤fn.ntmps:=by simp;omega
 refine pk.1 (callsIn_of_wp_marks (F:=bQ none) (n:=0) ax af trivial ?_)
 have k:hZ E fn.ntmps (aS.bk args) {tmps:=xs.toArray++Array.replicate (fn.ntmps-xs.toArray.size) undef,defers:=[]}:=by
  refine ⟨by simp;omega,by rw [kP];simp [iR],fun t _=>?_⟩
  rw [zh]
  cases aD:args[t]? with
  | none=>simp [Rel]
  | some v=>
    obtain ⟨y,a1,aH⟩:=ao.get t v aD
    simp only [Option.getD_some]
    have yK:t<xs.length:=(List.getElem?_eq_some_iff.1 a1).1
    rw [Array.getD_eq_getD_getElem?,Array.getElem?_append_left (by simpa using yK)]
    simp only [List.getElem?_toArray,a1,Option.getD_some]
    exact aH
 have iX:w2 P (fun _ _ _ _=>.fail):=fun f args u h fo aa he=>by cases he
 have fin:∀ar bf ak,E.le ar→hZ ar fn.ntmps bo bf→aW au ar aa ak→LeavesInM (bQ none) 0 P fn bf.tmps (fun e ak=>∃ar x,e=.returned x∧E.le ar∧Rel ar (oneOf ab) x∧aW au ar ad ak) bf.defers .returning ak:=by
  intro ar bf ak ai ay aK
  obtain ⟨cr,dw⟩:=x1 oo.1
  have aV:T.get .bad dT cr=bo d':=by
   have:=congrFun dw d'
   simp only [dm] at this
   exact this
  have az:ei ar fn.ntmps cr bf:=⟨⟨ay.size,fun t aB=>by
   have:=congrFun dw t
   simp only [dm] at this
   rw [this]
   exact ay.av t (tG aB)⟩,by rw [aV];exact ay.defers⟩
  refine Cp (C:=⟨P,fun _=>none,fun _=>none⟩) (u:=none) bt iX az rfl aK ?_
  rw [aV,Kc UE]
  simp only [finish]
  rw [x0 dw Vt]
  exact fun bM x bH bY b9 dZ=>⟨bM,x,rfl,ai.trans bY,b9,dZ⟩
 refine (T2 none au E _ w (.inl rfl) k s _ fun ar bf ak ai ay aK=>?_).wp
 have:=fin ar bf ak ai ay aK
 cases e with
 | normal=>exact this
 | ret=>exact this
 | exit i=>exact eP.elim
theorem K6:∀(a':List Nat) (ab:List V) (cr:bp),dm (oM a' ab cr)=aS.tP a' ab (dm cr)
 | p::a',v::ab,cr=>by
   rw [oM,aS.tP,K6 a' ab]
   congr 1
   exact zC (some p) cr v
 | [],[],_=>rfl
 | [],_::_,_=>rfl
 | _::_,[],_=>rfl
theorem K7:∀{a':List Nat} {ab:List V} {r:aS},lI an a'=true→Out an r→Out an (aS.tP a' ab r)
 | p::a',v::ab,r,ag,aP=>by
   simp only [lI,List.all_cons,Bool.and_eq_true] at ag
   exact K7 (r:=r.set (some p) v) ag.2 (aP.set (d:=some p) (by simp only [ed,Bool.and_eq_true];exact ag.1) v)
 | [],[],_,_,aP=>aP
 | [],_::_,_,_,aP=>aP
 | _::_,[],_,_,aP=>aP
theorem LU {a':List Nat} {ab:List V} {r:aS} (ag:lI an a'=true) (aP:Out an r):Out an (p9 a' ab r):=fun t U ad=>by
 unfold p9
 simp only [aS.set]
 rw [if_neg ad]
 exact K7 ag aP t U ad
theorem acI (fu:an≤top) (cO:P.follows .mixedOrders=true) (bt:dJ P) {l:lS} {r:aS} {a':List Nat} {wH zL:bD} {xs:List V} {b:aN} {h:ae} {K:V→ae→Prop} (F:xk P l an r a' wH zL) (aD:h.get b=.dq l) (a6:l.st=0) (hlen:xs.length=a'.length)
 (H:b_ P wH (p9 a' xs r) h fun e bs U=>e=.normal∧U.get b=.dq l∧b_ P zL bs (U.set b (.dq (l.go 1 l.ep))) fun e cV ad=>ad.get b=.dq (l.go 1 l.ep)∧(match e with
   | .normal=>K (.bool true) (ad.set b (.dq (l.go 0 none)))
   | e=>K (.bool false) (ad.set b (.dq (l.go 2 (some e)))))):xn P xs b h K:=by
 obtain ⟨w3,Ao,Ap,M1,M3,Aq,M4,M5,FX⟩:=F
 subst M1 M3
 obtain ⟨aF,bs,U,⟨rfl,g1,cR⟩,cQ,bB⟩:=FL fu cO bt l.assign _ h _ (LU Aq FX) H
 obtain ⟨aM,cV,ad,⟨g2,M'⟩,cD,bX⟩:=FL fu cO bt l.body _ _ _ cQ.1 cR
 obtain ⟨v,aa,eP,c9⟩:∃v aa,rX b aM ad=.val v aa∧K v aa:=by
  unfold rX
  rw [g2]
  cases aM<;>exact ⟨_,_,rfl,M'⟩
 refine ⟨v,aa,fun au E w sy p aj s ag=>?_,c9⟩
 have af:=s.at ag
 rw [aD] at af
 obtain ⟨p',o,fv,cS,a8,aH⟩:=af
 rw [ag] at fv;cases fv
 obtain ⟨t1,t2,t3,t4,t5,t6,t7,t8⟩:=aH
 have h7:=aj.length
 have yG:o.params.size=sy.length:=by rw [←Array.length_toList,t3,Ap,←hlen,h7]
 refine ⟨o.fn,(o.params.zip sy.toArray).foldl (fun tmps (t,a)=>tmps.setIfInBounds t a) o.tmps,o.assign,o.body,?_,?_⟩
 · simp only [Instr.yield,Sem.run_bind,run_getLoop a8,Result.andThen_ok]
   rw [if_neg (by simp [yG])]
   rfl
 · rw [t4,t5]
   refine roundIn_of_wpIn (F:=bQ none) trivial ?_
   have nq:RegRel0 E l.an l.r ⟨o.tmps,[]⟩:=⟨t6,t7⟩
   have uW:lI l.an o.params.toList=true:=by rw [t3,Ap,w3];exact Aq
   have b6:=Lu uW aj nq
   have k:hZ E an (p9 a' xs r) ⟨(o.params.zip sy.toArray).foldl (fun t (p:Nat × Value)=>t.setIfInBounds p.1 p.2) o.tmps,[]⟩:=by
    refine ⟨by rw [←w3];exact b6.size,by unfold p9;simp [aS.set,iR],fun t aB=>?_⟩
    by_cases Vj:t≤top
    · have:=b6.av t Vj
      rw [t3,Ap] at this
      have e:=congrFun (K6 a' xs l.r) t
      rw [Ao] at e
      unfold p9
      simp only [aS.set]
      rw [if_neg aB,←e]
      exact this
    · rw [LU Aq FX t (by omega) aB]
      simp [Rel]
   refine (bB (some p.bd) au E _ w (.inr M4) k s (Exit.then (fun nU o5=>∃wW,(Instr.beginRound p.bd).run P o5=.ok () wW∧
    l.body.wpIn (bQ (some p.bd)) 0 P (roundPost P p.bd fun e ak=>∃ar x,e=.returned x∧E.le ar∧Rel ar v x∧aW au ar aa ak) nU wW) (fun _ _ _=>False)) fun eU bN bL ai ay aK=>?_).wp
   have gJ:=ai _ _ ag
   have hc:=aK.at gJ
   rw [g1] at hc
   obtain ⟨bY,pY,vt,n',nc,ot⟩:=hc
   rw [gJ] at vt;cases vt
   obtain ⟨dp,eF,y3,y4,FM,y6,acF,acG⟩:=ot
   obtain ⟨ca,z2⟩:=aK.loop (P:=P) (dY:=l.go 1 l.ep) (bR:={pY with state:=.busy}) g1 gJ n' nc ⟨rfl,eF,y3,y4,FM,y6,acF,acG⟩
   refine ⟨{bL with heap:=bL.heap.setIfInBounds p.bd (.loop {pY with state:=.busy})},?_,?_⟩
   · have vA:pY.state=.ready:=by rw [dp,a6];rfl
     simp only [Instr.beginRound,Sem.run_bind,run_getLoop nc,Result.andThen_ok,ca,vA,Sem.run_pure]
   · refine (bX (some p.bd) au eU _ _ (.inr M5) ay z2 _ fun bM a2 bH bu e6 acw=>?_).wp
     exact LS acw (bu _ _ gJ) eP fun x ak FE ab0=>⟨bM,x,rfl,ai.trans bu,FE,ab0⟩
theorem dv (cO:P.follows .mixedOrders=true) (bt:dJ P) {f:FuncId} {fn:Func} {c:Code} {args:List V} {h:ae} {K:V→ae→Prop} (ax:P.funcs[f]? =some fn) (af:fn.body=some c)
 (fu:Nat.ble fn.ntmps top=true) (a1:Nat.beq f cJ=false) (iW:Nat.ble args.length fn.ntmps=true) {rc:bD} {eg:List uG} (vy:cf P fn.ntmps c=rc) (rr:cW P fn.ntmps fn.results.toList=eg) (h':rc.plain=true)
 (H:b_ P rc (aS.bk args) h fun e r aa=>e.ends∧∃ab,cH r aa eg=some ab∧K (oneOf ab) aa):bK P f args h K:=by
 refine Hl cO bt ax af fu a1 iW vy rr H fun e r aa aR ⟨U,ab,ad,aI⟩=>⟨U,aa,?_,ab,ad,aI⟩
 rw [aR h']
 rfl
theorem RQ (cO:P.follows .mixedOrders=true) (bt:dJ P) {f:FuncId} {fn:Func} {c:Code} {args:List V} {h:ae} {K:V→ae→Prop} (ax:P.funcs[f]? =some fn) (af:fn.body=some c)
 (fu:Nat.ble fn.ntmps top=true) (a1:Nat.beq f cJ=false) (iW:Nat.ble args.length fn.ntmps=true) {rc:bD} {eg:List uG} (vy:cf P fn.ntmps c=rc) (rr:cW P fn.ntmps fn.results.toList=eg)
 (H:b_ P rc (aS.bk args) h fun e r aa=>e.ends∧∃ad,pR (r d').list aa=some ad∧∃ab,cH r ad eg=some ab∧K (oneOf ab) ad):bK P f args h K:=
 Hl cO bt ax af fu a1 iW vy rr H fun e r aa _ q=>q
end
end Go.Proofs.YtkehcalakofigaaGreatDoor.aY
namespace Go.Proofs.YtkehcalakofigaaGreatDoor.aY
variable [Lay]
open Go Go.RowKit
theorem oL (i j:Nat):(aG i=aG j)=(i=j):=by
 apply propext
 exact ⟨gB,fun h=>by rw [h]⟩
theorem aac (ab:List V):∀(i off:Nat) (x:V) (t:T V),i<off→T.put .bad x (aG i) (eK t off ab)=eK (T.put .bad x (aG i) t) off ab:=by
 induction ab with
 | nil=>intro i off x t _;rfl
 | cons v ab bh=>
   intro i off x t h
   simp only [eK]
   rw [bh i (off+1) x _ (by omega),T.put_comm _ _ _ _ _ _ (fun e=>by rw [oL] at e;omega)]
def gZ (ab:List V) (off:Nat) (ws:List V):List V:=ab.take off++ws++ab.drop (off+ws.length)
theorem Ly:∀(ab:List V) (base i:Nat) (x:V) (t:T V),i<ab.length→T.put .bad x (aG (base+i)) (eK t base ab)=eK t base (ab.set i x)
 | [],_,i,_,_,h=>by simp at h
 | v::ab,base,i,x,t,h=>by
   cases i with
   | zero=>
     simp only [eK,Nat.add_zero,List.set]
     rw [aac ab base (base+1) x _ (by omega),T.Lx]
   | succ i=>
     simp only [eK,List.set]
     have:=Ly ab (base+1) i x (T.put .bad v (aG base) t) (by simpa using h)
     rw [show base + (i+1)=base+1+i from by omega]
     exact this
theorem L6 (ab:List V) (off:Nat) (w:V) (ws:List V) (h:off<ab.length):gZ (ab.set off w) (off+1) ws=gZ ab off (w::ws):=by
 unfold gZ
 have U:(ab.set off w).take (off+1)=ab.take off++[w]:=by
  rw [List.take_succ_eq_append_getElem (by simpa using h)]
  simp [List.take_set_of_le]
 have ad:(ab.set off w).drop (off+1+ws.length)=ab.drop (off + (w::ws).length):=by
  rw [List.drop_set_of_lt (by omega)]
  congr 1
  simp
  omega
 rw [U,ad]
 simp
theorem z' (ab:List V) (off:Nat) (ws:List V) (h:off+ws.length≤ab.length):(gZ ab off ws).length=ab.length:=by
 unfold gZ
 simp
 omega
theorem zD:∀(ws ab:List V) (off:Nat),off+ws.length≤ab.length→eK (eK .e 0 ab) off ws=eK .e 0 (gZ ab off ws)
 | [],ab,off,h=>by simp [eK,gZ]
 | w::ws,ab,off,h=>by
   simp only [List.length_cons] at h
   simp only [eK]
   have U:=Ly ab 0 off w .e (by omega)
   rw [Nat.zero_add] at U
   rw [U,zD ws (ab.set off w) (off+1) (by simp;omega),L6 ab off w ws (by omega)]
theorem yc (ab:List V):∀(off i:Nat) (t:T V),T.get .bad (aG (off+i)) (eK t off ab)=if i<ab.length then (ab[i]?).getD .bad else T.get .bad (aG (off+i)) t:=by
 induction ab with
 | nil=>intro off i t;simp [eK]
 | cons v ab bh=>
   intro off i t
   simp only [eK]
   cases i with
   | zero=>
     have:∀(ws:List V) (o:Nat) (s:T V),off<o→T.get .bad (aG off) (eK s o ws)=T.get .bad (aG off) s:=by
      intro ws
      induction ws with
      | nil=>intro o s _;rfl
      | cons w ws VN=>
        intro o s aP
        simp only [eK]
        rw [VN (o+1) _ (by omega),T.gj,if_neg (fun e=>by rw [oL] at e;omega)]
     rw [Nat.add_zero,this ab (off+1) _ (by omega),T.gj]
     simp
   | succ i=>
     have:=bh (off+1) i (T.put .bad v (aG off) t)
     rw [show off+1+i=off + (i+1) from by omega] at this
     rw [this,T.gj]
     have c2:¬aG off=aG (off + (i+1)):=fun e=>by rw [oL] at e;omega
     rw [if_neg c2]
     simp
theorem ye (ab:List V):∀(n i:Nat),i+n≤ab.length→fP (eK .e 0 ab) i n=(ab.drop i).take n
 | 0,i,h=>by simp [fP]
 | n+1,i,h=>by
   simp only [fP]
   have U:=yc ab 0 i .e
   rw [Nat.zero_add] at U
   rw [U,if_pos (by omega),ye ab n (i+1) (by omega)]
   have aV:ab.drop i=ab[i]::ab.drop (i+1):=List.drop_eq_getElem_cons (by omega)
   rw [aV,List.take_succ_cons]
   simp [List.getElem?_eq_getElem (by omega:i<ab.length)]
noncomputable def bS.bk (ab:List V) (cj:Nat) (st:Bool):bS:=.cells ab.length (eK .e 0 ab) cj st
noncomputable def bS.ro (ab:List V):bS:=.view ab.length (eK .e 0 ab)
def Rd (h:ae) (b:aN) (ab:List V):Prop:=h.get b=.ro ab∨∃cj st,h.get b=.bk ab cj st
def Own (h:ae) (b:aN) (ab:List V) (cj:Nat) (st:Bool):Prop:=h.get b=.bk ab cj st
theorem Rd.lL {α:Type} {h:ae} {b:aN} {ab:List V} (H:Rd h b ab) (d:α) (f:Nat→T V→α):(h.get b).lL d f=f ab.length (eK .e 0 ab):=by
 rcases H with H | ⟨_,_,H⟩<;>rw [H]<;>rfl
theorem Own.lay {h:ae} {b:aN} {ab:List V} {cj:Nat} {st:Bool} (H:Own h b ab cj st) {off:Nat} {ws:List V} (aP:off+ws.length≤ab.length) (U:ef ws=true):
 lay h b off ws=some (h.set b (.bk (gZ ab off ws) cj st)):=by
 unfold aY.lay
 rw [show h.get b=.cells ab.length (eK .e 0 ab) cj st from H]
 simp only [bS.on]
 rw [show Nat.ble (off+ws.length) ab.length=true from by rw [Nat.ble_eq];exact aP,U]
 simp only [Bool.and_true,cond_true,Option.some.injEq,bS.bk]
 rw [z' ab off ws aP,zD ws ab off aP]
theorem KE {h:ae} {ab:List V} (aj:ab.length≤top):e4 h ab=some (h.new (.bk ab 0 false)):=by
 unfold e4
 rw [show Nat.ble ab.length top=true from by rw [Nat.ble_eq];exact aj]
 rfl
theorem Ew {h:ae} {ab:List V} {cj:Nat} {st:Bool} (aj:ab.length≤top) (he:1≤cj):hE h ab cj st=some (h.new (.bk ab cj st)):=by
 unfold hE
 rw [show Nat.ble ab.length top=true from by rw [Nat.ble_eq];exact aj,show Nat.ble 1 cj=true from by rw [Nat.ble_eq];exact he]
 rfl
theorem gn (h:ae) (k:bS):(h.new k).next=h.next+1:=rfl
theorem mA (h:ae) (b:aN) (k:bS):(h.set b k).next=h.next:=rfl
section
variable {P:Program} {r:aS} {h:ae}
theorem aaY (r:aS) (d:Nat) (v:V) (t:Nat):aS.set r (some d) v t=if t=d then v else r t:=(rfl)
theorem aaZ (r:aS) (v:V):aS.set r none v=r:=(rfl)
theorem abX (r:aS) (u:Nat) (us:List Nat) (t:Nat):aS.trim r (u::us) t=if t=u then r t else aS.trim r us t:=(rfl)
theorem Zh (v:V) (ab:List V):aS.bk (v::ab) 0=v:=(rfl)
theorem Zi (v:V) (ab:List V) (t:Nat):aS.bk (v::ab) (t+1)=aS.bk ab t:=by simp [aS.bk]
theorem St (r:aS) (n:Nat):aQ.aU r (.t n)=r n:=(rfl)
theorem Ss (r:aS) (v:V):aQ.aU r (.c v)=v:=(rfl)
theorem KN {d:Option Nat} {g:G} {rs:List Nat} {K:aS→V→ae→Prop}:br.wp P ⟨d,g,none,rs⟩ r h K=g.wp P (r.trim rs) h fun v aa=>K (r.set d v) v aa:=(rfl)
theorem KL {d:Option Nat} {g:G} {j:Nat} {want:Bool} {rs:List Nat} {K:aS→V→ae→Prop}:br.wp P ⟨d,g,some (j,want),rs⟩ r h K=
 gate (r.trim rs j) want (g.wp P (r.trim rs) h fun v aa=>K (r.set d v) v aa) (K (r.set d (.tuple [])) (.tuple []) h):=(rfl)
variable {K:V→ae→Prop}
theorem l3 (k:IntKind):l2 k k=true:=by cases k<;>rfl
theorem lD (a b:Int):Int.leB a b=decide (a≤b):=my a b
theorem xV (a b:Int):Int.fC a b=decide (a=b):=by rw [jz];rfl
variable (k:IntKind) (a b:Int)
theorem V9:(dN.int .add).run P (.int k a) (.int k b)=some (.int k (k.wrap (a+b))):=by simp [dN.run,jf,lx,V.dz,l3]
theorem Xb:(dN.int .sub).run P (.int k a) (.int k b)=some (.int k (k.wrap (a-b))):=by simp [dN.run,jf,lx,V.dz,l3]
theorem WV:(dN.int .mul).run P (.int k a) (.int k b)=some (.int k (k.wrap (a * b))):=by simp [dN.run,jf,lx,V.dz,l3]
theorem JY (af:b≠0):(dN.int .rem).run P (.int k a) (.int k b)=some (.int k (a.tmod b)):=by simp [dN.run,jf,vO,V.dz,l3,xV,af]
theorem Ws:(dN.int .eql).run P (.int k a) (.int k b)=some (.bool (decide (a=b))):=by simp [dN.run,jf,kj,V.dz,l3,xV]
theorem WY:(dN.int .neq).run P (.int k a) (.int k b)=some (.bool (!decide (a=b))):=by simp [dN.run,jf,kj,V.dz,l3,xV]
theorem WR:(dN.int .lss).run P (.int k a) (.int k b)=some (.bool (decide (a<b))):=by
 simp [dN.run,jf,kj,V.dz,l3,lD]
 rw [Bool.eq_iff_iff];simp
theorem WN:(dN.int .leq).run P (.int k a) (.int k b)=some (.bool (decide (a≤b))):=by simp [dN.run,jf,kj,V.dz,l3,lD]
theorem WA:(dN.int .gtr).run P (.int k a) (.int k b)=some (.bool (decide (b<a))):=by
 simp [dN.run,jf,kj,V.dz,l3,lD]
 rw [Bool.eq_iff_iff];simp
theorem Wz:(dN.int .geq).run P (.int k a) (.int k b)=some (.bool (decide (b≤a))):=by simp [dN.run,jf,kj,V.dz,l3,lD]
theorem V_ (x y:Bool):(dN.sJ false).run P (.bool x) (.bool y)=some (.bool (x == y)):=by simp [dN.run,hb,u5,mV]
theorem Wd (x y:Bool):(dN.sJ true).run P (.bool x) (.bool y)=some (.bool (!(x == y))):=by simp [dN.run,hb,u5,mV]
theorem ab7 (x:Bool):nD .not (.bool x)=some (.bool (!x)):=(rfl)
theorem ab6:nD .neg (.int k a)=some (.int k (k.wrap (0-a))):=(rfl)
theorem wrap_i64 {n:Int} (U:-9223372036854775808≤n) (ad:n≤9223372036854775807):IntKind.i64.wrap n=n:=by
 exact Go.IntWalk.i64_in n ⟨U,ad⟩
end
section
variable {P:Program} {r:aS} {h:ae} {Q:cY→aS→ae→Prop}
theorem Q4 {ops:List br}:b_ P (.av ops) r h Q=o4 P ops r h (Q .normal):=(rfl)
theorem Q5 {a b:bD}:b_ P (.seq a b) r h Q=b_ P a r h fun e bo aa=>e.andThen (b_ P b bo aa Q) (Q e bo aa):=(rfl)
theorem abQ {A B:Prop}:cY.andThen .normal A B=A:=(rfl)
theorem abR {A B:Prop}:cY.andThen .ret A B=B:=(rfl)
theorem abO {A B:Prop} {i:Nat}:cY.andThen (.exit i) A B=B:=(rfl)
theorem Yf {id:Nat}:cY.leave id .normal=.normal:=(rfl)
theorem Yg {id:Nat}:cY.leave id .ret=.ret:=(rfl)
theorem Ye {id i:Nat}:cY.leave id (.exit i)=if i=id then .normal else .exit i:=(rfl)
end
end Go.Proofs.YtkehcalakofigaaGreatDoor.aY
namespace Go.Proofs.YtkehcalakofigaaGreatDoor.aY
variable [Lay]
open Go Go.RowKit
def r9 {α:Type} (o:Option α) (k:α→Prop):Prop:=
 match o with
 | some v=>k v
 | none=>False
@[congr] theorem ad5 {α:Type} {o bR:Option α} {k:α→Prop} (h:o=bR):r9 o k=r9 bR k:=by rw [h]
def V.opt (c:Bool) (v:V):V:=bif c then v else .tuple []
theorem ZQ (v:V):V.opt true v=v:=(rfl)
theorem ZN (v:V):V.opt false v=.tuple []:=(rfl)
@[congr] theorem adP {c fB:Bool} {v hr:V} (h:c=fB) (bw:fB=true→v=hr):V.opt c v=V.opt fB hr:=by
 subst h
 cases c with
 | true=>rw [bw rfl]
 | false=>rfl
def V.bif (t:Bool) (a b:V):V:=bif t then a else b
theorem ab_ (a b:V):V.bif true a b=a:=(rfl)
theorem ab' (a b:V):V.bif false a b=b:=(rfl)
theorem Of (t a b:Bool):V.bif t (.bool a) (.bool b)=.bool (bif t then a else b):=by cases t<;>rfl
theorem Og (t:Bool) (k:IntKind) (a b:Int):V.bif t (.int k a) (.int k b)=.int k (if t=true then a else b):=by cases t<;>rfl
theorem Oi (t x:Bool):(bif t then true else x)=(t||x):=by cases t<;>rfl
theorem Oe (t x:Bool):(bif t then x else false)=(t&&x):=by cases t<;>rfl
@[congr] theorem acU {t r2:Bool} {a bf b bz:V} (h:t=r2) (bm:r2=true→a=bf) (af:r2=false→b=bz):V.bif t a b=V.bif r2 bf bz:=by
 subst h
 cases t with
 | true=>rw [V.bif,V.bif,bm rfl];rfl
 | false=>rw [V.bif,V.bif,af rfl];rfl
def ea (c:Bool) (A:Prop):Prop:=c=true→A
@[congr] theorem acO {c fB:Bool} {A hL:Prop} (h:c=fB) (bm:fB=true→A=hL):ea c A=ea fB hL:=by
 subst h
 exact propext ⟨fun q e=>(bm e) ▸ q e,fun q e=>(bm e) ▸ q e⟩
theorem M_ (c:Bool):ea c True=True:=propext ⟨fun _=>trivial,fun _ _=>trivial⟩
theorem Nb (A:Prop):ea true A=A:=propext ⟨fun q=>q rfl,fun q _=>q⟩
theorem Na (A:Prop):ea false A=True:=propext ⟨fun _=>trivial,fun _ e=>by cases e⟩
def took (v:V) (want:Bool):Bool:=
 match v with
 | .bool b=>b == want
 | _=>false
theorem abU (b w:Bool):took (.bool b) w=(b == w):=(rfl)
theorem abW (ab:List V) (w:Bool):took (.tuple ab) w=false:=(rfl)
theorem abV (c:Bool) (v:V) (w:Bool):took (.opt c v) w=(c&&took v w):=by cases c<;>rfl
def eD (v:V):Prop:=
 match v with
 | .bool _=>True
 | .tuple _=>True
 | _=>False
theorem V1 (b:Bool):eD (.bool b)=True:=(rfl)
theorem V3 (ab:List V):eD (.tuple ab)=True:=(rfl)
theorem V2 (c b:Bool):eD (.opt c (.bool b))=True:=by cases c<;>rfl
def G.ly:G→Bool
 | .dc _ | .pick .. | .build .. | .fU _ | .hT .. | .pX _ | .bin .. | .un .. | .fn .. | .wb .. | .xw .. | .oy .. | .nA .. | .gD .. | .fs .. | .qU .. | .qV .. | .dy .. | .pJ .. | .jP .. | .hC .. | .look .. | .ext .. | .tF _ | .dk _=>true
 | .gQ (.int _) _=>true
 | .len .map _=>false
 | .len _ _=>true
 | _=>false
def V.oK {α:Type} (v:V) (d:α) (f:List V→α):α:=
 match v with
 | .agg cs=>f cs
 | _=>d
def V.wo {α:Type} (v:V) (d:α) (f:List V→α):α:=
 match v with
 | .tuple cs=>f cs
 | _=>d
def wD (c a b:V):Option V:=
 match c with
 | .bool t=>some (V.bif t a b)
 | _=>none
theorem Z4 (t:Bool) (a b:V):wD (.bool t) a b=some (V.bif t a b):=(rfl)
def oT (n:Nat) (x:V) (bI aC m3:Option V):Option V:=
 match x with
 | .cq=>z1 bI aC m3
 | .slice b off rH cap=>qb n b off rH cap bI aC m3
 | .dQ b off rH idx=>uf n b off rH idx bI aC m3
 | .fA b off kZ idx=>z6 b off kZ idx bI aC m3
 | _=>none
noncomputable def G.jq (P:Program) (g:G) (r:aS) (h:ae):Option V:=
 match g with
 | .dc x=>some (x.aU r)
 | .pick c a b=>wD (c.aU r) (a.aU r) (b.aU r)
 | .build z a'=>(match gS z (h4 r a') with
   | some cs=>some (.agg cs)
   | none=>none)
 | .fU x=>kn h (x.aU r)
 | .hT n x=>km n h (x.aU r)
 | .pX x=>pW (x.aU r)
 | .bin k x y=>k.run P (x.aU r) (y.aU r)
 | .un op x=>nD op (x.aU r)
 | .gQ (.int k) x=>(x.aU r).dz none fun _ n=>some (.int k (k.wrap n))
 | .fn f dP=>some (.func f (aQ.eJ r dP))
 | .wb f first=>some (.jR f (aQ.eJ r first))
 | .xw t z ok x=>uM t z ok (x.aU r)
 | .oy t x=>some (.iface t (x.aU r))
 | .nA x bI aC m3=>jU (x.aU r) (aQ.opt r bI) (aQ.opt r aC) (aQ.opt r m3)
 | .gD n x bI aC m3=>oT n (x.aU r) (aQ.opt r bI) (aQ.opt r aC) (aQ.opt r m3)
 | .fs off x=>(x.aU r).hl none fun b o=>some (.ptr b (o+off))
 | .qU off x=>(x.aU r).oK none fun cs=>cs[off]?
 | .qV off n x=>(x.aU r).oK none fun cs=>some (.agg ((cs.drop off).take n))
 | .dy n x i=>(rC n).run (x.aU r) (i.aU r)
 | .pJ n s x i=>(oA n s).run (x.aU r) (i.aU r)
 | .jP x i=>oC.run (x.aU r) (i.aU r)
 | .hC t x i=>(oB P t).run (x.aU r) (i.aU r)
 | .look k z ok x i=>jk k.eq z ok h (x.aU r) (i.aU r)
 | .ext x i=>(x.aU r).wo none fun ab=>ab[i]?
 | .len (.arr n) _=>some (.int .i64 n)
 | .len .str x=>(lE .string).run (x.aU r)
 | .len .slice x=>(lE (.slice 0)).run (x.aU r)
 | .tF args=>ie (fun b a=>!Int.leB a b) (aQ.eJ r args)
 | .dk args=>ie (fun b a=>!Int.leB b a) (aQ.eJ r args)
 | _=>none
section
variable {P:Program} {r:aS} {h:ae}
theorem pure_run {g:G} (ag:g.ly=true) (call:c4):g.run P call r h=aT.of h (g.jq P r h):=by
 cases g<;>simp only [G.ly] at ag<;>try (cases ag;done)
 all_goals simp only [G.run,G.jq]
 case dc x=>rfl
 case pick c a b=>
  generalize c.aU r=q
  cases q<;>rfl
 case build z a'=>
  generalize gS z (h4 r a')=q
  cases q<;>rfl
 case gQ k x=>
  cases k<;>simp only at ag<;>try (cases ag;done)
  simp only [o7.run]
  generalize x.aU r=q
  cases q<;>rfl
 case fn f dP=>rfl
 case wb f first=>rfl
 case oy t x=>rfl
 case gD n x bI aC m3=>
  unfold oT
  generalize x.aU r=q
  cases q<;>rfl
 case qU off x=>
  generalize x.aU r=q
  cases q<;>rfl
 case qV off n x=>
  generalize x.aU r=q
  cases q<;>rfl
 case ext x i=>
  generalize x.aU r=q
  cases q<;>rfl
 case len k x=>
  cases k<;>simp only at ag<;>first | rfl | (cases ag;done)
theorem Ie {g:G} (ag:g.ly=true) {K:V→ae→Prop}:g.wp P r h K=r9 (g.jq P r h) fun v=>K v h:=by
 have e:g.wp P r h K=∃v aa,g.run P iL r h=.val v aa∧K v aa:=by
  cases g<;>first | rfl | (simp [G.ly] at ag;done)
 rw [e,pure_run ag]
 apply propext
 cases bw:g.jq P r h with
 | none=>exact ⟨fun ⟨v,aa,q,_⟩=>(by cases q),fun q=>q.elim⟩
 | some v=>
   constructor
   · rintro ⟨v1,U,q,k⟩
     simp only [aT.of,aT.val.injEq] at q
     obtain ⟨rfl,rfl⟩:=q
     exact k
   · intro k
     exact ⟨v,h,rfl,k⟩
theorem KO {d:Option Nat} {g:G} {rs:List Nat} {K:aS→V→ae→Prop} (ag:g.ly=true):br.wp P ⟨d,g,none,rs⟩ r h K=r9 (g.jq P (r.trim rs) h) fun v=>K (r.set d v) v h:=by
 rw [KN,Ie ag]
theorem KM {d:Option Nat} {g:G} {j:Nat} {want:Bool} {rs:List Nat} {K:aS→V→ae→Prop} (ag:g.ly=true):br.wp P ⟨d,g,some (j,want),rs⟩ r h K=
 (eD (r.trim rs j)∧ea (took (r.trim rs j) want) ((g.jq P (r.trim rs) h).isSome=true)∧
   K (r.set d (V.opt (took (r.trim rs j) want) ((g.jq P (r.trim rs) h).getD .bad))) (V.opt (took (r.trim rs j) want) ((g.jq P (r.trim rs) h).getD .bad)) h):=by
 rw [KL,Ie ag]
 generalize r.trim rs j=q
 generalize g.jq P (r.trim rs) h=o
 apply propext
 cases q<;>simp only [gate,eD,took,false_and,true_and]
 case bool b=>
  cases b<;>cases want<;>cases o<;>simp [r9,ea,V.opt]
 case tuple ab=>simp [ea,V.opt]
@[congr] theorem ad9 {os:List br} {r bo:aS} {h aa:ae} {K:aS→ae→Prop} (aF:r=bo) (aM:h=aa):o4 P os r h K=o4 P os bo aa K:=by rw [aF,aM]
@[congr] theorem ad7 {os:List br} {r bo:aS} {h aa:ae} {K:List eV→aS→ae→Prop} (aF:r=bo) (aM:h=aa):iQ P os r h K=iQ P os bo aa K:=by rw [aF,aM]
@[congr] theorem acM {o:br} {r bo:aS} {h aa:ae} {K:aS→V→ae→Prop} (aF:r=bo) (aM:h=aa):o.wp P r h K=o.wp P bo aa K:=by rw [aF,aM]
@[congr] theorem acN {g:G} {r bo:aS} {h aa:ae} {K:V→ae→Prop} (aF:r=bo) (aM:h=aa):g.wp P r h K=g.wp P bo aa K:=by rw [aF,aM]
@[congr] theorem ad6 {c:bD} {r bo:aS} {h aa:ae} {Q:cY→aS→ae→Prop} (aF:r=bo) (aM:h=aa):b_ P c r h Q=b_ P c bo aa Q:=by rw [aF,aM]
@[congr] theorem acL {f:FuncId} {a bf:List V} {h aa:ae} {K:V→ae→Prop} (aF:a=bf) (aM:h=aa):bK P f a h K=bK P f bf aa K:=by rw [aF,aM]
noncomputable def gV (k:bS) (off:Nat):Option V:=k.lL none fun n cs=>bif Nat.blt off n then some (T.get .bad (aG off) cs) else none
noncomputable def lB (n:Nat) (k:bS) (off:Nat):Option V:=k.lL none fun m cs=>bif Nat.ble (off+n) m then some (.agg (fP cs off n)) else none
theorem Yx (b:aN) (off:Nat):kn h (.ptr b off)=gV (h.get b) off:=(rfl)
theorem Yz (n:Nat) (b:aN) (off:Nat):km n h (.ptr b off)=lB n (h.get b) off:=(rfl)
theorem J9 {ab:List V} {off:Nat}:(bif Nat.blt off ab.length then some (T.get .bad (aG off) (eK .e 0 ab)) else none)=ab[off]? :=by
 have:=yc ab 0 off .e
 rw [Nat.zero_add] at this
 rw [this]
 by_cases aP:off<ab.length
 · rw [show Nat.blt off ab.length=true from by rw [Nat.blt_eq];exact aP,if_pos aP]
   simp [List.getElem?_eq_getElem aP]
 · rw [show Nat.blt off ab.length=false from by rw [←Bool.not_eq_true,Nat.blt_eq];exact aP]
   rw [List.getElem?_eq_none (by omega)]
   rfl
theorem J7 (ab:List V) (cj:Nat) (st:Bool) (off:Nat):gV (.bk ab cj st) off=ab[off]? :=J9
theorem J8 (ab:List V) (off:Nat):gV (.ro ab) off=ab[off]? :=J9
theorem J_ {ab:List V} {off n:Nat}:(bif Nat.ble (off+n) ab.length then some (V.agg (fP (eK .e 0 ab) off n)) else none)=if off+n≤ab.length then some (.agg ((ab.drop off).take n)) else none:=by
 by_cases aP:off+n≤ab.length
 · rw [show Nat.ble (off+n) ab.length=true from by rw [Nat.ble_eq];exact aP,if_pos aP,ye ab n off aP]
   rfl
 · rw [show Nat.ble (off+n) ab.length=false from by rw [←Bool.not_eq_true,Nat.ble_eq];exact aP,if_neg aP]
   rfl
theorem Ee (n:Nat) (ab:List V) (cj:Nat) (st:Bool) (off:Nat):lB n (.bk ab cj st) off=if off+n≤ab.length then some (.agg ((ab.drop off).take n)) else none:=J_
theorem J' (n:Nat) (ab:List V) (off:Nat):lB n (.ro ab) off=if off+n≤ab.length then some (.agg ((ab.drop off).take n)) else none:=J_
theorem Rd.fU {b:aN} {ab:List V} (H:Rd h b ab) (off:Nat):gV (h.get b) off=ab[off]? :=by
 rcases H with H | ⟨_,_,H⟩<;>rw [H]
 · exact J8 ab off
 · exact J7 ab _ _ off
theorem Rd.hT {b:aN} {ab:List V} (H:Rd h b ab) (n off:Nat):lB n (h.get b) off=if off+n≤ab.length then some (.agg ((ab.drop off).take n)) else none:=by
 rcases H with H | ⟨_,_,H⟩<;>rw [H]
 · exact J' n ab off
 · exact Ee n ab _ _ off
def over:List V→List V→List V
 | ab,[]=>ab
 | [],_::_=>[]
 | _::ab,w::ws=>w::over ab ws
def lM:List V→Nat→List V→List V
 | ab,0,ws=>over ab ws
 | [],_+1,_=>[]
 | v::ab,n+1,ws=>v::lM ab n ws
theorem K4:∀(ab ws:List V),ws.length≤ab.length→over ab ws=ws++ab.drop ws.length
 | ab,[],_=>by cases ab<;>rfl
 | [],_::_,h=>by simp at h
 | v::ab,w::ws,h=>by
   simp only [over,List.cons_append,List.length_cons,List.drop_succ_cons]
   rw [K4 ab ws (by simpa using h)]
theorem z8:∀(ab:List V) (off:Nat) (ws:List V),off+ws.length≤ab.length→lM ab off ws=gZ ab off ws
 | ab,0,ws,h=>by
   cases ab<;>simp only [lM,gZ,List.take_zero,List.nil_append,Nat.zero_add]<;>exact K4 _ ws (by omega)
 | [],n+1,ws,h=>by simp at h
 | v::ab,n+1,ws,h=>by
   simp only [List.length_cons] at h
   simp only [lM,gZ]
   rw [z8 ab n ws (by omega)]
   simp only [gZ,List.take_succ_cons,List.cons_append]
   rw [show n+1+ws.length=n+ws.length+1 from by omega,List.drop_succ_cons]
theorem abl (ab:List V) (off:Nat) (ws:List V) (h:off+ws.length≤ab.length):(lM ab off ws).length=ab.length:=by
 rw [z8 ab off ws h,z' ab off ws h]
noncomputable def vW (n:Nat) (h:ae) (b:aN) (off:Nat) (y:V) (k:bS):Option ae:=
 bif Nat.beq y.cells.length n then k.on none fun m cs cj st=>
  bif Nat.ble (off+y.cells.length) m&&ef y.cells then some (h.set b (.cells m (eK cs off y.cells) cj st)) else none else none
theorem abv (n:Nat) (b:aN) (off:Nat) (y:V):r1 n h (.ptr b off) y=vW n h b off y (h.get b):=(rfl)
theorem X5 {n:Nat} {b:aN} {off:Nat} {y:V} {ab:List V} {cj:Nat} {st:Bool} (U:y.cells.length=n) (ad:ef y.cells=true) (aI:off+n≤ab.length):
 vW n h b off y (.bk ab cj st)=some (h.set b (.bk (lM ab off y.cells) cj st)):=by
 unfold vW
 rw [show Nat.beq y.cells.length n=true from by rw [Nat.beq_eq];exact U]
 simp only [cond_true,bS.bk,bS.on]
 rw [show Nat.ble (off+y.cells.length) ab.length=true from by rw [Nat.ble_eq,U];exact aI,ad]
 simp only [Bool.and_true,cond_true,Option.some.injEq]
 rw [abl ab off _ (by rw [U];exact aI),z8 ab off _ (by rw [U];exact aI),zD _ ab off (by rw [U];exact aI)]
theorem l7 (k:bS):(h.new k).get (aG h.next)=k:=by rw [ae.gv,if_pos rfl]
theorem gv (b:aN) (k:bS):(h.new k).get b=if aG h.next=b then k else h.get b:=ae.gv h b k
theorem dH (b bz:aN) (k:bS):(h.set b k).get bz=if b=bz then k else h.get bz:=ae.dH h b bz k
def Old (h:ae) (b:aN):Prop:=cB b<h.next
theorem rO:∀b:aN,aG (cB b)=b:=by
 have key:∀(b:aN) (d:Nat),cB b+1<2 ^ d→p1 d (cB b)=b:=by
  intro b
  induction b with
  | z=>intro d aV;cases d<;>rfl
  | l p bh=>
    intro d aV
    cases d with
    | zero=>simp [cB] at aV
    | succ d=>
      have ad:2 ^ (d+1)=2 * 2 ^ d:=by rw [Nat.pow_succ];omega
      rw [ad] at aV
      simp only [cB] at aV ⊢
      simp only [p1,fM]
      rw [if_neg (by omega),if_pos (by omega),show (2 * cB p+1) / 2=cB p from by omega,bh d (by omega)]
  | r p bh=>
    intro d aV
    cases d with
    | zero=>simp [cB] at aV
    | succ d=>
      have ad:2 ^ (d+1)=2 * 2 ^ d:=by rw [Nat.pow_succ];omega
      rw [ad] at aV
      simp only [cB] at aV ⊢
      simp only [p1,fM]
      rw [if_neg (by omega),if_neg (by omega),show (2 * cB p+2) / 2-1=cB p from by omega,bh d (by omega)]
 intro b
 exact key b _ Nat.lt_log2_self
theorem EI {b:aN} {i:Nat} (af:Old h b) (aC:h.next≤i):(aG i=b)=False:=by
 apply propext
 constructor
 · intro e
   unfold Old at af
   rw [←e,dV] at af
   omega
 · exact False.elim
theorem KV {k:bS}:Old (h.new k) (aG h.next):=by unfold Old;rw [dV];exact Nat.lt_succ_self _
def x2 (off:Nat) (x:V):Option V:=x.hl none fun b o=>some (.ptr b (o+off))
theorem Sy (off:Nat) (b:aN) (o:Nat):x2 off (.ptr b o)=some (.ptr b (o+off)):=(rfl)
theorem Zp {α:Type} (ab:List V) (d:α) (f:List V→α):V.wo (.tuple ab) d f=f ab:=(rfl)
theorem Zo {α:Type} (ab:List V) (d:α) (f:List V→α):V.oK (.agg ab) d f=f ab:=(rfl)
def iH (x:V):Option V:=(lE (.slice 0)).run x
theorem Yl (b:aN) (off n c:Nat):iH (.slice b off n c)=some (.int .i64 n):=(rfl)
theorem Yj (b:aN) (off n c:Nat):iH (.dQ b off n c)=some (.int .i64 n):=(rfl)
theorem Ym (b:aN) (off n c:Nat):iH (.fA b off n c)=some (.int .i64 0):=(rfl)
theorem Yk:iH .cq=some (.int .i64 0):=(rfl)
def y2 (x:V):Option V:=(lE .string).run x
theorem Yn (s:List UInt8):y2 (.str s)=some (.int .i64 s.length):=(rfl)
def jd (n:Nat) (x i:V):Option V:=(rC n).run x i
theorem JG (n:Nat) (b:aN) (off len cap:Nat) (k:IntKind) (i:Int):jd n (.slice b off len cap) (.int k i)=if 0≤i∧i<len then some (.ptr b (off+i.toNat * n)) else none:=by
 simp only [jd,rC,V.dz,pM,lD]
 by_cases U:0≤i<;>by_cases ad:(len:Int)≤i<;>simp [U,ad]<;>omega
theorem JF (n:Nat) (b:aN) (off len cap:Nat) (k:IntKind) (i:Int):jd n (.dQ b off len cap) (.int k i)=if 0≤i∧i<len then some (.ptr b (off+i.toNat * n)) else none:=by
 simp only [jd,rC,V.dz,pM,lD]
 by_cases U:0≤i<;>by_cases ad:(len:Int)≤i<;>simp [U,ad]<;>omega
def xP (k:IntKind) (x:V):Option V:=x.dz none fun _ n=>some (.int k (k.wrap n))
theorem RT (k bl:IntKind) (n:Int):xP k (.int bl n)=some (.int k (k.wrap n)):=(rfl)
end
end Go.Proofs.YtkehcalakofigaaGreatDoor.aY
namespace Go.Proofs.YtkehcalakofigaaGreatDoor.aY
variable [Lay]
open Go Go.RowKit
structure gF where
 all:List br
 asks:List (Nat × List Nat)
 es:List eV
def gX (D:Option gF) (r:aS) (h:ae) (v:V):Option gF:=
 match D with
 | none=>none
 | some d=>some ⟨d.all,d.asks,d.es++[⟨r,h,v⟩]⟩
inductive gh where
 | os (D:Option gF) (os:List br)
 | c (b:bD)
 | bd (id:Nat)
section
variable (P:Program)
noncomputable def qC (D:Option gF) (es:List eV) (ax:ae):Prop:=
 match D with
 | none=>True
 | some d=>lV P d.all (d.es++es) ax d.asks
noncomputable def bj:List gh→cY→aS→ae→(cY→aS→ae→Prop)→Prop
 | [],e,r,h,Q=>Q e r h
 | .os D os::aJ,e,r,h,Q=>match e with
   | .normal=>iQ P os r h fun es bo aa=>qC P D es aa∧bj aJ .normal bo aa Q
   | e=>bj aJ e r h Q
 | .c b::aJ,e,r,h,Q=>match e with
   | .normal=>b_ P b r h fun e bo aa=>bj aJ e bo aa Q
   | e=>bj aJ e r h Q
 | .bd id::aJ,e,r,h,Q=>bj aJ (e.leave id) r h Q
noncomputable def c0 (o:Option V) (d:Option Nat) (D:Option gF) (os:List br) (aJ:List gh) (r:aS) (h:ae) (Q:cY→aS→ae→Prop):Prop:=
 r9 o fun v=>bj P (.os (gX D r h v) os::aJ) .normal (r.set d v) h Q
noncomputable def hJ (o:aT) (d:Option Nat) (D:Option gF) (os:List br) (aJ:List gh) (r:aS) (a6:ae) (Q:cY→aS→ae→Prop):Prop:=
 match o with
 | .val v h=>bj P (.os (gX D r a6 v) os::aJ) .normal (r.set d v) h Q
 | _=>False
noncomputable def e0 (v:V) (want:Bool) (d:Option Nat) (g:G) (rs:List Nat) (D:Option gF) (os:List br) (aJ:List gh) (r:aS) (h:ae) (Q:cY→aS→ae→Prop):Prop:=
 gate v want (bj P (.os D (⟨d,g,none,rs⟩::os)::aJ) .normal r h Q) (bj P (.os (gX D r h (.tuple [])) os::aJ) .normal (r.set d (.tuple [])) h Q)
noncomputable def sC (v:V) (a b:bD) (aJ:List gh) (r:aS) (h:ae) (Q:cY→aS→ae→Prop):Prop:=
 match v with
 | .bool t=>(t=true→bj P (.c a::aJ) .normal r h Q)∧(t=false→bj P (.c b::aJ) .normal r h Q)
 | _=>False
noncomputable def mS (f:FuncId) (args:List V) (d:Option Nat) (D:Option gF) (os:List br) (aJ:List gh) (r:aS) (h:ae) (Q:cY→aS→ae→Prop):Prop:=
 bK P f args h fun v aa=>bj P (.os (gX D r h v) os::aJ) .normal (r.set d v) aa Q
noncomputable def Ai (xs:List V) (d:Option Nat) (D:Option gF) (os:List br) (aJ:List gh) (r:aS) (h:ae) (Q:cY→aS→ae→Prop):Prop:=
 Gg P xs h fun v aa=>bj P (.os (gX D r h v) os::aJ) .normal (r.set d v) aa Q
noncomputable def B3 (g:FuncId) (xs:List V) (d:Option Nat) (D:Option gF) (os:List br) (aJ:List gh) (r:aS) (h:ae) (Q:cY→aS→ae→Prop):Prop:=
 if g=4294967296 then Ai P xs d D os aJ r h Q else mS P g xs d D os aJ r h Q
noncomputable def sB (f:V) (args:List V) (d:Option Nat) (D:Option gF) (os:List br) (aJ:List gh) (r:aS) (h:ae) (Q:cY→aS→ae→Prop):Prop:=
 ∃g xs,f.target args=some (g,xs)∧B3 P g xs d D os aJ r h Q
noncomputable def y' (b:bD) (aJ:List gh) (r:aS) (h:ae) (Q:cY→aS→ae→Prop):Prop:=b_ P (.loop b) r h fun e bo aa=>bj P aJ e bo aa Q
end
section
variable {P:Program} {r:aS} {h:ae} {Q:cY→aS→ae→Prop} {aJ:List gh} {os:List br} {D:Option gF}
theorem Z_ (r:aS) (h:ae) (v:V):gX none r h v=none:=(rfl)
theorem aaa (all:List br) (asks:List (Nat × List Nat)) (es:List eV) (r:aS) (h:ae) (v:V):gX (some ⟨all,asks,es⟩) r h v=some ⟨all,asks,es++[⟨r,h,v⟩]⟩:=(rfl)
theorem dn {c:bD} (H:bj P [.c c] .normal r h Q):b_ P c r h Q:=H
theorem W0 {e:cY}:bj P [] e r h Q=Q e r h:=(rfl)
theorem Wb {e:cY} {id:Nat}:bj P (.bd id::aJ) e r h Q=bj P aJ (e.leave id) r h Q:=(rfl)
theorem W8 {a b:bD}:bj P (.c (.seq a b)::aJ) .normal r h Q=bj P (.c a::.c b::aJ) .normal r h Q:=by
 simp only [bj]
 rw [Q5]
 congr 1
 funext e bo aa
 cases e<;>rfl
theorem Wc {id:Nat} {b:bD}:bj P (.c (.block id b)::aJ) .normal r h Q=bj P (.c b::.bd id::aJ) .normal r h Q:=(rfl)
theorem MO:∀(os:List br) (r:aS) (h:ae) (K:aS→ae→Prop),iQ P os r h (fun _ r h=>K r h)=o4 P os r h K
 | [],_,_,_=>rfl
 | o::os,r,h,K=>by
   simp only [iQ,o4]
   congr 1
   funext bo v aa
   exact MO os bo aa K
theorem W5 {ops:List br}:bj P (.c (.av ops)::aJ) .normal r h Q=bj P (.os none ops::aJ) .normal r h Q:=by
 simp only [bj,qC,true_and]
 rw [MO,Q4]
theorem W9:bj P (.c .skip::aJ) .normal r h Q=bj P aJ .normal r h Q:=(rfl)
theorem W6:bj P (.c .ret::aJ) .normal r h Q=bj P aJ .ret r h Q:=(rfl)
theorem Wt {i:Nat}:bj P (.c (.exit i)::aJ) .normal r h Q=bj P aJ (.exit i) r h Q:=(rfl)
theorem Wl {b:bD}:bj P (.c b::aJ) .ret r h Q=bj P aJ .ret r h Q:=(rfl)
theorem Wi {b:bD} {i:Nat}:bj P (.c b::aJ) (.exit i) r h Q=bj P aJ (.exit i) r h Q:=(rfl)
theorem Wj {c:aQ} {a b:bD}:bj P (.c (.cond c a b)::aJ) .normal r h Q=sC P (c.aU r) a b aJ r h Q:=by
 simp only [bj,b_]
 cases c.aU r<;>rfl
theorem aam {f:aQ} {a':List Nat} {an:Nat} {a b:bD} {g:FuncId} {cs:List V} (bw:f.aU r=.func g cs) (aD:g≠cJ) (af:∃fn,P.funcs[g]? =some fn∧fn.body.isSome=true)
 (H:∀l,xk P l an r a' a b→l.st=0→l.ep=none→bK P g (.func cJ [.ptr (aG (h.next+1)) 0]::cs) ((h.new .eX).new (.dq l)) fun _ aa=>
   ∃dY,aa.get (aG (h.next+1))=.dq dY∧dY.st≠1∧bj P aJ (dY.ep.getD .normal) (r.set (some d') (.tuple (.ptr (aG h.next) 0::(r d').list))) (aa.set (aG (h.next+1)) .dead) Q):
 bj P (.c (.range f a' an a b)::aJ) .normal r h Q:=by
 simp only [bj,b_]
 exact ⟨g,cs,bw,aD,af,H⟩
theorem WQ {b:bD}:bj P (.c (.loop b)::aJ) .normal r h Q=y' P b aJ r h Q:=(rfl)
theorem Wr {ops:List br} {asks:List (Nat × List Nat)}:bj P (.c (.draw ops asks)::aJ) .normal r h Q=bj P (.os (some ⟨ops,asks,[]⟩) ops::aJ) .normal r h Q:=(rfl)
theorem W3:bj P (.os none []::aJ) .normal r h Q=bj P aJ .normal r h Q:=by
 simp only [bj,iQ,qC,true_and]
theorem Wq {all:List br} {asks:List (Nat × List Nat)} {es:List eV}:bj P (.os (some ⟨all,asks,es⟩) []::aJ) .normal r h Q=(lV P all es h asks∧bj P aJ .normal r h Q):=by
 simp only [bj,iQ,qC,List.append_nil]
theorem sw (D:Option gF) (r:aS) (h:ae) (v:V) (es:List eV) (ax:ae):qC P (gX D r h v) es ax=qC P D (⟨r,h,v⟩::es) ax:=by
 cases D with
 | none=>rfl
 | some d=>simp only [gX,qC,List.append_assoc,List.cons_append,List.nil_append]
theorem fS {d:Option Nat} {g:G} {rs:List Nat} (ag:g.ly=true):bj P (.os D (⟨d,g,none,rs⟩::os)::aJ) .normal r h Q=c0 P (g.jq P (r.trim rs) h) d D os aJ r h Q:=by
 simp only [bj,iQ,c0]
 rw [KO ag]
 simp only [sw]
theorem fR {d:Option Nat} {g:G} {j:Nat} {want:Bool} {rs:List Nat} (ag:g.ly=true):bj P (.os D (⟨d,g,some (j,want),rs⟩::os)::aJ) .normal r h Q=
 (eD (r.trim rs j)∧ea (took (r.trim rs j) want) ((g.jq P (r.trim rs) h).isSome=true)∧
   c0 P (some (V.opt (took (r.trim rs j) want) ((g.jq P (r.trim rs) h).getD .bad))) d D os aJ r h Q):=by
 simp only [bj,iQ,c0,r9]
 rw [KM ag]
 simp only [sw]
def G.JR:G→Bool
 | .call .. | .lf .. =>true
 | _=>false
theorem jQ {d:Option Nat} {g:G} {rs:List Nat} (ag:g.ly=false) (aq:g.JR=false):bj P (.os D (⟨d,g,none,rs⟩::os)::aJ) .normal r h Q=hJ P (g.run P iL (r.trim rs) h) d D os aJ r h Q:=by
 simp only [bj,iQ]
 rw [KN]
 have e:∀K:V→ae→Prop,g.wp P (r.trim rs) h K=∃v aa,g.run P iL (r.trim rs) h=.val v aa∧K v aa:=by
  intro K
  cases g<;>first | rfl | (simp [G.JR] at aq;done)
 rw [e]
 unfold hJ
 simp only [bj,sw]
 cases g.run P iL (r.trim rs) h with
 | fail=>exact propext ⟨fun ⟨v,aa,q,_⟩=>(by cases q),fun q=>q.elim⟩
 | b' v1 U=>exact propext ⟨fun ⟨v,aa,q,_⟩=>(by cases q),fun q=>q.elim⟩
 | val v1 U=>
   apply propext
   constructor
   · rintro ⟨v,aa,q,k⟩
     simp only [aT.val.injEq] at q
     obtain ⟨rfl,rfl⟩:=q
     exact k
   · intro k
     exact ⟨_,_,rfl,k⟩
theorem iF {d:Option Nat} {g:G} {j:Nat} {want:Bool} {rs:List Nat} (ag:g.ly=false):bj P (.os D (⟨d,g,some (j,want),rs⟩::os)::aJ) .normal r h Q=e0 P (r.trim rs j) want d g rs D os aJ r h Q:=by
 simp only [e0,bj,iQ,sw]
 rw [KL]
 rfl
theorem JX {d:Option Nat} {f:FuncId} {args:List aQ} {rs:List Nat}:bj P (.os D (⟨d,.call f args,none,rs⟩::os)::aJ) .normal r h Q=mS P f (aQ.eJ (r.trim rs) args) d D os aJ r h Q:=by
 simp only [mS,bj,iQ,sw]
 rfl
theorem Wh {d:Option Nat} {f:aQ} {args:List aQ} {rs:List Nat}:bj P (.os D (⟨d,.lf f args,none,rs⟩::os)::aJ) .normal r h Q=sB P (f.aU (r.trim rs)) (aQ.eJ (r.trim rs) args) d D os aJ r h Q:=by
 simp only [sB,B3,Ai,mS,bj,iQ,sw]
 rfl
theorem Q9 {f:V} {g:FuncId} {xs args:List V} {d:Option Nat} (ax:f.target args=some (g,xs)):sB P f args d D os aJ r h Q=B3 P g xs d D os aJ r h Q:=by
 apply propext
 constructor
 · rintro ⟨Ib,aea,q,k⟩
   rw [ax] at q
   simp only [Option.some.injEq,Prod.mk.injEq] at q
   obtain ⟨rfl,rfl⟩:=q
   exact k
 · intro k
   exact ⟨_,_,ax,k⟩
theorem xK {g:FuncId} {cs args:List V} {d:Option Nat}:sB P (.func g cs) args d D os aJ r h Q=if g=4294967296 then Ai P (args++cs) d D os aJ r h Q else mS P g (args++cs) d D os aJ r h Q:=Q9 rfl
@[congr] theorem adZ {o bR:Option V} {d:Option Nat} (e:o=bR):c0 P o d D os aJ r h Q=c0 P bR d D os aJ r h Q:=by rw [e]
@[congr] theorem adY {o bR:aT} {d:Option Nat} (e:o=bR):hJ P o d D os aJ r h Q=hJ P bR d D os aJ r h Q:=by rw [e]
@[congr] theorem ac0 {v hr:V} {a b:bD} (e:v=hr):sC P v a b aJ r h Q=sC P hr a b aJ r h Q:=by rw [e]
@[congr] theorem ada {v hr:V} {want:Bool} {d:Option Nat} {g:G} {rs:List Nat} (e:v=hr):e0 P v want d g rs D os aJ r h Q=e0 P hr want d g rs D os aJ r h Q:=by rw [e]
@[congr] theorem acY {f sM:V} {args uJ:List V} {d:Option Nat} (aF:f=sM) (aM:args=uJ):sB P f args d D os aJ r h Q=sB P sM uJ d D os aJ r h Q:=by rw [aF,aM]
@[congr] theorem acX {f:FuncId} {args uJ:List V} {d:Option Nat} (aM:args=uJ):mS P f args d D os aJ r h Q=mS P f uJ d D os aJ r h Q:=by rw [aM]
@[congr] theorem ad8 {e cN:cY} {bo:aS} {aa:ae} (cE:e=cN) (aF:r=bo) (aM:h=aa):bj P aJ e r h Q=bj P aJ cN bo aa Q:=by rw [cE,aF,aM]
@[congr] theorem adA {b:bD} {bo:aS} {aa:ae} (aF:r=bo) (aM:h=aa):y' P b aJ r h Q=y' P b aJ bo aa Q:=by rw [aF,aM]
theorem abA {v:V} {d:Option Nat}:c0 P (some v) d D os aJ r h Q=bj P (.os (gX D r h v) os::aJ) .normal (r.set d v) h Q:=(rfl)
theorem abf {v:V} {aa:ae} {d:Option Nat}:hJ P (.val v aa) d D os aJ r h Q=bj P (.os (gX D r h v) os::aJ) .normal (r.set d v) aa Q:=(rfl)
theorem He {t:Bool} {a b:bD}:sC P (.bool t) a b aJ r h Q=((t=true→bj P (.c a::aJ) .normal r h Q)∧(t=false→bj P (.c b::aJ) .normal r h Q)):=(rfl)
theorem Ih {b:Bool} {d:Option Nat} {g:G} {rs:List Nat}:e0 P (.bool b) true d g rs D os aJ r h Q=((b=true→bj P (.os D (⟨d,g,none,rs⟩::os)::aJ) .normal r h Q)∧(b=false→bj P (.os (gX D r h (.tuple [])) os::aJ) .normal (r.set d (.tuple [])) h Q)):=(rfl)
theorem Ig {b:Bool} {d:Option Nat} {g:G} {rs:List Nat}:e0 P (.bool b) false d g rs D os aJ r h Q=((b=false→bj P (.os D (⟨d,g,none,rs⟩::os)::aJ) .normal r h Q)∧(b=true→bj P (.os (gX D r h (.tuple [])) os::aJ) .normal (r.set d (.tuple [])) h Q)):=(rfl)
theorem S8 {ab:List V} {want:Bool} {d:Option Nat} {g:G} {rs:List Nat}:e0 P (.tuple ab) want d g rs D os aJ r h Q=bj P (.os (gX D r h (.tuple [])) os::aJ) .normal (r.set d (.tuple [])) h Q:=(rfl)
theorem S2 {c b:Bool} {want:Bool} {d:Option Nat} {f:FuncId} {args:List aQ} {rs:List Nat} (v:V)
 (bw:(c&&(b == want))=true→eh P f (aQ.eJ (r.trim rs) args) h v h)
 (H:bj P (.os (gX D r h (V.opt (c&&(b == want)) v)) os::aJ) .normal (r.set d (V.opt (c&&(b == want)) v)) h Q):e0 P (V.opt c (.bool b)) want d (.call f args) rs D os aJ r h Q:=by
 unfold e0
 rw [JX]
 cases c with
 | false=>exact H
 | true=>
   simp only [V.opt,cond_true,Bool.true_and] at bw H ⊢
   cases b<;>cases want<;>simp only [gate]
   · exact ⟨fun _=>⟨v,h,bw rfl,H⟩,fun e=>by cases e⟩
   · exact ⟨fun e=>(by cases e),fun _=>H⟩
   · exact ⟨fun e=>(by cases e),fun _=>H⟩
   · exact ⟨fun _=>⟨v,h,bw rfl,H⟩,fun e=>by cases e⟩
def p0 (v:V) (o:Option ae):aT:=fW v o
theorem ZR (v:V) (aa:ae):p0 v (some aa)=.val v aa:=(rfl)
def GL (b:Bool) (o:aT):aT:=bif b then o else .fail
theorem Ot (o:aT):GL true o=o:=(rfl)
noncomputable def xC (n:Nat) (h:ae) (o:Option (List V)):aT:=
 match o with
 | some cs=>p0 (.slice (aG h.next) 0 n n) (e4 h cs)
 | none=>.fail
theorem Ou (n:Nat) (cs:List V):xC n h (some cs)=p0 (.slice (aG h.next) 0 n n) (e4 h cs):=(rfl)
theorem aaO {n size:Nat} {z:List V} {a':List (Nat × Nat × aQ)}:(G.gP n size z a').run P iL r h=xC n h (gS (gM z n) (h4 r a')):=by
 simp only [G.run]
 cases gS (gM z n) (h4 r a') with
 | none=>rfl
 | some cs=>
   simp only [xC,p0,fW]
   cases e4 h cs<;>rfl
theorem SD (cells:List V):gS cells []=some cells:=(rfl)
theorem SB {cells:List V} {off size:Nat} {v:V} {rest:List (Nat × Nat × V)} (U:v.e9=true) (ad:v.cells.length=size) (aI:off+size≤cells.length):
 gS cells ((off,size,v)::rest)=gS (lM cells off v.cells) rest:=by
 simp only [gS]
 rw [U,show Nat.beq v.cells.length size=true from by rw [Nat.beq_eq];exact ad,show Nat.ble (off+v.cells.length) cells.length=true from by rw [Nat.ble_eq,ad];exact aI]
 simp only [Bool.and_true,cond_true]
 congr 1
 have fs:∀(ws cs:List V) (o:Nat),o+ws.length≤cs.length→n2 cs o ws=gZ cs o ws:=by
  intro ws
  induction ws with
  | nil=>intro cs o _;simp [n2,gZ]
  | cons w ws bh=>
    intro cs o aP
    simp only [List.length_cons] at aP
    simp only [n2]
    rw [bh (cs.set o w) (o+1) (by simp;omega),L6 cs o w ws (by omega)]
 rw [fs _ _ _ (by rw [ad];exact aI),z8 _ _ _ (by rw [ad];exact aI)]
def xE (o:Option (List V)):Option V:=
 match o with
 | some cs=>some (.agg cs)
 | none=>none
theorem Ow (cs:List V):xE (some cs)=some (.agg cs):=(rfl)
theorem Sr:h4 r []=[]:=(rfl)
theorem Sq {o s:Nat} {x:aQ} {a':List (Nat × Nat × aQ)}:h4 r ((o,s,x)::a')=(o,s,x.aU r)::h4 r a':=(rfl)
noncomputable def nR (P:Program) (o:br) (e:eV) (H:ae):Prop:=o.wp P e.r H fun _ hr _=>hr=e.v
theorem N5 {ops:List br} {es:List eV} {ax:ae}:lV P ops es ax []=True:=(rfl)
theorem N4 {ops:List br} {es:List eV} {ax:ae} {p:Nat} {eL:List Nat} {rest:List (Nat × List Nat)}:lV P ops es ax ((p,eL)::rest)=(nS P ops[p]? es[p]? es ax eL∧lV P ops es ax rest):=(rfl)
theorem N1 {o:Option br} {e:Option eV} {es:List eV} {ax:ae}:nS P o e es ax []=True:=(rfl)
theorem NY {o:br} {e:eV} {es:List eV} {ax:ae} {s:Nat} {eL:List Nat}:nS P (some o) (some e) es ax (s::eL)=(nR P o e (s6 es ax s)∧nS P (some o) (some e) es ax eL):=(rfl)
def CY (o:Option eV) (ax:ae):ae:=
 match o with
 | some e=>e.h
 | none=>ax
theorem T' (es:List eV) (ax:ae) (s:Nat):s6 es ax s=CY es[s]? ax:=(rfl)
theorem Ua (e:eV) (ax:ae):CY (some e) ax=e.h:=(rfl)
theorem T_ (ax:ae):CY none ax=ax:=(rfl)
theorem Gx {d:Option Nat} {g:G} {rs:List Nat} {e:eV} {H:ae} (ag:g.ly=true):nR P ⟨d,g,none,rs⟩ e H=(g.jq P (e.r.trim rs) H=some e.v):=by
 unfold nR
 rw [KO ag]
 apply propext
 cases g.jq P (e.r.trim rs) H with
 | none=>exact ⟨fun q=>q.elim,fun q=>(by cases q)⟩
 | some v=>exact ⟨fun q=>by rw [show v=e.v from q],fun q=>by cases q;rfl⟩
theorem Gw {d:Option Nat} {g:G} {j:Nat} {want:Bool} {rs:List Nat} {e:eV} {H:ae} (ag:g.ly=true):nR P ⟨d,g,some (j,want),rs⟩ e H=
 (eD (e.r.trim rs j)∧ea (took (e.r.trim rs j) want) ((g.jq P (e.r.trim rs) H).isSome=true)∧V.opt (took (e.r.trim rs j) want) ((g.jq P (e.r.trim rs) H).getD .bad)=e.v):=by
 unfold nR
 rw [KM ag]
theorem NZ {d:Option Nat} {x:aQ} {rs:List Nat} {e:eV} {H:ae}:nR P ⟨d,.fU x,none,rs⟩ e H=(kn H (x.aU (e.r.trim rs))=some e.v):=Gx rfl
theorem N0 {d:Option Nat} {n:Nat} {x:aQ} {rs:List Nat} {e:eV} {H:ae}:nR P ⟨d,.hT n x,none,rs⟩ e H=(km n H (x.aU (e.r.trim rs))=some e.v):=Gx rfl
theorem N2 {d:Option Nat} {x:aQ} {j:Nat} {want:Bool} {rs:List Nat} {e:eV} {H:ae}:nR P ⟨d,.fU x,some (j,want),rs⟩ e H=
 (eD (e.r.trim rs j)∧ea (took (e.r.trim rs j) want) ((kn H (x.aU (e.r.trim rs))).isSome=true)∧V.opt (took (e.r.trim rs j) want) ((kn H (x.aU (e.r.trim rs))).getD .bad)=e.v):=Gw rfl
theorem N3 {d:Option Nat} {n:Nat} {x:aQ} {j:Nat} {want:Bool} {rs:List Nat} {e:eV} {H:ae}:nR P ⟨d,.hT n x,some (j,want),rs⟩ e H=
 (eD (e.r.trim rs j)∧ea (took (e.r.trim rs j) want) ((km n H (x.aU (e.r.trim rs))).isSome=true)∧V.opt (took (e.r.trim rs j) want) ((km n H (x.aU (e.r.trim rs))).getD .bad)=e.v):=Gw rfl
end
end Go.Proofs.YtkehcalakofigaaGreatDoor.aY
namespace Go.Proofs.YtkehcalakofigaaGreatDoor.aY
variable [Lay]
open Go Go.RowKit
noncomputable def zQ (x:V) (h:ae):aT:=
 match x with
 | .str s=>.val (.ptr (aG h.next) 0) (h.new (.iter s 0))
 | _=>.fail
theorem aaE (s:List UInt8) (h:ae):zQ (.str s) h=.val (.ptr (aG h.next) 0) (h.new (.iter s 0)):=(rfl)
section
variable {P:Program} {r:aS} {h:ae} {Q:cY→aS→ae→Prop} {aJ:List gh} {os:List br} {D:Option gF} {d:Option Nat} {rs:List Nat}
theorem WW {x:aQ}:bj P (.os D (⟨d,(.dc x),none,rs⟩::os)::aJ) .normal r h Q=c0 P (some (x.aU (r.trim rs))) d D os aJ r h Q:=fS rfl
theorem XN {x:aQ} {j:Nat} {want:Bool}:bj P (.os D (⟨d,(.dc x),some (j,want),rs⟩::os)::aJ) .normal r h Q=(eD (r.trim rs j)∧ea (took (r.trim rs j) want) ((some (x.aU (r.trim rs))).isSome=true)∧c0 P (some (V.opt (took (r.trim rs j) want) ((some (x.aU (r.trim rs))).getD .bad))) d D os aJ r h Q):=fR rfl
theorem W4 {c a b:aQ}:bj P (.os D (⟨d,(.pick c a b),none,rs⟩::os)::aJ) .normal r h Q=c0 P (wD (c.aU (r.trim rs)) (a.aU (r.trim rs)) (b.aU (r.trim rs))) d D os aJ r h Q:=fS rfl
theorem XS {c a b:aQ} {j:Nat} {want:Bool}:bj P (.os D (⟨d,(.pick c a b),some (j,want),rs⟩::os)::aJ) .normal r h Q=(eD (r.trim rs j)∧ea (took (r.trim rs j) want) ((wD (c.aU (r.trim rs)) (a.aU (r.trim rs)) (b.aU (r.trim rs))).isSome=true)∧c0 P (some (V.opt (took (r.trim rs j) want) ((wD (c.aU (r.trim rs)) (a.aU (r.trim rs)) (b.aU (r.trim rs))).getD .bad))) d D os aJ r h Q):=fR rfl
theorem Wg {z:List V} {a':List (Nat × Nat × aQ)}:bj P (.os D (⟨d,(.build z a'),none,rs⟩::os)::aJ) .normal r h Q=c0 P (xE (gS z (h4 (r.trim rs) a'))) d D os aJ r h Q:=fS rfl
theorem Xl {z:List V} {a':List (Nat × Nat × aQ)} {j:Nat} {want:Bool}:bj P (.os D (⟨d,(.build z a'),some (j,want),rs⟩::os)::aJ) .normal r h Q=(eD (r.trim rs j)∧ea (took (r.trim rs j) want) ((xE (gS z (h4 (r.trim rs) a'))).isSome=true)∧c0 P (some (V.opt (took (r.trim rs j) want) ((xE (gS z (h4 (r.trim rs) a'))).getD .bad))) d D os aJ r h Q):=fR rfl
theorem WH {x:aQ}:bj P (.os D (⟨d,(.fU x),none,rs⟩::os)::aJ) .normal r h Q=c0 P (kn h (x.aU (r.trim rs))) d D os aJ r h Q:=fS rfl
theorem XD {x:aQ} {j:Nat} {want:Bool}:bj P (.os D (⟨d,(.fU x),some (j,want),rs⟩::os)::aJ) .normal r h Q=(eD (r.trim rs j)∧ea (took (r.trim rs j) want) ((kn h (x.aU (r.trim rs))).isSome=true)∧c0 P (some (V.opt (took (r.trim rs j) want) ((kn h (x.aU (r.trim rs))).getD .bad))) d D os aJ r h Q):=fR rfl
theorem WI {n:Nat} {x:aQ}:bj P (.os D (⟨d,(.hT n x),none,rs⟩::os)::aJ) .normal r h Q=c0 P (km n h (x.aU (r.trim rs))) d D os aJ r h Q:=fS rfl
theorem XE {n:Nat} {x:aQ} {j:Nat} {want:Bool}:bj P (.os D (⟨d,(.hT n x),some (j,want),rs⟩::os)::aJ) .normal r h Q=(eD (r.trim rs j)∧ea (took (r.trim rs j) want) ((km n h (x.aU (r.trim rs))).isSome=true)∧c0 P (some (V.opt (took (r.trim rs j) want) ((km n h (x.aU (r.trim rs))).getD .bad))) d D os aJ r h Q):=fR rfl
theorem W1 {x:aQ}:bj P (.os D (⟨d,(.pX x),none,rs⟩::os)::aJ) .normal r h Q=c0 P (pW (x.aU (r.trim rs))) d D os aJ r h Q:=fS rfl
theorem XQ {x:aQ} {j:Nat} {want:Bool}:bj P (.os D (⟨d,(.pX x),some (j,want),rs⟩::os)::aJ) .normal r h Q=(eD (r.trim rs j)∧ea (took (r.trim rs j) want) ((pW (x.aU (r.trim rs))).isSome=true)∧c0 P (some (V.opt (took (r.trim rs j) want) ((pW (x.aU (r.trim rs))).getD .bad))) d D os aJ r h Q):=fR rfl
theorem Wa {k:dN} {x y:aQ}:bj P (.os D (⟨d,(.bin k x y),none,rs⟩::os)::aJ) .normal r h Q=c0 P (k.run P (x.aU (r.trim rs)) (y.aU (r.trim rs))) d D os aJ r h Q:=fS rfl
theorem Xi {k:dN} {x y:aQ} {j:Nat} {want:Bool}:bj P (.os D (⟨d,(.bin k x y),some (j,want),rs⟩::os)::aJ) .normal r h Q=(eD (r.trim rs j)∧ea (took (r.trim rs j) want) ((k.run P (x.aU (r.trim rs)) (y.aU (r.trim rs))).isSome=true)∧c0 P (some (V.opt (took (r.trim rs j) want) ((k.run P (x.aU (r.trim rs)) (y.aU (r.trim rs))).getD .bad))) d D os aJ r h Q):=fR rfl
theorem Xc {o:UnOp} {x:aQ}:bj P (.os D (⟨d,(.un o x),none,rs⟩::os)::aJ) .normal r h Q=c0 P (nD o (x.aU (r.trim rs))) d D os aJ r h Q:=fS rfl
theorem XX {o:UnOp} {x:aQ} {j:Nat} {want:Bool}:bj P (.os D (⟨d,(.un o x),some (j,want),rs⟩::os)::aJ) .normal r h Q=(eD (r.trim rs j)∧ea (took (r.trim rs j) want) ((nD o (x.aU (r.trim rs))).isSome=true)∧c0 P (some (V.opt (took (r.trim rs j) want) ((nD o (x.aU (r.trim rs))).getD .bad))) d D os aJ r h Q):=fR rfl
theorem Wy {f:FuncId} {cs:List aQ}:bj P (.os D (⟨d,(.fn f cs),none,rs⟩::os)::aJ) .normal r h Q=c0 P (some (V.func f (aQ.eJ (r.trim rs) cs))) d D os aJ r h Q:=fS rfl
theorem Xx {f:FuncId} {cs:List aQ} {j:Nat} {want:Bool}:bj P (.os D (⟨d,(.fn f cs),some (j,want),rs⟩::os)::aJ) .normal r h Q=(eD (r.trim rs j)∧ea (took (r.trim rs j) want) ((some (V.func f (aQ.eJ (r.trim rs) cs))).isSome=true)∧c0 P (some (V.opt (took (r.trim rs j) want) ((some (V.func f (aQ.eJ (r.trim rs) cs))).getD .bad))) d D os aJ r h Q):=fR rfl
theorem WD {t:TypeId} {x:aQ}:bj P (.os D (⟨d,(.oy t x),none,rs⟩::os)::aJ) .normal r h Q=c0 P (some (V.iface t (x.aU (r.trim rs)))) d D os aJ r h Q:=fS rfl
theorem XA {t:TypeId} {x:aQ} {j:Nat} {want:Bool}:bj P (.os D (⟨d,(.oy t x),some (j,want),rs⟩::os)::aJ) .normal r h Q=(eD (r.trim rs j)∧ea (took (r.trim rs j) want) ((some (V.iface t (x.aU (r.trim rs)))).isSome=true)∧c0 P (some (V.opt (took (r.trim rs j) want) ((some (V.iface t (x.aU (r.trim rs)))).getD .bad))) d D os aJ r h Q):=fR rfl
theorem W_ {x:aQ} {bI aC m3:Option aQ}:bj P (.os D (⟨d,(.nA x bI aC m3),none,rs⟩::os)::aJ) .normal r h Q=c0 P (jU (x.aU (r.trim rs)) (aQ.opt (r.trim rs) bI) (aQ.opt (r.trim rs) aC) (aQ.opt (r.trim rs) m3)) d D os aJ r h Q:=fS rfl
theorem XV {x:aQ} {bI aC m3:Option aQ} {j:Nat} {want:Bool}:bj P (.os D (⟨d,(.nA x bI aC m3),some (j,want),rs⟩::os)::aJ) .normal r h Q=(eD (r.trim rs j)∧ea (took (r.trim rs j) want) ((jU (x.aU (r.trim rs)) (aQ.opt (r.trim rs) bI) (aQ.opt (r.trim rs) aC) (aQ.opt (r.trim rs) m3)).isSome=true)∧c0 P (some (V.opt (took (r.trim rs j) want) ((jU (x.aU (r.trim rs)) (aQ.opt (r.trim rs) bI) (aQ.opt (r.trim rs) aC) (aQ.opt (r.trim rs) m3)).getD .bad))) d D os aJ r h Q):=fR rfl
theorem W' {n:Nat} {x:aQ} {bI aC m3:Option aQ}:bj P (.os D (⟨d,(.gD n x bI aC m3),none,rs⟩::os)::aJ) .normal r h Q=c0 P (oT n (x.aU (r.trim rs)) (aQ.opt (r.trim rs) bI) (aQ.opt (r.trim rs) aC) (aQ.opt (r.trim rs) m3)) d D os aJ r h Q:=fS rfl
theorem XU {n:Nat} {x:aQ} {bI aC m3:Option aQ} {j:Nat} {want:Bool}:bj P (.os D (⟨d,(.gD n x bI aC m3),some (j,want),rs⟩::os)::aJ) .normal r h Q=(eD (r.trim rs j)∧ea (took (r.trim rs j) want) ((oT n (x.aU (r.trim rs)) (aQ.opt (r.trim rs) bI) (aQ.opt (r.trim rs) aC) (aQ.opt (r.trim rs) m3)).isSome=true)∧c0 P (some (V.opt (took (r.trim rs j) want) ((oT n (x.aU (r.trim rs)) (aQ.opt (r.trim rs) bI) (aQ.opt (r.trim rs) aC) (aQ.opt (r.trim rs) m3)).getD .bad))) d D os aJ r h Q):=fR rfl
theorem Wv {o:Nat} {x:aQ}:bj P (.os D (⟨d,(.fs o x),none,rs⟩::os)::aJ) .normal r h Q=c0 P (x2 o (x.aU (r.trim rs))) d D os aJ r h Q:=fS rfl
theorem Xu {o:Nat} {x:aQ} {j:Nat} {want:Bool}:bj P (.os D (⟨d,(.fs o x),some (j,want),rs⟩::os)::aJ) .normal r h Q=(eD (r.trim rs j)∧ea (took (r.trim rs j) want) ((x2 o (x.aU (r.trim rs))).isSome=true)∧c0 P (some (V.opt (took (r.trim rs j) want) ((x2 o (x.aU (r.trim rs))).getD .bad))) d D os aJ r h Q):=fR rfl
theorem Ww {o:Nat} {x:aQ}:bj P (.os D (⟨d,(.qU o x),none,rs⟩::os)::aJ) .normal r h Q=c0 P ((x.aU (r.trim rs)).oK none fun cs=>cs[o]?) d D os aJ r h Q:=fS rfl
theorem Xv {o:Nat} {x:aQ} {j:Nat} {want:Bool}:bj P (.os D (⟨d,(.qU o x),some (j,want),rs⟩::os)::aJ) .normal r h Q=(eD (r.trim rs j)∧ea (took (r.trim rs j) want) (((x.aU (r.trim rs)).oK none fun cs=>cs[o]?).isSome=true)∧c0 P (some (V.opt (took (r.trim rs j) want) (((x.aU (r.trim rs)).oK none fun cs=>cs[o]?).getD .bad))) d D os aJ r h Q):=fR rfl
theorem Wx {o n:Nat} {x:aQ}:bj P (.os D (⟨d,(.qV o n x),none,rs⟩::os)::aJ) .normal r h Q=c0 P ((x.aU (r.trim rs)).oK none fun cs=>some (V.agg ((cs.drop o).take n))) d D os aJ r h Q:=fS rfl
theorem Xw {o n:Nat} {x:aQ} {j:Nat} {want:Bool}:bj P (.os D (⟨d,(.qV o n x),some (j,want),rs⟩::os)::aJ) .normal r h Q=(eD (r.trim rs j)∧ea (took (r.trim rs j) want) (((x.aU (r.trim rs)).oK none fun cs=>some (V.agg ((cs.drop o).take n))).isSome=true)∧c0 P (some (V.opt (took (r.trim rs j) want) (((x.aU (r.trim rs)).oK none fun cs=>some (V.agg ((cs.drop o).take n))).getD .bad))) d D os aJ r h Q):=fR rfl
theorem WB {n:Nat} {x i:aQ}:bj P (.os D (⟨d,(.dy n x i),none,rs⟩::os)::aJ) .normal r h Q=c0 P (jd n (x.aU (r.trim rs)) (i.aU (r.trim rs))) d D os aJ r h Q:=fS rfl
theorem Xy {n:Nat} {x i:aQ} {j:Nat} {want:Bool}:bj P (.os D (⟨d,(.dy n x i),some (j,want),rs⟩::os)::aJ) .normal r h Q=(eD (r.trim rs j)∧ea (took (r.trim rs j) want) ((jd n (x.aU (r.trim rs)) (i.aU (r.trim rs))).isSome=true)∧c0 P (some (V.opt (took (r.trim rs j) want) ((jd n (x.aU (r.trim rs)) (i.aU (r.trim rs))).getD .bad))) d D os aJ r h Q):=fR rfl
theorem WC {m n:Nat} {x i:aQ}:bj P (.os D (⟨d,(.pJ m n x i),none,rs⟩::os)::aJ) .normal r h Q=c0 P ((oA m n).run (x.aU (r.trim rs)) (i.aU (r.trim rs))) d D os aJ r h Q:=fS rfl
theorem Xz {m n:Nat} {x i:aQ} {j:Nat} {want:Bool}:bj P (.os D (⟨d,(.pJ m n x i),some (j,want),rs⟩::os)::aJ) .normal r h Q=(eD (r.trim rs j)∧ea (took (r.trim rs j) want) (((oA m n).run (x.aU (r.trim rs)) (i.aU (r.trim rs))).isSome=true)∧c0 P (some (V.opt (took (r.trim rs j) want) (((oA m n).run (x.aU (r.trim rs)) (i.aU (r.trim rs))).getD .bad))) d D os aJ r h Q):=fR rfl
theorem WG {x i:aQ}:bj P (.os D (⟨d,(.jP x i),none,rs⟩::os)::aJ) .normal r h Q=c0 P (oC.run (x.aU (r.trim rs)) (i.aU (r.trim rs))) d D os aJ r h Q:=fS rfl
theorem XC {x i:aQ} {j:Nat} {want:Bool}:bj P (.os D (⟨d,(.jP x i),some (j,want),rs⟩::os)::aJ) .normal r h Q=(eD (r.trim rs j)∧ea (took (r.trim rs j) want) ((oC.run (x.aU (r.trim rs)) (i.aU (r.trim rs))).isSome=true)∧c0 P (some (V.opt (took (r.trim rs j) want) ((oC.run (x.aU (r.trim rs)) (i.aU (r.trim rs))).getD .bad))) d D os aJ r h Q):=fR rfl
theorem WE {t:TypeId} {x i:aQ}:bj P (.os D (⟨d,(.hC t x i),none,rs⟩::os)::aJ) .normal r h Q=c0 P ((oB P t).run (x.aU (r.trim rs)) (i.aU (r.trim rs))) d D os aJ r h Q:=fS rfl
theorem XB {t:TypeId} {x i:aQ} {j:Nat} {want:Bool}:bj P (.os D (⟨d,(.hC t x i),some (j,want),rs⟩::os)::aJ) .normal r h Q=(eD (r.trim rs j)∧ea (took (r.trim rs j) want) (((oB P t).run (x.aU (r.trim rs)) (i.aU (r.trim rs))).isSome=true)∧c0 P (some (V.opt (took (r.trim rs j) want) (((oB P t).run (x.aU (r.trim rs)) (i.aU (r.trim rs))).getD .bad))) d D os aJ r h Q):=fR rfl
theorem WO {k:k7} {z:V} {ok:Bool} {x i:aQ}:bj P (.os D (⟨d,(.look k z ok x i),none,rs⟩::os)::aJ) .normal r h Q=c0 P (jk k.eq z ok h (x.aU (r.trim rs)) (i.aU (r.trim rs))) d D os aJ r h Q:=fS rfl
theorem XJ {k:k7} {z:V} {ok:Bool} {x i:aQ} {j:Nat} {want:Bool}:bj P (.os D (⟨d,(.look k z ok x i),some (j,want),rs⟩::os)::aJ) .normal r h Q=(eD (r.trim rs j)∧ea (took (r.trim rs j) want) ((jk k.eq z ok h (x.aU (r.trim rs)) (i.aU (r.trim rs))).isSome=true)∧c0 P (some (V.opt (took (r.trim rs j) want) ((jk k.eq z ok h (x.aU (r.trim rs)) (i.aU (r.trim rs))).getD .bad))) d D os aJ r h Q):=fR rfl
theorem Wu {x:aQ} {i:Nat}:bj P (.os D (⟨d,(.ext x i),none,rs⟩::os)::aJ) .normal r h Q=c0 P ((x.aU (r.trim rs)).wo none fun ab=>ab[i]?) d D os aJ r h Q:=fS rfl
theorem Xt {x:aQ} {i:Nat} {j:Nat} {want:Bool}:bj P (.os D (⟨d,(.ext x i),some (j,want),rs⟩::os)::aJ) .normal r h Q=(eD (r.trim rs j)∧ea (took (r.trim rs j) want) (((x.aU (r.trim rs)).wo none fun ab=>ab[i]?).isSome=true)∧c0 P (some (V.opt (took (r.trim rs j) want) (((x.aU (r.trim rs)).wo none fun ab=>ab[i]?).getD .bad))) d D os aJ r h Q):=fR rfl
theorem WU {args:List aQ}:bj P (.os D (⟨d,(.tF args),none,rs⟩::os)::aJ) .normal r h Q=c0 P (ie (fun b a=>!Int.leB a b) (aQ.eJ (r.trim rs) args)) d D os aJ r h Q:=fS rfl
theorem XM {args:List aQ} {j:Nat} {want:Bool}:bj P (.os D (⟨d,(.tF args),some (j,want),rs⟩::os)::aJ) .normal r h Q=(eD (r.trim rs j)∧ea (took (r.trim rs j) want) ((ie (fun b a=>!Int.leB a b) (aQ.eJ (r.trim rs) args)).isSome=true)∧c0 P (some (V.opt (took (r.trim rs j) want) ((ie (fun b a=>!Int.leB a b) (aQ.eJ (r.trim rs) args)).getD .bad))) d D os aJ r h Q):=fR rfl
theorem WX {args:List aQ}:bj P (.os D (⟨d,(.dk args),none,rs⟩::os)::aJ) .normal r h Q=c0 P (ie (fun b a=>!Int.leB b a) (aQ.eJ (r.trim rs) args)) d D os aJ r h Q:=fS rfl
theorem XO {args:List aQ} {j:Nat} {want:Bool}:bj P (.os D (⟨d,(.dk args),some (j,want),rs⟩::os)::aJ) .normal r h Q=(eD (r.trim rs j)∧ea (took (r.trim rs j) want) ((ie (fun b a=>!Int.leB b a) (aQ.eJ (r.trim rs) args)).isSome=true)∧c0 P (some (V.opt (took (r.trim rs j) want) ((ie (fun b a=>!Int.leB b a) (aQ.eJ (r.trim rs) args)).getD .bad))) d D os aJ r h Q):=fR rfl
theorem Wn {k:IntKind} {x:aQ}:bj P (.os D (⟨d,(.gQ (.int k) x),none,rs⟩::os)::aJ) .normal r h Q=c0 P (xP k (x.aU (r.trim rs))) d D os aJ r h Q:=fS rfl
theorem Xq {k:IntKind} {x:aQ} {j:Nat} {want:Bool}:bj P (.os D (⟨d,(.gQ (.int k) x),some (j,want),rs⟩::os)::aJ) .normal r h Q=(eD (r.trim rs j)∧ea (took (r.trim rs j) want) ((xP k (x.aU (r.trim rs))).isSome=true)∧c0 P (some (V.opt (took (r.trim rs j) want) ((xP k (x.aU (r.trim rs))).getD .bad))) d D os aJ r h Q):=fR rfl
theorem WL {x:aQ}:bj P (.os D (⟨d,(.len .slice x),none,rs⟩::os)::aJ) .normal r h Q=c0 P (iH (x.aU (r.trim rs))) d D os aJ r h Q:=fS rfl
theorem XH {x:aQ} {j:Nat} {want:Bool}:bj P (.os D (⟨d,(.len .slice x),some (j,want),rs⟩::os)::aJ) .normal r h Q=(eD (r.trim rs j)∧ea (took (r.trim rs j) want) ((iH (x.aU (r.trim rs))).isSome=true)∧c0 P (some (V.opt (took (r.trim rs j) want) ((iH (x.aU (r.trim rs))).getD .bad))) d D os aJ r h Q):=fR rfl
theorem WM {x:aQ}:bj P (.os D (⟨d,(.len .str x),none,rs⟩::os)::aJ) .normal r h Q=c0 P (y2 (x.aU (r.trim rs))) d D os aJ r h Q:=fS rfl
theorem XI {x:aQ} {j:Nat} {want:Bool}:bj P (.os D (⟨d,(.len .str x),some (j,want),rs⟩::os)::aJ) .normal r h Q=(eD (r.trim rs j)∧ea (took (r.trim rs j) want) ((y2 (x.aU (r.trim rs))).isSome=true)∧c0 P (some (V.opt (took (r.trim rs j) want) ((y2 (x.aU (r.trim rs))).getD .bad))) d D os aJ r h Q):=fR rfl
theorem WJ {n:Nat} {x:aQ}:bj P (.os D (⟨d,(.len (.arr n) x),none,rs⟩::os)::aJ) .normal r h Q=c0 P (some (V.int .i64 n)) d D os aJ r h Q:=fS rfl
theorem XF {n:Nat} {x:aQ} {j:Nat} {want:Bool}:bj P (.os D (⟨d,(.len (.arr n) x),some (j,want),rs⟩::os)::aJ) .normal r h Q=(eD (r.trim rs j)∧ea (took (r.trim rs j) want) ((some (V.int .i64 n)).isSome=true)∧c0 P (some (V.opt (took (r.trim rs j) want) ((some (V.int .i64 n)).getD .bad))) d D os aJ r h Q):=fR rfl
theorem WZ {z:List V}:bj P (.os D (⟨d,(.new z),none,rs⟩::os)::aJ) .normal r h Q=hJ P (p0 (.ptr (aG h.next) 0) (e4 h z)) d D os aJ r h Q:=jQ rfl rfl
theorem XP {z:List V} {j:Nat} {want:Bool}:bj P (.os D (⟨d,(.new z),some (j,want),rs⟩::os)::aJ) .normal r h Q=e0 P (r.trim rs j) want d (.new z) rs D os aJ r h Q:=iF rfl
theorem We {x:aQ}:bj P (.os D (⟨d,(.box x),none,rs⟩::os)::aJ) .normal r h Q=hJ P (GL (x.aU (r.trim rs)).e9 (p0 (.ptr (aG h.next) 0) (e4 h (x.aU (r.trim rs)).cells))) d D os aJ r h Q:=jQ rfl rfl
theorem Xj {x:aQ} {j:Nat} {want:Bool}:bj P (.os D (⟨d,(.box x),some (j,want),rs⟩::os)::aJ) .normal r h Q=e0 P (r.trim rs j) want d (.box x) rs D os aJ r h Q:=iF rfl
theorem Wf {n m:Nat} {z:List V} {a':List (Nat × Nat × aQ)}:bj P (.os D (⟨d,(.gP n m z a'),none,rs⟩::os)::aJ) .normal r h Q=hJ P (xC n h (gS (gM z n) (h4 (r.trim rs) a'))) d D os aJ r h Q:=by rw [jQ rfl rfl,aaO]
theorem Xk {n m:Nat} {z:List V} {a':List (Nat × Nat × aQ)} {j:Nat} {want:Bool}:bj P (.os D (⟨d,(.gP n m z a'),some (j,want),rs⟩::os)::aJ) .normal r h Q=e0 P (r.trim rs j) want d (.gP n m z a') rs D os aJ r h Q:=iF rfl
theorem Xa {n:Nat} {x y:aQ}:bj P (.os D (⟨d,(.st n x y),none,rs⟩::os)::aJ) .normal r h Q=hJ P (p0 .bad (r1 n h (x.aU (r.trim rs)) (y.aU (r.trim rs)))) d D os aJ r h Q:=jQ rfl rfl
theorem XW {n:Nat} {x y:aQ} {j:Nat} {want:Bool}:bj P (.os D (⟨d,(.st n x y),some (j,want),rs⟩::os)::aJ) .normal r h Q=e0 P (r.trim rs j) want d (.st n x y) rs D os aJ r h Q:=iF rfl
theorem WT {n:Nat} {z:List V} {l c:aQ}:bj P (.os D (⟨d,(.tE n z l c),none,rs⟩::os)::aJ) .normal r h Q=hJ P (tC n z (l.aU (r.trim rs)) (c.aU (r.trim rs)) h) d D os aJ r h Q:=jQ rfl rfl
theorem XL {n:Nat} {z:List V} {l c:aQ} {j:Nat} {want:Bool}:bj P (.os D (⟨d,(.tE n z l c),some (j,want),rs⟩::os)::aJ) .normal r h Q=e0 P (r.trim rs j) want d (.tE n z l c) rs D os aJ r h Q:=iF rfl
theorem Xd {k:k7} {m i x:aQ}:bj P (.os D (⟨d,(.wT k m i x),none,rs⟩::os)::aJ) .normal r h Q=hJ P (p0 .bad (nE k.eq h (m.aU (r.trim rs)) (i.aU (r.trim rs)) (x.aU (r.trim rs)))) d D os aJ r h Q:=jQ rfl rfl
theorem XY {k:k7} {m i x:aQ} {j:Nat} {want:Bool}:bj P (.os D (⟨d,(.wT k m i x),some (j,want),rs⟩::os)::aJ) .normal r h Q=e0 P (r.trim rs j) want d (.wT k m i x) rs D os aJ r h Q:=iF rfl
theorem WS {x:Option aQ}:bj P (.os D (⟨d,(.wa x),none,rs⟩::os)::aJ) .normal r h Q=hJ P (rJ (aQ.opt (r.trim rs) x) h) d D os aJ r h Q:=jQ rfl rfl
theorem XK {x:Option aQ} {j:Nat} {want:Bool}:bj P (.os D (⟨d,(.wa x),some (j,want),rs⟩::os)::aJ) .normal r h Q=e0 P (r.trim rs j) want d (.wa x) rs D os aJ r h Q:=iF rfl
theorem W7 {x:aQ}:bj P (.os D (⟨d,(.t' x),none,rs⟩::os)::aJ) .normal r h Q=hJ P (zQ (x.aU (r.trim rs)) h) d D os aJ r h Q:=(jQ rfl rfl).trans (by first | rfl | (unfold zQ;simp only [G.run];cases x.aU (r.trim rs)<;>rfl) | (unfold zQ;cases x.aU (r.trim rs)<;>rfl))
theorem XT {x:aQ} {j:Nat} {want:Bool}:bj P (.os D (⟨d,(.t' x),some (j,want),rs⟩::os)::aJ) .normal r h Q=e0 P (r.trim rs j) want d (.t' x) rs D os aJ r h Q:=iF rfl
theorem W2 {x:aQ}:bj P (.os D (⟨d,(.tL x),none,rs⟩::os)::aJ) .normal r h Q=hJ P (rL (x.aU (r.trim rs)) h) d D os aJ r h Q:=jQ rfl rfl
theorem XR {x:aQ} {j:Nat} {want:Bool}:bj P (.os D (⟨d,(.tL x),some (j,want),rs⟩::os)::aJ) .normal r h Q=e0 P (r.trim rs j) want d (.tL x) rs D os aJ r h Q:=iF rfl
theorem V' {n:Nat} {s x:aQ}:bj P (.os D (⟨d,(.app n s x),none,rs⟩::os)::aJ) .normal r h Q=hJ P (lU n (s.aU (r.trim rs)) (x.aU (r.trim rs)) h) d D os aJ r h Q:=jQ rfl rfl
theorem Xh {n:Nat} {s x:aQ} {j:Nat} {want:Bool}:bj P (.os D (⟨d,(.app n s x),some (j,want),rs⟩::os)::aJ) .normal r h Q=e0 P (r.trim rs j) want d (.app n s x) rs D os aJ r h Q:=iF rfl
theorem Wk {n:Nat} {jy s:aQ}:bj P (.os D (⟨d,(.copy n jy s),none,rs⟩::os)::aJ) .normal r h Q=hJ P (copyV n (jy.aU (r.trim rs)) (s.aU (r.trim rs)) h) d D os aJ r h Q:=jQ rfl rfl
theorem Xo {n:Nat} {jy s:aQ} {j:Nat} {want:Bool}:bj P (.os D (⟨d,(.copy n jy s),some (j,want),rs⟩::os)::aJ) .normal r h Q=e0 P (r.trim rs j) want d (.copy n jy s) rs D os aJ r h Q:=iF rfl
theorem WK {x:aQ}:bj P (.os D (⟨d,(.len .map x),none,rs⟩::os)::aJ) .normal r h Q=hJ P (vY [x.aU (r.trim rs)] h) d D os aJ r h Q:=jQ rfl rfl
theorem XG {x:aQ} {j:Nat} {want:Bool}:bj P (.os D (⟨d,(.len .map x),some (j,want),rs⟩::os)::aJ) .normal r h Q=e0 P (r.trim rs j) want d (.len .map x) rs D os aJ r h Q:=iF rfl
theorem Wm {x:aQ}:bj P (.os D (⟨d,(.gQ .bytes x),none,rs⟩::os)::aJ) .normal r h Q=hJ P (u1.run (x.aU (r.trim rs)) h) d D os aJ r h Q:=jQ rfl rfl
theorem Xp {x:aQ} {j:Nat} {want:Bool}:bj P (.os D (⟨d,(.gQ .bytes x),some (j,want),rs⟩::os)::aJ) .normal r h Q=e0 P (r.trim rs j) want d (.gQ .bytes x) rs D os aJ r h Q:=iF rfl
theorem Wp {x:aQ}:bj P (.os D (⟨d,(.gQ .str x),none,rs⟩::os)::aJ) .normal r h Q=hJ P (pn.run (x.aU (r.trim rs)) h) d D os aJ r h Q:=jQ rfl rfl
theorem Xs {x:aQ} {j:Nat} {want:Bool}:bj P (.os D (⟨d,(.gQ .str x),some (j,want),rs⟩::os)::aJ) .normal r h Q=e0 P (r.trim rs j) want d (.gQ .str x) rs D os aJ r h Q:=iF rfl
theorem Wo {s jy:TypeId} {x:aQ}:bj P (.os D (⟨d,(.gQ (.other s jy) x),none,rs⟩::os)::aJ) .normal r h Q=hJ P ((mT P s jy).run (x.aU (r.trim rs)) h) d D os aJ r h Q:=jQ rfl rfl
theorem Xr {s jy:TypeId} {x:aQ} {j:Nat} {want:Bool}:bj P (.os D (⟨d,(.gQ (.other s jy) x),some (j,want),rs⟩::os)::aJ) .normal r h Q=e0 P (r.trim rs j) want d (.gQ (.other s jy) x) rs D os aJ r h Q:=iF rfl
theorem Xm {f:FuncId} {args:List aQ} {j:Nat} {want:Bool}:bj P (.os D (⟨d,(.call f args),some (j,want),rs⟩::os)::aJ) .normal r h Q=e0 P (r.trim rs j) want d (.call f args) rs D os aJ r h Q:=iF rfl
theorem Xn {f:aQ} {args:List aQ} {j:Nat} {want:Bool}:bj P (.os D (⟨d,(.lf f args),some (j,want),rs⟩::os)::aJ) .normal r h Q=e0 P (r.trim rs j) want d (.lf f args) rs D os aJ r h Q:=iF rfl
end
end Go.Proofs.YtkehcalakofigaaGreatDoor.aY
namespace Go.Proofs.YtkehcalakofigaaGreatDoor.aY
variable [Lay]
open Go Go.RowKit
theorem YX (h:ae) (ab:List V):e4 h ab=if ab.length≤top then some (h.new (.bk ab 0 false)) else none:=by
 by_cases aj:ab.length≤top
 · rw [if_pos aj,KE aj]
 · rw [if_neg aj]
   unfold e4
   rw [show Nat.ble ab.length top=false from by rw [←Bool.not_eq_true,Nat.ble_eq];exact aj]
   rfl
theorem X3 (h:ae) (n:Nat) (b:aN) (off:Nat) (y:V) (ab:List V) (cj:Nat) (st:Bool):
 vW n h b off y (.bk ab cj st)=if y.cells.length=n∧ef y.cells=true∧off+n≤ab.length then some (h.set b (.bk (lM ab off y.cells) cj st)) else none:=by
 by_cases aq:y.cells.length=n∧ef y.cells=true∧off+n≤ab.length
 · rw [if_pos aq,X5 aq.1 aq.2.1 aq.2.2]
 · rw [if_neg aq]
   unfold vW
   by_cases U:y.cells.length=n
   · rw [show Nat.beq y.cells.length n=true from by rw [Nat.beq_eq];exact U]
     simp only [cond_true,bS.bk,bS.on]
     by_cases ad:ef y.cells=true
     · have aI:¬off+y.cells.length≤ab.length:=fun q=>aq ⟨U,ad,by omega⟩
       rw [show Nat.ble (off+y.cells.length) ab.length=false from by rw [←Bool.not_eq_true,Nat.ble_eq];exact aI]
       rfl
     · rw [show ef y.cells=false from by simpa using ad,Bool.and_false]
       rfl
   · rw [show Nat.beq y.cells.length n=false from by rw [←Bool.not_eq_true,Nat.beq_eq];exact U]
     rfl
theorem SC (cells:List V) (off size:Nat) (v:V) (rest:List (Nat × Nat × V)):
 gS cells ((off,size,v)::rest)=if v.e9=true∧v.cells.length=size∧off+size≤cells.length then gS (lM cells off v.cells) rest else none:=by
 by_cases aq:v.e9=true∧v.cells.length=size∧off+size≤cells.length
 · rw [if_pos aq,SB aq.1 aq.2.1 aq.2.2]
 · rw [if_neg aq]
   simp only [gS]
   cases af:(v.e9&&(Nat.beq v.cells.length size&&Nat.ble (off+v.cells.length) cells.length)) with
   | false=>rfl
   | true=>
     simp only [Bool.and_eq_true,Nat.beq_eq,Nat.ble_eq] at af
     exact absurd ⟨af.1,af.2.1,by omega⟩ aq
theorem Ra (b:Bool):V.cells (.bool b:V)=[.bool b]:=rfl
theorem Zr (b:Bool):V.one (.bool b:V)=true:=rfl
theorem S_ (b:Bool):V.e9 (.bool b:V)=true:=rfl
theorem Rf (k:IntKind) (n:Int):V.cells (.int k n:V)=[.int k n]:=rfl
theorem Zw (k:IntKind) (n:Int):V.one (.int k n:V)=true:=rfl
theorem Td (k:IntKind) (n:Int):V.e9 (.int k n:V)=true:=rfl
theorem Rq (s:List UInt8):V.cells (.str s:V)=[.str s]:=rfl
theorem ZG (s:List UInt8):V.one (.str s:V)=true:=rfl
theorem Tm (s:List UInt8):V.e9 (.str s:V)=true:=rfl
theorem Rl:V.cells (.jn:V)=[.jn]:=rfl
theorem ZB:V.one (.jn:V)=true:=rfl
theorem Ti:V.e9 (.jn:V)=true:=rfl
theorem Rn (b:aN) (o:Nat):V.cells (.ptr b o:V)=[.ptr b o]:=rfl
theorem ZD (b:aN) (o:Nat):V.one (.ptr b o:V)=true:=rfl
theorem Tk (b:aN) (o:Nat):V.e9 (.ptr b o:V)=true:=rfl
theorem Rp (b:aN) (o l c:Nat):V.cells (.slice b o l c:V)=[.slice b o l c]:=rfl
theorem ZF (b:aN) (o l c:Nat):V.one (.slice b o l c:V)=true:=rfl
theorem Tl (b:aN) (o l c:Nat):V.e9 (.slice b o l c:V)=true:=rfl
theorem Rc (b:aN) (o l c:Nat):V.cells (.dQ b o l c:V)=[.dQ b o l c]:=rfl
theorem Zu (b:aN) (o l c:Nat):V.one (.dQ b o l c:V)=true:=rfl
theorem Tb (b:aN) (o l c:Nat):V.e9 (.dQ b o l c:V)=true:=rfl
theorem Rr (b:aN) (o l c:Nat):V.cells (.fA b o l c:V)=[.fA b o l c]:=rfl
theorem ZH (b:aN) (o l c:Nat):V.one (.fA b o l c:V)=true:=rfl
theorem Tn (b:aN) (o l c:Nat):V.e9 (.fA b o l c:V)=true:=rfl
theorem Rm:V.cells (.cq:V)=[.cq]:=rfl
theorem ZC:V.one (.cq:V)=true:=rfl
theorem Tj:V.e9 (.cq:V)=true:=rfl
theorem Rk:V.cells (.iK:V)=[.iK]:=rfl
theorem ZA:V.one (.iK:V)=true:=rfl
theorem Th:V.e9 (.iK:V)=true:=rfl
theorem Rh (b:aN):V.cells (.map b:V)=[.map b]:=rfl
theorem Zx (b:aN):V.one (.map b:V)=true:=rfl
theorem Te (b:aN):V.e9 (.map b:V)=true:=rfl
theorem Rb (f:FuncId) (cs:List V):V.cells (.func f cs:V)=[.func f cs]:=rfl
theorem Zt (f:FuncId) (cs:List V):V.one (.func f cs:V)=true:=rfl
theorem Ta (f:FuncId) (cs:List V):V.e9 (.func f cs:V)=true:=rfl
theorem Rj:V.cells (.iJ:V)=[.iJ]:=rfl
theorem Zz:V.one (.iJ:V)=true:=rfl
theorem Tg:V.e9 (.iJ:V)=true:=rfl
theorem Re (t:TypeId) (v:V):V.cells (.iface t v:V)=[.iface t v]:=rfl
theorem Zv (t:TypeId) (v:V):V.one (.iface t v:V)=true:=rfl
theorem Tc (t:TypeId) (v:V):V.e9 (.iface t v:V)=true:=rfl
theorem Ri:V.cells (.nilIface:V)=[.nilIface]:=rfl
theorem Zy:V.one (.nilIface:V)=true:=rfl
theorem Tf:V.e9 (.nilIface:V)=true:=rfl
theorem Q_ (cs:List V):V.cells (.agg cs)=cs:=rfl
theorem S' (cs:List V):V.e9 (.agg cs)=true:=rfl
theorem To (cs:List V):V.e9 (.tuple cs)=true:=rfl
theorem Nz (n:Nat):n+1+1=n+2:=rfl
theorem NG (n:Nat):n+2+1=n+3:=rfl
theorem NH (n:Nat):n+3+1=n+4:=rfl
theorem NI (n:Nat):n+4+1=n+5:=rfl
theorem NJ (n:Nat):n+5+1=n+6:=rfl
theorem NK (n:Nat):n+6+1=n+7:=rfl
theorem NL (n:Nat):n+7+1=n+8:=rfl
theorem NM (n:Nat):n+8+1=n+9:=rfl
theorem NN (n:Nat):n+9+1=n+10:=rfl
theorem Ny (n:Nat):n+10+1=n+11:=rfl
theorem NA (n:Nat):n+11+1=n+12:=rfl
theorem NB (n:Nat):n+12+1=n+13:=rfl
theorem NC (n:Nat):n+13+1=n+14:=rfl
theorem ND (n:Nat):n+14+1=n+15:=rfl
theorem NF (n:Nat):n+15+1=n+16:=rfl
theorem KK (n:Nat):(n+1=n)=False:=eq_false (by omega)
theorem acx (n:Nat):(n=n+1)=False:=eq_false (by omega)
theorem wh (n:Nat):(n+2=n)=False:=eq_false (by omega)
theorem acy (n:Nat):(n=n+2)=False:=eq_false (by omega)
theorem Y_ (n:Nat):(n+3=n)=False:=eq_false (by omega)
theorem acz (n:Nat):(n=n+3)=False:=eq_false (by omega)
theorem Za (n:Nat):(n+4=n)=False:=eq_false (by omega)
theorem acA (n:Nat):(n=n+4)=False:=eq_false (by omega)
theorem Zb (n:Nat):(n+5=n)=False:=eq_false (by omega)
theorem acB (n:Nat):(n=n+5)=False:=eq_false (by omega)
theorem Zc (n:Nat):(n+6=n)=False:=eq_false (by omega)
theorem acC (n:Nat):(n=n+6)=False:=eq_false (by omega)
theorem Zd (n:Nat):(n+7=n)=False:=eq_false (by omega)
theorem acD (n:Nat):(n=n+7)=False:=eq_false (by omega)
theorem Ze (n:Nat):(n+8=n)=False:=eq_false (by omega)
theorem acE (n:Nat):(n=n+8)=False:=eq_false (by omega)
theorem S7 {P:Program} {r:aS} {h:ae} {Q:cY→aS→ae→Prop} {aJ:List gh} {os:List br} {D:Option gF} {d:Option Nat} {g:G} {rs:List Nat}:e0 P (.bool true) true d g rs D os aJ r h Q=bj P (.os D (⟨d,g,none,rs⟩::os)::aJ) .normal r h Q:=by
 rw [Ih];simp
theorem S4 {P:Program} {r:aS} {h:ae} {Q:cY→aS→ae→Prop} {aJ:List gh} {os:List br} {D:Option gF} {d:Option Nat} {g:G} {rs:List Nat}:e0 P (.bool false) false d g rs D os aJ r h Q=bj P (.os D (⟨d,g,none,rs⟩::os)::aJ) .normal r h Q:=by
 rw [Ig];simp
theorem S6 {P:Program} {r:aS} {h:ae} {Q:cY→aS→ae→Prop} {aJ:List gh} {os:List br} {D:Option gF} {d:Option Nat} {g:G} {rs:List Nat}:e0 P (.bool true) false d g rs D os aJ r h Q=bj P (.os (gX D r h (.tuple [])) os::aJ) .normal (r.set d (.tuple [])) h Q:=by
 rw [Ig];simp
theorem S5 {P:Program} {r:aS} {h:ae} {Q:cY→aS→ae→Prop} {aJ:List gh} {os:List br} {D:Option gF} {d:Option Nat} {g:G} {rs:List Nat}:e0 P (.bool false) true d g rs D os aJ r h Q=bj P (.os (gX D r h (.tuple [])) os::aJ) .normal (r.set d (.tuple [])) h Q:=by
 rw [Ih];simp
theorem Oh (c:Bool) (a b:V):V.bif (!c) a (V.opt c b)=V.bif (!c) a b:=by cases c<;>rfl
theorem VP (A:Prop):(True→A)=A:=propext ⟨fun q=>q trivial,fun q _=>q⟩
theorem VO (A:Prop):(False→A)=True:=propext ⟨fun _=>trivial,fun _ q=>q.elim⟩
section
variable {P:Program}
theorem hj {b:bD} {aJ:List gh} {r:aS} {h:ae} {Q:cY→aS→ae→Prop} (I:aS→ae→Prop) (μ:aS→ae→Nat) (a6:I r h)
 (step:∀r h,I r h→bj P [.c b] .normal r h fun e bo aa=>e.andThen (I bo aa∧μ bo aa<μ r h) (bj P aJ e bo aa Q)):y' P b aJ r h Q:=
 ⟨I,μ,a6,step⟩
theorem S3 {b want:Bool} {d:Option Nat} {f:FuncId} {args:List aQ} {rs:List Nat} {os:List br} {D:Option gF} {aJ:List gh} {r:aS} {h:ae} {Q:cY→aS→ae→Prop} (v:V)
 (bw:(b == want)=true→eh P f (aQ.eJ (r.trim rs) args) h v h)
 (H:bj P (.os (gX D r h (V.opt (b == want) v)) os::aJ) .normal (r.set d (V.opt (b == want) v)) h Q):e0 P (.bool b) want d (.call f args) rs D os aJ r h Q:=by
 have:=S2 (P:=P) (c:=true) (b:=b) (want:=want) (d:=d) (f:=f) (args:=args) (rs:=rs) (D:=D) (os:=os) (aJ:=aJ) (r:=r) (h:=h) (Q:=Q) v
 simp only [V.opt,cond_true,Bool.true_and] at this
 exact this bw H
theorem yb {b:Bool} {d:Option Nat} {f:FuncId} {args:List aQ} {rs:List Nat} {os:List br} {D:Option gF} {aJ:List gh} {r:aS} {h:ae} {Q:cY→aS→ae→Prop} (v:V)
 (bw:(!b)=true→eh P f (aQ.eJ (r.trim rs) args) h v h)
 (H:bj P (.os (gX D r h (V.opt (!b) v)) os::aJ) .normal (r.set d (V.opt (!b) v)) h Q):e0 P (.bool b) false d (.call f args) rs D os aJ r h Q:=by
 refine S3 v ?_ ?_<;>rw [beq_false]<;>assumption
def V.toN:V→Nat
 | .int _ n=>n.toNat
 | _=>0
theorem abT (k:IntKind) (n:Int):V.toN (.int k n)=n.toNat:=rfl
theorem eO {f:FuncId} {args:List V} {d:Option Nat} {os:List br} {D:Option gF} {aJ:List gh} {r:aS} {h:ae} {Q:cY→aS→ae→Prop} {v:V}
 (c:eh P f args h v h) (H:bj P (.os (gX D r h v) os::aJ) .normal (r.set d v) h Q):mS P f args d D os aJ r h Q:=⟨v,h,c,H⟩
theorem bV {f:FuncId} {args:List V} {d:Option Nat} {os:List br} {D:Option gF} {aJ:List gh} {r:aS} {h:ae} {Q:cY→aS→ae→Prop} {K:V→ae→Prop}
 (c:bK P f args h K) (H:∀v aa,K v aa→bj P (.os (gX D r h v) os::aJ) .normal (r.set d v) aa Q):mS P f args d D os aJ r h Q:=c.mono H
structure Ext (h aa:ae):Prop where
 next:h.next≤aa.next
 get:∀b,Old h b→aa.get b=h.get b
theorem Ext.refl (h:ae):Ext h h:=⟨Nat.le_refl _,fun _ _=>rfl⟩
theorem Ext.b2 {h aa:ae} (e:Ext h aa) {b:aN} (af:Old h b):Old aa b:=Nat.lt_of_lt_of_le af e.next
theorem Ext.trans {h aa ln:ae} (e:Ext h aa) (cN:Ext aa ln):Ext h ln:=
 ⟨Nat.le_trans e.next cN.next,fun b af=>(cN.get b (e.b2 af)).trans (e.get b af)⟩
theorem Ext.new {h aa:ae} (e:Ext h aa) (k:bS):Ext h (aa.new k):=
 ⟨Nat.le_succ_of_le e.next,fun b af=>by
   rw [gv,if_neg (fun q=>(EI (h:=h) af e.next) ▸ q)]
   exact e.get b af⟩
theorem Ext.set {h aa:ae} (e:Ext h aa) {i:Nat} (aC:h.next≤i) (k:bS):Ext h (aa.set (aG i) k):=
 ⟨e.next,fun b af=>by
   rw [dH,if_neg (fun q=>(EI (h:=h) af aC) ▸ q)]
   exact e.get b af⟩
theorem Ext.rd {h aa:ae} (e:Ext h aa) {b:aN} (af:Old h b) {ab:List V} (H:Rd h b ab):Rd aa b ab:=by
 unfold Rd at H ⊢
 rw [e.get b af]
 exact H
def hX (h:ae) (b:aN) (off:Nat) (ab:List V):Prop:=Old h b∧∃us,Rd h b us∧off+ab.length≤us.length∧(us.drop off).take ab.length=ab
theorem hX.ext {h aa:ae} (e:Ext h aa) {b:aN} {off:Nat} {ab:List V} (H:hX h b off ab):hX aa b off ab:=by
 obtain ⟨a6,us,U,ad,aI⟩:=H
 exact ⟨e.b2 a6,us,e.rd a6 U,ad,aI⟩
theorem hX.fU {h:ae} {b:aN} {off:Nat} {ab:List V} (H:hX h b off ab) {i:Nat} (aC:i<ab.length):gV (h.get b) (off+i)=some ab[i]:=by
 obtain ⟨_,us,U,ad,aI⟩:=H
 rw [U.fU,List.getElem?_eq_getElem (by omega)]
 congr 1
 have:((us.drop off).take ab.length)[i]? =ab[i]? :=by rw [aI]
 rw [List.getElem?_take_of_lt aC,List.getElem?_drop,List.getElem?_eq_getElem (by omega),List.getElem?_eq_getElem aC] at this
 simpa using this
theorem hX.hT {h:ae} {b:aN} {off:Nat} {ab:List V} (H:hX h b off ab) {i n:Nat} (aC:i+n≤ab.length):lB n (h.get b) (off+i)=some (.agg ((ab.drop i).take n)):=by
 obtain ⟨_,us,U,ad,aI⟩:=H
 rw [U.hT,if_pos (by omega)]
 congr 2
 have:(((us.drop off).take ab.length).drop i).take n=(ab.drop i).take n:=by rw [aI]
 rw [←this,List.drop_take,List.drop_drop,List.take_take]
 congr 1
 omega
def eW (h:ae) (size:Nat) (v:V) (n:Nat) (ab:List V):Prop:=
 ab.length=n * size∧match v with
  | .cq=>n=0
  | .slice b off len _=>len=n∧hX h b off ab
  | .dQ b off len _=>len=n∧hX h b off ab
  | .fA _ _ _ _=>n=0
  | _=>False
theorem eW.ext {h aa:ae} (e:Ext h aa) {size:Nat} {v:V} {n:Nat} {ab:List V} (H:eW h size v n ab):eW aa size v n ab:=by
 refine ⟨H.1,?_⟩
 have cR:=H.2
 cases v<;>simp only at cR ⊢<;>first | exact cR | exact ⟨cR.1,cR.2.ext e⟩
theorem eW.len {h:ae} {size:Nat} {v:V} {n:Nat} {ab:List V} (H:eW h size v n ab):iH v=some (.int .i64 n):=by
 have cR:=H.2
 cases v<;>simp only at cR<;>first
  | (rw [←cR.1];rfl)
  | (subst cR;rfl)
  | (exact cR.elim)
theorem eW.dy {h:ae} {size:Nat} {v:V} {n:Nat} {ab:List V} (H:eW h size v n ab) {k:IntKind} {i:Nat} (aC:i<n):
 ∃b off,jd size v (.int k i)=some (.ptr b (off+i * size))∧hX h b off ab:=by
 have cR:=H.2
 cases v<;>simp only at cR<;>first
  | omega
  | (exact cR.elim)
  | skip
 · rename_i b off len cap
   obtain ⟨rfl,U⟩:=cR
   refine ⟨b,off,?_,U⟩
   rw [JG,if_pos (by omega)]
   simp
 · rename_i b off len cap
   obtain ⟨rfl,U⟩:=cR
   refine ⟨b,off,?_,U⟩
   rw [JF,if_pos (by omega)]
   simp
end
end Go.Proofs.YtkehcalakofigaaGreatDoor.aY
namespace Go.Proofs.YtkehcalakofigaaGreatDoor.aY
variable [Lay]
open Go Go.RowKit
structure Mod (M:aN→Prop) (h aa:ae):Prop where
 next:h.next≤aa.next
 get:∀b,Old h b→¬M b→aa.get b=h.get b
theorem Mod.refl (M:aN→Prop) (h:ae):Mod M h h:=⟨Nat.le_refl _,fun _ _ _=>rfl⟩
theorem Mod.b2 {M:aN→Prop} {h aa:ae} (e:Mod M h aa) {b:aN} (af:Old h b):Old aa b:=Nat.lt_of_lt_of_le af e.next
theorem Mod.trans {M:aN→Prop} {h aa ln:ae} (e:Mod M h aa) (cN:Mod M aa ln):Mod M h ln:=
 ⟨Nat.le_trans e.next cN.next,fun b af hm=>(cN.get b (e.b2 af) hm).trans (e.get b af hm)⟩
theorem Mod.new {M:aN→Prop} {h aa:ae} (e:Mod M h aa) (k:bS):Mod M h (aa.new k):=
 ⟨Nat.le_succ_of_le e.next,fun b af hm=>by
   rw [gv,if_neg (fun q=>(EI (h:=h) af e.next) ▸ q)]
   exact e.get b af hm⟩
theorem Mod.set {M:aN→Prop} {h aa:ae} (e:Mod M h aa) {b:aN} (af:Old h b→M b) (k:bS):Mod M h (aa.set b k):=
 ⟨e.next,fun bz fD hm=>by
   rw [dH]
   by_cases q:b=bz
   · subst q
     exact absurd (af fD) hm
   · rw [if_neg q]
     exact e.get bz fD hm⟩
theorem Ext.mod {h aa:ae} (e:Ext h aa) (M:aN→Prop):Mod M h aa:=⟨e.next,fun b af _=>e.get b af⟩
theorem Ext.oJ {h aa ln:ae} (e:Ext h aa) {M:aN→Prop} (m:Mod M aa ln) (hm:∀b,M b→h.next≤cB b):Ext h ln:=
 ⟨Nat.le_trans e.next m.next,fun b af=>by
   have kg:¬M b:=fun q=>by have:=hm b q;unfold Old at af;omega
   exact (m.get b (e.b2 af) kg).trans (e.get b af)⟩
theorem Mod.at {M:aN→Prop} {h aa:ae} (e:Mod M h aa) {b:aN} {off:Nat} {ab:List V} (H:hX h b off ab) (hm:¬M b):hX aa b off ab:=by
 obtain ⟨a6,us,U,ad,aI⟩:=H
 refine ⟨e.b2 a6,us,?_,ad,aI⟩
 unfold Rd at U ⊢
 rw [e.get b a6 hm]
 exact U
theorem gL {h:ae} {i:Nat} (aC:i<h.next):Old h (aG i):=by unfold Old;rw [dV];exact aC
theorem we {h:ae} {b:aN} {i:Nat} (af:Old h b) (aC:h.next≤i):(b=aG i)=False:=by
 apply eq_false
 intro e
 unfold Old at af
 rw [e,dV] at af
 omega
def V.bd:V→aN→Prop
 | .slice b _ _ _,bz=>bz=b
 | .dQ b _ _ _,bz=>bz=b
 | _,_=>False
theorem eW.one {h:ae} {size:Nat} {v:V} {n:Nat} {ab:List V} (H:eW h size v n ab):v.one=true∧v.cells=[v]∧v.e9=true:=by
 have q:=H.2
 cases v<;>simp only at q<;>first | exact ⟨rfl,rfl,rfl⟩ | exact q.elim
theorem eW.mod {M:aN→Prop} {h aa:ae} (e:Mod M h aa) {size:Nat} {v:V} {n:Nat} {ab:List V} (H:eW h size v n ab) (hm:∀b,v.bd b→¬M b):eW aa size v n ab:=by
 refine ⟨H.1,?_⟩
 have cR:=H.2
 cases v<;>simp only at cR ⊢<;>first | exact cR | exact ⟨cR.1,e.at cR.2 (hm _ rfl)⟩
theorem eW.b2 {h:ae} {size:Nat} {v:V} {n:Nat} {ab:List V} (H:eW h size v n ab) {b:aN} (af:v.bd b):Old h b:=by
 have cR:=H.2
 cases v<;>simp only [V.bd] at cR af<;>first | (exact af.elim) | (subst af;exact cR.2.1)
def du (B:Nat) (h:ae) (size:Nat) (v:V) (n:Nat) (ab:List V):Prop:=
 ab.length=n * size∧match v with
  | .cq=>n=0
  | .slice b off len cap=>len=n∧B≤cB b∧Old h b∧n≤cap∧cap≤top∧∃us cj st,h.get b=.bk us cj st∧off+cap * size≤us.length∧(us.drop off).take ab.length=ab
  | .dQ b off len idx=>len=n∧B≤cB b∧Old h b∧off=0∧idx=0∧∃us st,h.get b=.bk us size st∧ab.length≤us.length∧us.take ab.length=ab
  | _=>False
theorem du.v {B:Nat} {h:ae} {size:Nat} {v:V} {n:Nat} {ab:List V} (H:du B h size v n ab):eW h size v n ab:=by
 obtain ⟨U,ad⟩:=H
 refine ⟨U,?_⟩
 cases v<;>simp only at ad ⊢<;>first | exact ad | skip
 · obtain ⟨ai,_,ay,aK,_,us,cj,st,bE,dr,eS⟩:=ad
   refine ⟨ai,ay,us,.inr ⟨cj,st,bE⟩,?_,eS⟩
   rw [U]
   have:=Nat.mul_le_mul_right size aK
   omega
 · obtain ⟨ai,_,ay,aK,_,us,st,bE,dr,eS⟩:=ad
   subst aK
   exact ⟨ai,ay,us,.inr ⟨size,st,bE⟩,by omega,by simpa using eS⟩
theorem du.base {B:Nat} {h:ae} {size:Nat} {v:V} {n:Nat} {ab:List V} (H:du B h size v n ab) {b:aN} (af:v.bd b):B≤cB b:=by
 have cR:=H.2
 cases v<;>simp only [V.bd] at cR af<;>first | (exact af.elim) | (subst af;exact cR.2.1)
theorem du.mono {B FP:Nat} {h:ae} {size:Nat} {v:V} {n:Nat} {ab:List V} (H:du B h size v n ab) (cS:FP≤B):du FP h size v n ab:=by
 refine ⟨H.1,?_⟩
 have cR:=H.2
 cases v<;>simp only at cR ⊢<;>first | exact cR | exact ⟨cR.1,Nat.le_trans cS cR.2.1,cR.2.2⟩
theorem du.mod {M:aN→Prop} {h aa:ae} (e:Mod M h aa) {B size:Nat} {v:V} {n:Nat} {ab:List V} (H:du B h size v n ab) (hm:∀b,v.bd b→¬M b):du B aa size v n ab:=by
 refine ⟨H.1,?_⟩
 have cR:=H.2
 cases v<;>simp only at cR ⊢<;>first | exact cR | skip
 · obtain ⟨ai,ay,aK,bE,dr,us,cj,st,eS,iO⟩:=cR
   exact ⟨ai,ay,e.b2 aK,bE,dr,us,cj,st,by rw [e.get _ aK (hm _ rfl)];exact eS,iO⟩
 · obtain ⟨ai,ay,aK,bE,dr,us,st,eS,iO⟩:=cR
   exact ⟨ai,ay,e.b2 aK,bE,dr,us,st,by rw [e.get _ aK (hm _ rfl)];exact eS,iO⟩
theorem du.ext {h aa:ae} (e:Ext h aa) {B size:Nat} {v:V} {n:Nat} {ab:List V} (H:du B h size v n ab):du B aa size v n ab:=
 H.mod (e.mod fun _=>False) fun _ _ q=>q
theorem Ke {h:ae} {size:Nat} {v:V} {n:Nat} {ab:List V} (H:eW h size v n ab):kT v=some n:=by
 have cR:=H.2
 cases v<;>simp only at cR<;>first
  | (rw [←cR.1];rfl)
  | (subst cR;rfl)
  | (exact cR.elim)
theorem wO {h:ae} {b:aN} {off size n:Nat} {ab:List V} (H:hX h b off ab) (aj:ab.length=n * size):lN h size b off n=some ab:=by
 obtain ⟨_,us,U,ad,aI⟩:=H
 unfold lN
 rw [U.lL,show Nat.ble (off+n * size) us.length=true from by rw [Nat.ble_eq];omega,ye us _ off (by omega),←aj,aI]
 rfl
theorem abo {h:ae} {size:Nat} {v:V} {n:Nat} {ab:List V} (H:eW h size v n ab):qc h size v n=some ab:=by
 obtain ⟨U,ad⟩:=H
 cases v<;>simp only at ad<;>first
  | (exact ad.elim)
  | (obtain ⟨_,aI⟩:=ad;exact wO aI U)
  | (subst ad
     have:ab=[]:=List.eq_nil_of_length_eq_zero (by omega)
     subst this
     rfl)
theorem du.grown {B:Nat} {h:ae} {size:Nat} {ab:List V} {n:Nat} {st:Bool} (aj:ab.length=n * size) (cS:B≤h.next):du B (h.new (.bk ab size st)) size (.dQ (aG h.next) 0 n 0) n ab:=
 ⟨aj,rfl,by rw [dV];exact cS,KV,rfl,rfl,ab,st,l7 _,Nat.le_refl _,List.take_length⟩
theorem NS {h:ae} {size:Nat} {s x:V} {m:Nat} {ab:List V} (cR:eW h size x m ab) (hm:m≤top):lU size s x h=(match s with
 | .cq=>sv size m ab h
 | .slice b off len cap=>ss size b off len cap m ab h
 | .dQ b off len idx=>sr size b off len idx m ab h
 | _=>.fail):=by
 unfold lU
 rw [Ke cR]
 simp only
 rw [abo cR]
 simp only
 rw [show Nat.ble m top=true from by rw [Nat.ble_eq];exact hm]
 rfl
theorem abm (A:List V) (o:Nat) (W:List V) (h:o+W.length≤A.length) (q:Nat):(gZ A o W)[q]? =if q<o then A[q]? else if q<o+W.length then W[q-o]? else A[q]? :=by
 have aj:(A.take o).length=o:=by rw [List.length_take];omega
 unfold gZ
 rw [List.append_assoc]
 by_cases bB:q<o
 · rw [if_pos bB,List.getElem?_append_left (by omega),List.getElem?_take_of_lt bB]
 · rw [if_neg bB,List.getElem?_append_right (by omega),aj]
   by_cases bX:q<o+W.length
   · rw [if_pos bX,List.getElem?_append_left (by omega)]
   · rw [if_neg bX,List.getElem?_append_right (by omega),List.getElem?_drop]
     congr 1
     omega
theorem xu {B:Nat} {h:ae} {size:Nat} {s x:V} {n m:Nat} {us ab:List V} (b4:1≤size) (H1:du B h size s n us) (cR:eW h size x m ab) (cS:B≤h.next) (hlen:(n+m) * size≤top) (aP:ef ab=true):
 ∃v aa,lU size s x h=.val v aa∧du B aa size v (n+m) (us++ab)∧Mod s.bd h aa∧∀b,v.bd b→s.bd b∨h.next≤cB b:=by
 have kg:n+m≤top:=Nat.le_trans (Nat.le_mul_of_pos_right _ b4) hlen
 have jG:=H1.1
 have mf:=cR.1
 have h7:(us++ab).length=(n+m) * size:=by rw [List.length_append,jG,mf,Nat.add_mul]
 rw [NS cR (by omega)]
 have ad:=H1.2
 cases s<;>simp only at ad ⊢<;>try (exact ad.elim)
 case cq=>
  subst ad
  have:us=[]:=List.eq_nil_of_length_eq_zero (by omega)
  subst this
  unfold sv
  by_cases hm:m=0
  · subst hm
    have:ab=[]:=List.eq_nil_of_length_eq_zero (by omega)
    subst this
    exact ⟨.cq,h,rfl,⟨by simp,rfl⟩,Mod.refl _ _,fun b af=>.inl af⟩
  · rw [show Nat.beq m 0=false from by rw [←Bool.not_eq_true,Nat.beq_eq];exact hm]
    simp only [cond_false]
    rw [Ew (by rw [mf];simpa using hlen) b4]
    refine ⟨_,_,rfl,?_,(Mod.refl _ _).new _,fun b af=>.inr (by rw [show b=aG h.next from af,dV];exact Nat.le_refl _)⟩
    have:=du.grown (B:=B) (h:=h) (size:=size) (ab:=ab) (n:=m) (st:=false) mf cS
    simpa using this
 case slice b off len cap=>
  obtain ⟨rfl,ay,aK,bE,dr,nF,cj,st,eS,iO,mG⟩:=ad
  unfold ss
  by_cases aq:len+m≤cap
  · rw [show Nat.ble (len+m) cap=true from by rw [Nat.ble_eq];exact aq]
    simp only [cond_true]
    have e2:off+len * size+ab.length≤nF.length:=by
     have:=Nat.mul_le_mul_right size aq
     rw [Nat.add_mul] at this
     rw [mf]
     omega
    rw [Own.lay (ab:=nF) (cj:=cj) (st:=st) eS e2 aP]
    refine ⟨_,_,rfl,⟨h7,rfl,ay,aK,aq,dr,_,cj,st,dH _ _ _ |>.trans (if_pos rfl),?_,?_⟩,(Mod.refl (V.bd (.slice b off len cap)) h).set (fun _=>rfl) _,fun bz af=>.inl af⟩
    · rw [z' _ _ _ e2];exact iO
    · rw [List.length_append]
      unfold gZ
      have dL:off+us.length≤nF.length:=by rw [jG];omega
      have aF:nF.take (off+len * size)=nF.take off++us:=by
       rw [←jG,List.take_add,mG]
      rw [aF,List.append_assoc,List.append_assoc,List.drop_append,List.drop_eq_nil_of_le (by rw [List.length_take];omega),List.nil_append]
      rw [show off - (nF.take off).length=0 from by rw [List.length_take];omega,List.drop_zero]
      rw [←List.append_assoc,List.take_left' (by rw [List.length_append])]
  · rw [show Nat.ble (len+m) cap=false from by rw [←Bool.not_eq_true,Nat.ble_eq];exact aq]
    simp only [cond_false]
    rw [show (Nat.ble (len+m) top&&Nat.ble cap top)=true from by simp only [Bool.and_eq_true,Nat.ble_eq];exact ⟨kg,dr⟩]
    simp only [cond_true]
    have CM:hX h b off us:=⟨aK,nF,.inr ⟨cj,st,eS⟩,by rw [jG];have:=Nat.mul_le_mul_right size bE;omega,mG⟩
    rw [wO CM jG]
    simp only
    rw [Ew (by rw [h7];exact hlen) b4]
    exact ⟨_,_,rfl,du.grown h7 cS,(Mod.refl _ _).new _,fun b af=>.inr (by rw [show b=aG h.next from af,dV];exact Nat.le_refl _)⟩
 case dQ b off len idx=>
  obtain ⟨rfl,ay,aK,rfl,rfl,nF,st,eS,iO,mG⟩:=ad
  unfold sr
  by_cases hm:m=0
  · subst hm
    have:ab=[]:=List.eq_nil_of_length_eq_zero (by omega)
    subst this
    exact ⟨_,h,rfl,⟨h7,rfl,ay,aK,rfl,rfl,nF,st,eS,by simpa using iO,by simpa using mG⟩,Mod.refl _ _,fun b af=>.inl af⟩
  · rw [show Nat.beq m 0=false from by rw [←Bool.not_eq_true,Nat.beq_eq];exact hm]
    simp only [cond_false]
    rw [eS]
    simp only [bS.bk,bS.on]
    rw [show (Nat.beq size size&&(Nat.ble (len+m) top&&ef ab)&&Nat.beq 0 (0 * size))=true from by
     simp only [Bool.and_eq_true,Nat.beq_eq,Nat.ble_eq]
     exact ⟨⟨trivial,kg,aP⟩,by omega⟩]
    simp only [cond_true]
    have CM:hX h b 0 us:=⟨aK,nF,.inr ⟨size,st,eS⟩,by omega,by simpa using mG⟩
    rw [wO CM jG]
    simp only
    rw [Ew (by rw [h7];exact hlen) b4]
    exact ⟨_,_,rfl,du.grown (h:=h.set b .dead) h7 cS,((Mod.refl (V.bd (.dQ b 0 len 0)) h).set (fun _=>rfl) _).new _,fun bz af=>.inr (by rw [show bz=aG h.next from af,dV];exact Nat.le_refl _)⟩
theorem ZO (r:aS):aQ.opt r none=none:=(rfl)
theorem ZP (r:aS) (x:aQ):aQ.opt r (some x)=some (x.aU r):=(rfl)
theorem GK {k:IntKind} {m d y:Nat} (h:m≤y):bound (some (.int k (m:Int))) d y=some m:=by
 simp only [bound,V.dz,lD]
 rw [show (decide ((0:Int)≤(m:Int))&&decide ((m:Int)≤(y:Int)))=true from by simp;omega]
 simp
theorem xB (d y:Nat):bound none d y=some d:=rfl
theorem Y4 (b:aN) (o:Nat):pW (.ptr b o)=some (.ptr b o):=rfl
theorem YP (k bl:IntKind) (a b:Int):ie (fun b a=>!Int.leB a b) [.int k a,.int bl b]=some (.int k (if b<a then b else a)):=by
 simp only [ie,rP,V.dz,lD]
 by_cases h:b<a
 · rw [if_pos h]
   have:¬a≤b:=by omega
   simp [this]
 · rw [if_neg h]
   have:a≤b:=by omega
   simp [this]
theorem Er (k bl:IntKind) (a b:Int):ie (fun b a=>!Int.leB b a) [.int k a,.int bl b]=some (.int k (if a<b then b else a)):=by
 simp only [ie,rP,V.dz,lD]
 by_cases h:a<b
 · rw [if_pos h]
   have:¬b≤a:=by omega
   simp [this]
 · rw [if_neg h]
   have:b≤a:=by omega
   simp [this]
end Go.Proofs.YtkehcalakofigaaGreatDoor.aY
namespace Go.Proofs.YtkehcalakofigaaGreatDoor.aY
variable [Lay]
open Go Go.RowKit
set_option linter.defProp false
end Go.Proofs.YtkehcalakofigaaGreatDoor.aY
namespace Go.Proofs.YtkehcalakofigaaGreatDoor.aY
variable [Lay]
open Go Go.RowKit
theorem RD {P:Program} {aJ:List gh} {r:aS} {h:ae} {Q:cY→aS→ae→Prop} {a b:bD}:sC P (.bool true) a b aJ r h Q=bj P (.c a::aJ) .normal r h Q:=by
 rw [He];simp
theorem RC {P:Program} {aJ:List gh} {r:aS} {h:ae} {Q:cY→aS→ae→Prop} {a b:bD}:sC P (.bool false) a b aJ r h Q=bj P (.c b::aJ) .normal r h Q:=by
 rw [He];simp
theorem GF (a b:List UInt8):lX a b=decide (a=b):=by
 rw [qE,Bool.eq_iff_iff]
 simp
theorem A' (k:IntKind) (b:Int) (d y:Nat):bound (some (.int k b)) d y=if 0≤b∧b≤(y:Int) then some b.toNat else none:=by
 simp only [bound,V.dz,lD]
 by_cases U:0≤b<;>by_cases ad:b≤(y:Int)<;>simp [U,ad]
theorem aba (s:List UInt8) (k:IntKind) (b:Int):jU (.str s) none (some (.int k b)) none=if 0≤b∧b≤(s.length:Int) then some (.str (s.take b.toNat)) else none:=by
 simp only [jU,A']
 by_cases h:0≤b∧b≤(s.length:Int)
 · simp only [h,and_self,if_true,bound,List.drop_zero,Nat.sub_zero]
 · simp only [h,if_false]
theorem abb (s:List UInt8) (k:IntKind) (a:Int):jU (.str s) (some (.int k a)) none none=if 0≤a∧a≤(s.length:Int) then some (.str (s.drop a.toNat)) else none:=by
 simp only [jU,xB,A']
 by_cases h:0≤a∧a≤(s.length:Int)
 · simp only [h,and_self,if_true]
   rw [List.take_of_length_le (by rw [List.length_drop];omega)]
 · simp only [h,if_false]
theorem abc (s:List UInt8) (k bl:IntKind) (a b:Int):jU (.str s) (some (.int k a)) (some (.int bl b)) none=if 0≤a∧a≤b∧b≤(s.length:Int) then some (.str ((s.drop a.toNat).take (b.toNat-a.toNat))) else none:=by
 simp only [jU,A']
 by_cases h:0≤b∧b≤(s.length:Int)
 · simp only [h,and_self,if_true]
   by_cases ad:0≤a∧a≤b
   · have:0≤a∧a≤((b.toNat:Nat):Int):=by omega
     simp only [this,and_self,if_true,ad,h]
   · have aI:¬(0≤a∧a≤((b.toNat:Nat):Int)):=by omega
     have bq:¬(0≤a∧a≤b∧b≤(s.length:Int)):=by omega
     have ct:¬(0≤a∧a≤b∧True):=fun q=>ad ⟨q.1,q.2.1⟩
     rw [if_neg ct,if_neg aI]
 · have bq:¬(0≤a∧a≤b∧b≤(s.length:Int)):=by omega
   simp only [h,bq,if_false]
theorem aa_ (s:List UInt8):jU (.str s) none none none=some (.str s):=by
 simp only [jU,xB,List.drop_zero,Nat.sub_zero,List.take_length]
section
variable {P:Program}
theorem aaV (a b:List UInt8):(dN.str .eql).run P (.str a) (.str b)=some (.bool (decide (a=b))):=by simp only [dN.run,oW,nB,GF]
theorem aaU (a b:List UInt8):(dN.str .add).run P (.str a) (.str b)=if a.length+b.length≤top then some (.str (a++b)) else none:=by
 simp only [dN.run,oW,Ac]
 by_cases h:a.length+b.length≤top
 · rw [if_pos h,show Nat.ble (a.length+b.length) top=true from by rw [Nat.ble_eq];exact h]
   rfl
 · rw [if_neg h,show Nat.ble (a.length+b.length) top=false from by rw [←Bool.not_eq_true,Nat.ble_eq];exact h]
   rfl
theorem aaW (s:List UInt8) (k:IntKind) (i:Int):oC.run (.str s) (.int k i)=if 0≤i∧i < (s.length:Int) then some (.int .u8 (((s[i.toNat]?).getD 0).toNat:Int)) else none:=by
 simp only [oC,V.dz,lD]
 by_cases U:0≤i
 · simp only [U,decide_true,cond_true,true_and]
   by_cases ad:i < (s.length:Int)
   · rw [if_pos ad,List.getElem?_eq_getElem (by omega)]
     rfl
   · rw [if_neg ad,List.getElem?_eq_none (by omega)]
 · simp only [U,decide_false,cond_false,false_and,if_false]
theorem aaX (a b:List UInt8):(dN.str .neq).run P (.str a) (.str b)=some (.bool (!decide (a=b))):=by simp only [dN.run,oW,nB,GF]
end
end Go.Proofs.YtkehcalakofigaaGreatDoor.aY
namespace Go.Proofs.YtkehcalakofigaaGreatDoor.aY
open Go Go.RowKit
set_option linter.defProp false
def acj:=
 And.intro @W0<|And.intro @Wb<|And.intro @W8<|And.intro @Wc<|And.intro @W5<|And.intro @W9<|And.intro @W6<|And.intro @Wt<|And.intro @Wl<|And.intro @Wi<|And.intro @Wj<|And.intro @WQ<|And.intro @Wr<|And.intro @W3<|And.intro @WW<|And.intro @XN<|And.intro @W4<|And.intro @XS<|And.intro @Wg<|And.intro @Xl<|And.intro @WH<|And.intro @XD<|And.intro @WI<|And.intro @XE<|And.intro @W1<|And.intro @XQ<|And.intro @Wa<|And.intro @Xi<|And.intro @Xc<|And.intro @XX<|And.intro @Wy<|And.intro @Xx<|And.intro @WD<|And.intro @XA<|And.intro @W_<|And.intro @XV<|And.intro @W'<|And.intro @XU<|And.intro @Wv<|@Xu
def ack:=
 And.intro @Ww<|And.intro @Xv<|And.intro @Wx<|And.intro @Xw<|And.intro @WB<|And.intro @Xy<|And.intro @WC<|And.intro @Xz<|And.intro @WG<|And.intro @XC<|And.intro @WE<|And.intro @XB<|And.intro @WO<|And.intro @XJ<|And.intro @Wu<|And.intro @Xt<|And.intro @WU<|And.intro @XM<|And.intro @WX<|And.intro @XO<|And.intro @Wn<|And.intro @Xq<|And.intro @WL<|And.intro @XH<|And.intro @WM<|And.intro @XI<|And.intro @WJ<|And.intro @XF<|And.intro @WZ<|And.intro @XP<|And.intro @We<|And.intro @Xj<|And.intro @Wf<|And.intro @Xk<|And.intro @Xa<|And.intro @XW<|And.intro @WT<|And.intro @XL<|And.intro @Xd<|@XY
def acm:=
 And.intro @WS<|And.intro @XK<|And.intro @W7<|And.intro @XT<|And.intro @W2<|And.intro @XR<|And.intro @V'<|And.intro @Xh<|And.intro @Wk<|And.intro @Xo<|And.intro @WK<|And.intro @XG<|And.intro @Wm<|And.intro @Xp<|And.intro @Wp<|And.intro @Xs<|And.intro @Wo<|And.intro @Xr<|And.intro @Xm<|And.intro @Xn<|And.intro @JX<|And.intro @Wh<|@Wq
def acn:=
 And.intro @abA<|And.intro @abf<|And.intro @RD<|And.intro @RC<|And.intro @xK<|And.intro @aaE<|And.intro @Ou<|And.intro @Ot<|And.intro @ZR<|And.intro @SD<|And.intro @SC<|And.intro @Ow<|And.intro @Sr<|And.intro @Sq<|And.intro @Z4<|And.intro @Sy<|And.intro @Zp<|And.intro @Zo<|And.intro @Yl<|And.intro @Yj<|And.intro @Ym<|And.intro @Yk<|And.intro @Yn<|And.intro @JG<|And.intro @JF<|And.intro @RT<|And.intro @St<|And.intro @Ss<|And.intro @abX<|And.intro @aaY<|And.intro @aaZ<|And.intro @Zh<|And.intro @Zi<|And.intro @ZQ<|And.intro @ZN<|And.intro @ab_<|And.intro @ab'<|And.intro @Of<|And.intro @Og<|@Oh
def aco:=
 And.intro @Oi<|And.intro @Oe<|And.intro @M_<|And.intro @Nb<|And.intro @Na<|And.intro @abU<|And.intro @abW<|And.intro @abV<|And.intro @V1<|And.intro @V3<|And.intro @V2<|And.intro @V9<|And.intro @Xb<|And.intro @WV<|And.intro @Ws<|And.intro @WY<|And.intro @WR<|And.intro @WN<|And.intro @WA<|And.intro @Wz<|And.intro @V_<|And.intro @Wd<|And.intro @ab7<|And.intro @ab6<|And.intro @Yx<|And.intro @Yz<|And.intro @J7<|And.intro @J8<|And.intro @Ee<|And.intro @J'<|And.intro @abv<|And.intro @X3<|And.intro @l7<|And.intro @gv<|And.intro @dH<|And.intro @oL<|And.intro @gn<|And.intro @mA<|And.intro @YX<|@Ra
def acp:=
 And.intro @Zr<|And.intro @S_<|And.intro @Rf<|And.intro @Zw<|And.intro @Td<|And.intro @Rq<|And.intro @ZG<|And.intro @Tm<|And.intro @Rl<|And.intro @ZB<|And.intro @Ti<|And.intro @Rn<|And.intro @ZD<|And.intro @Tk<|And.intro @Rp<|And.intro @ZF<|And.intro @Tl<|And.intro @Rc<|And.intro @Zu<|And.intro @Tb<|And.intro @Rr<|And.intro @ZH<|And.intro @Tn<|And.intro @Rm<|And.intro @ZC<|And.intro @Tj<|And.intro @Rk<|And.intro @ZA<|And.intro @Th<|And.intro @Rh<|And.intro @Zx<|And.intro @Te<|And.intro @Rb<|And.intro @Zt<|And.intro @Ta<|And.intro @Rj<|And.intro @Zz<|And.intro @Tg<|And.intro @Re<|@Zv
def acq:=
 And.intro @Tc<|And.intro @Ri<|And.intro @Zy<|And.intro @Tf<|And.intro @Q_<|And.intro @S'<|And.intro @To<|And.intro @Yf<|And.intro @Yg<|And.intro @Ye<|And.intro @beq_true<|And.intro @beq_false<|And.intro @Bool.not_true<|And.intro @Bool.not_false<|And.intro @Bool.true_and<|And.intro @Bool.and_true<|And.intro @Bool.false_and<|And.intro @Bool.and_false<|And.intro @Bool.not_not<|And.intro @V.bool.injEq<|And.intro @Nat.zero_add<|And.intro @Nat.add_zero<|And.intro @abQ<|And.intro @abR<|And.intro @abO<|And.intro @Bool.true_eq_false<|And.intro @Bool.false_eq_true<|And.intro @abT<|And.intro @Z_<|And.intro @aaa<|And.intro @N5<|And.intro @N4<|And.intro @N1<|And.intro @NY<|And.intro @T'<|And.intro @Ua<|And.intro @T_<|And.intro @NZ<|And.intro @N0<|@N2
def acr:=
 And.intro @N3<|And.intro @KK<|And.intro @acx<|And.intro @wh<|And.intro @acy<|And.intro @Y_<|And.intro @acz<|And.intro @Za<|And.intro @acA<|And.intro @Zb<|And.intro @acB<|And.intro @Zc<|And.intro @acC<|And.intro @Zd<|And.intro @acD<|And.intro @Ze<|And.intro @acE<|And.intro @S7<|And.intro @S4<|And.intro @S6<|And.intro @S5<|And.intro @S8<|And.intro @Bool.or_false<|And.intro @Bool.false_or<|And.intro @Bool.or_true<|And.intro @Bool.true_or<|And.intro @Y4<|And.intro @YP<|And.intro @Er<|And.intro @ZO<|And.intro @ZP<|And.intro @Nz<|And.intro @NG<|And.intro @NH<|And.intro @NI<|And.intro @NJ<|And.intro @NK<|And.intro @NL<|And.intro @NM<|@NN
def acs:=
 And.intro @Ny<|And.intro @NA<|And.intro @NB<|And.intro @NC<|And.intro @ND<|And.intro @NF<|And.intro @aba<|And.intro @abb<|And.intro @abc<|And.intro @aa_<|And.intro @aaV<|And.intro @aaX<|And.intro @aaU<|@aaW
end Go.Proofs.YtkehcalakofigaaGreatDoor.aY
namespace Go.Proofs.YtkehcalakofigaaGreatDoor.aY
variable [Lay]
open Go Go.RowKit
theorem xt {B:Nat} {h:ae} {size:Nat} {s:V} {n:Nat} {us cs:List V} (b4:1≤size) (H1:du B h size s n us) (cS:B≤h.next) (hlen:(n+1) * size≤top) (gT:cs.length=size) (aP:ef cs=true):
 ∃v aa,lU size s (.slice (aG h.next) 0 1 1) (h.new (.bk cs 0 false))=.val v aa∧du B aa size v (n+1) (us++cs)∧Mod s.bd h aa∧h.next+1≤aa.next∧∀b,v.bd b→s.bd b∨h.next<cB b:=by
 have ao:Ext h (h.new (.bk cs 0 false)):=(Ext.refl h).new _
 have bw:eW (h.new (.bk cs 0 false)) size (.slice (aG h.next) 0 1 1) 1 cs:=by
  refine ⟨by rw [gT];omega,rfl,gL (by rw [gn];omega),cs,.inr ⟨0,false,by rw [l7]⟩,by omega,by simp⟩
 obtain ⟨v,aa,ai,ay,aK,bE⟩:=xu b4 (H1.ext ao) bw (by rw [gn];omega) hlen aP
 refine ⟨v,aa,ai,ay,(ao.mod _).trans aK,by have:=aK.next;rw [gn] at this;exact this,fun b af=>?_⟩
 rcases bE b af with q | q
 · exact .inl q
 · exact .inr (by rw [gn] at q;omega)
theorem MA:∀l:List UInt8,k3 (gu l)=some l
 | []=>rfl
 | c::l=>by
   have bh:=MA l
   simp only [gu,k3,bh]
   simp
theorem xI:∀l:List UInt8,(gu l).length=l.length
 | []=>rfl
 | c::l=>by simp only [gu,List.length_cons,xI l]
theorem GN:∀l m:List UInt8,gu (l++m)=gu l++gu m
 | [],m=>rfl
 | c::l,m=>by simp only [gu,List.cons_append,GN l m]
theorem Mj {h:ae} {b:aN} {us:List V} {cj:Nat} {st:Bool} {off:Nat} {l:List UInt8} (aD:h.get b=.bk us cj st) (aj:off+l.length≤us.length) (hu:(us.drop off).take l.length=gu l):qe b off l.length h=.val (.str l) h:=by
 unfold qe
 rw [aD]
 simp only [bS.lL,bS.bk]
 rw [show Nat.ble (off+l.length) us.length=true from by rw [Nat.ble_eq];exact aj]
 simp only [cond_true]
 rw [ye us l.length off aj,hu,MA]
theorem Hg {B:Nat} {h:ae} {v:V} {n:Nat} {l:List UInt8} (H:du B h 1 v n (gu l)):pn.run v h=.val (.str l) h:=by
 have U:=H.1
 rw [xI,Nat.mul_one] at U
 have ad:=H.2
 cases v<;>simp only at ad<;>try (exact ad.elim)
 case cq=>
  subst ad
  rw [List.length_eq_zero_iff] at U
  subst U
  rfl
 case slice=>
  obtain ⟨ai,ay,aK,bE,dr,us,cj,st,eS,iO,mG⟩:=ad
  rw [xI] at mG
  simp only [pn]
  rw [ai,←U]
  exact Mj eS (by omega) mG
 case dQ=>
  obtain ⟨ai,ay,aK,bE,dr,us,st,eS,iO,mG⟩:=ad
  rw [xI] at mG iO
  simp only [pn]
  rw [ai,bE,←U]
  exact Mj eS (by omega) (by simpa using mG)
theorem Mod.self {b:aN} {h aa:ae} (e:Mod (fun q=>q=b) h aa) (k:bS):Mod (fun q=>q=b) h (aa.set b k):=e.set (fun _=>rfl) k
theorem Mod.fresh {M:aN→Prop} {h aa:ae} (e:Mod M h aa) {i:Nat} (aC:h.next≤i) (k:bS):Mod M h (aa.set (aG i) k):=
 e.set (fun q=>absurd (show cB (aG i)<h.next from q) (by rw [dV];omega)) k
theorem Mod.abP {M N:aN→Prop} {h ad aI:ae} (e:Mod M h ad) (q:Mod N ad aI) (a7:∀b,N b→h.next≤cB b):Mod M h aI:=
 ⟨Nat.le_trans e.next q.next,fun b aP af=>by
   rw [q.get b (e.b2 aP) (fun k=>absurd (show cB b<h.next from aP) (by have:=a7 b k;omega)),e.get b aP af]⟩
end Go.Proofs.YtkehcalakofigaaGreatDoor.aY
namespace Go.Proofs.YtkehcalakofigaaGreatDoor.aY
variable [Lay]
set_option linter.defProp false
open Go Go.RowKit
def al:=And.intro @acj<|And.intro @ack @acm
def aca:=And.intro @acn<|And.intro @aco<|And.intro @acp<|And.intro @acq<|And.intro @acr @acs
def acb:=And.intro @Option.isSome_some.{0}<|And.intro @Option.getD_some.{0}<|And.intro @if_true.{1}<|And.intro @if_false.{1}<|And.intro @true_and<|And.intro @and_true<|And.intro @List.getElem?_cons_zero.{0}<|And.intro @List.getElem?_cons_succ.{0}<|And.intro @List.length_cons.{0}<|And.intro @List.length_nil.{0}<|
 And.intro @List.drop_zero.{0}<|And.intro @List.drop_succ_cons.{0}<|And.intro @List.take_succ_cons.{0}<|And.intro @List.take_zero.{0}<|And.intro @List.cons_append.{0}<|And.intro @List.nil_append.{0}<|And.intro @Option.some.injEq.{0}<|And.intro @exists_eq_left'.{1}<|And.intro @List.cons.injEq.{0}<|
 And.intro @Nat.succ_ne_zero<|And.intro @VP<|And.intro @VO<|And.intro @List.getElem?_nil.{0}<|And.intro @decide_true<|And.intro @decide_false<|And.intro @eq_self.{1}<|And.intro @not_true_eq_false<|And.intro @not_false_eq_true<|And.intro @ite_true.{1} @ite_false.{1}
def dB:=And.intro aca (And.intro acb (And.intro @gM.eq_1 (And.intro @gM.eq_2 (And.intro @aQ.eJ.eq_1 (And.intro @aQ.eJ.eq_2 (And.intro @lM.eq_1 (And.intro @lM.eq_2 (And.intro @lM.eq_3 (And.intro @over.eq_1 (And.intro @over.eq_2 (And.intro @over.eq_3 (And.intro @ef.eq_1 (@ef.eq_2)))))))))))))
def aw:=And.intro dB (And.intro @cY.ends.eq_1 (And.intro @cY.ends.eq_2 (And.intro @cH.eq_1 (And.intro @cH.eq_2 (And.intro @cH.eq_3 (And.intro @cH.eq_4 (And.intro @oneOf.eq_1 (And.intro @oneOf.eq_2 top.eq_1))))))))
end Go.Proofs.YtkehcalakofigaaGreatDoor.aY
namespace Go.Proofs.YtkehcalakofigaaGreatDoor.aY
variable [Lay]
open Go Go.RowKit
theorem Rv {P:Program} {f:FuncId} (a1:Nat.beq f cJ=false) {v:V} (bw:∀E x,x=.bool true→Rel E v x) (gk:∃fn,P.funcs[f]? =some fn∧fn.body.isSome=true) (H:∀w,Lay.ok w→Calls P f #[] w fun e ak=>e=.returned (.bool true)∧Below w.heap.size w ak) (h:ae):
 eh P f [] h v h:=by
 refine ⟨fun e=>by subst e;simp at a1,.inl ⟨gk,fun au E w xs ao s=>?_⟩⟩
 simp only [aZ] at ao
 subst ao
 refine (H w (Lay.fH s.laid s.frame)).mono fun e ak q=>?_
 obtain ⟨rfl,af⟩:=q
 exact ⟨E,_,rfl,fun _ _ q=>q,bw E _ rfl,s.below af⟩
noncomputable def nG (E:Env) (h:ae) (p:gO):Env:=fun b=>if b=aG h.next then some p else E b
theorem MI (E:Env) (h:ae) (p:gO):nG E h p (aG h.next)=some p:=if_pos rfl
theorem FG {au:Fr} {E:Env} {h:ae} {w:World} (s:aW au E h w) (p:gO):E.le (nG E h p):=fun b q aE=>by
 unfold nG
 rw [if_neg (fun e=>by rw [e,s.fresh _ (Nat.le_refl _)] at aE;cases aE)]
 exact aE
theorem aa8 {W:World} {E:Env} {h:ae} (s:aW ⟨W,fun _=>none⟩ E h W) (p:gO) (k:bS) (aP:k.own=false) (az:e7 W.heap.size (nG E h p) W (aG h.next) k):
 aW ⟨W,fun _=>none⟩ (nG E h p) (h.new k) W:=by
 refine ⟨fun b _=>?_,fun _ _ h=>(by cases h),fun b bz q dK U ad aF aM aE=>?_,fun i aC=>?_,s.frame,s.laid,fun b q n cs st U aF=>by
  rw [gv] at U
  by_cases bB:aG h.next=b
  · rw [if_pos bB] at U;rw [U] at aP;cases aP
  · rw [if_neg bB] at U
    unfold nG at aF
    rw [if_neg (fun e=>bB e.symm)] at aF
    exact s.base _ _ _ _ _ U aF⟩
 · rw [gv]
   by_cases e:aG h.next=b
   · subst e
     rw [if_pos rfl]
     exact az
   · rw [if_neg e]
     exact (s.bd b rfl).mono (FG s p)
 · rw [gv] at U ad
   by_cases bB:aG h.next=b
   · rw [if_pos bB,aP] at U;cases U
   · by_cases bX:aG h.next=bz
     · rw [if_pos bX,aP] at ad;cases ad
     · rw [if_neg bB] at U
       rw [if_neg bX] at ad
       unfold nG at aF aM
       rw [if_neg (fun e=>bB e.symm)] at aF
       rw [if_neg (fun e=>bX e.symm)] at aM
       exact s.inj b bz q dK U ad aF aM aE
 · rw [gn] at aC
   unfold nG
   rw [if_neg (fun e=>by have:=gB e;omega)]
   exact s.fresh i (by omega)
theorem aa9 {W:World} {E:Env} {h:ae} (s:aW ⟨W,fun _=>none⟩ E h W) {k base cap:Nat} {c:Array Value} {el:TypeId} {bF:Nat × Nat} (az:W.heap[k]? =some (.cells c el bF)) {ab:List V}
 (aq:base+ab.length≤c.size) (aH:∀i v y,ab[i]? =some v→c[base+i]? =some y→Rel E v y):
 aW ⟨W,fun _=>none⟩ (nG E h ⟨k,base,cap⟩) (h.new (.ro ab)) W:=by
 refine aa8 s _ _ rfl ?_
 have aO:k<W.heap.size:=by
  by_cases aO:k<W.heap.size
  · exact aO
  · rw [Array.getElem?_eq_none (by omega)] at az
    cases az
 refine ⟨trivial,⟨k,base,cap⟩,c,el,bF,MI _ _ _,aO,az,aq,fun i y aC a1=>?_⟩
 have:T.get .bad (aG i) (eK .e 0 ab)=ab[i]:=by
  have:=yc ab 0 i .e
  rw [Nat.zero_add] at this
  rw [this,if_pos aC,List.getElem?_eq_getElem aC]
  rfl
 rw [this]
 exact Rel.mono (FG s _) _ _ (aH i _ y (List.getElem?_eq_getElem aC) a1)
end Go.Proofs.YtkehcalakofigaaGreatDoor.aY
