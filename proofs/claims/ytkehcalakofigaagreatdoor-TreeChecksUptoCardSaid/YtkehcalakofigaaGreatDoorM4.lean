/- The abstract machine and its walks (a verified interpreter of the model's code: plain definitions and lemmas, no condition). Printed by a program from longer texts: names made short. -/
import Derived.Test.YtkehcalakofigaaGreatDoorM3
import Derived.IntWalk
import Derived.ChangeArms
import Derived.DataReads
set_option linter.unusedSectionVars false
set_option linter.unusedSimpArgs false
set_option linter.unusedVariables false
namespace Go.Proofs.YtkehcalakofigaaGreatDoor.a1
variable [Lay]
open Go Go.RowKit
inductive aR where
 | t (n:Nat)
 | c (v:V)
abbrev aS:=Nat→V
def aR.aU (r:aS):aR→V
 | .t n=>r n
 | .c v=>v
def aR.eL (r:aS):List aR→List V
 | []=>[]
 | x::xs=>x.aU r::aR.eL r xs
def rx:Operand→aR
 | .tmp t=>bif Nat.ble t top then .t t else .c .bad
 | .const v=>.c (fE v)
 | .func f=>bif Nat.beq f cM then .c .bad else .c (.func f [])
 | .global _=>.c .bad
def k6:List Operand→List aR
 | []=>[]
 | x::xs=>rx x::k6 xs
def aR.opt (r:aS):Option aR→Option V
 | none=>none
 | some x=>some (x.aU r)
def oW:Option Operand→Option aR
 | none=>none
 | some x=>some (rx x)
inductive dV where
 | int (op:BinOp)
 | str (op:BinOp)
 | shl
 | shr
 | sN (neg:Bool)
 | iD (neg:Bool) (k:Nat)
 | other (op:BinOp) (t:TypeId)
noncomputable def dV.run (P:Program):dV→V→V→Option V
 | .int op=>(jk op).run
 | .str op=>(o0 op).run
 | .shl=>(r3 true).run
 | .shr=>(r3 false).run
 | .sN neg=>(hl neg mX).run
 | .iD neg k=>(hl neg (fq k)).run
 | .other op t=>(n1 P op t).run
inductive o_ where
 | int (k:IntKind)
 | bytes
 | str
 | other (s d:TypeId)
noncomputable def o_.run (P:Program):o_→V→ae→aT
 | .int k=>fun x h=>x.dB .fail fun _ n=>.val (.int k (k.wrap n)) h
 | .bytes=>u6.run
 | .str=>pr.run
 | .other s d=>(mV P s d).run
inductive la where
 | int | str | bool
def la.eq:la→c6
 | .int=>jE
 | .str=>qR
 | .bool=>mX
inductive xn where
 | arr (n:Nat)
 | str
 | slice
 | map
inductive G where
 | bad
 | dk (x:aR)
 | pick (c a b:aR)
 | new (z:List V)
 | box (x:aR)
 | build (z:List V) (ba:List (Nat × Nat × aR))
 | gZ (len size:Nat) (z:List V) (ba:List (Nat × Nat × aR))
 | fS (x:aR)
 | hY (size:Nat) (x:aR)
 | st (size:Nat) (x y:aR)
 | p2 (x:aR)
 | bin (k:dV) (x y:aR)
 | un (op:UnOp) (x:aR)
 | g' (k:o_) (x:aR)
 | fn (f:FuncId) (dO:List aR)
 | wh (f:FuncId) (first:List aR)
 | xC (t:TypeId) (z:Option V) (ok:Bool) (x:aR)
 | oE (t:TypeId) (x:aR)
 | tI (size:Nat) (z:List V) (l c:aR)
 | nF (x:aR) (bJ aB dt:Option aR)
 | fH (size:Nat) (x:aR) (bJ aB dt:Option aR)
 | e2 (off:Nat) (x:aR)
 | qV (off:Nat) (x:aR)
 | qW (off size:Nat) (x:aR)
 | c4 (size:Nat) (x i:aR)
 | pN (n size:Nat) (x i:aR)
 | jU (x i:aR)
 | hI (t:TypeId) (x i:aR)
 | look (k:la) (z:V) (ok:Bool) (x i:aR)
 | wX (k:la) (m i x:aR)
 | wg (x:Option aR)
 | ua (x:aR)
 | tP (x:aR)
 | ext (x:aR) (i:Nat)
 | call (f:FuncId) (args:List aR)
 | ll (f:aR) (args:List aR)
 | len (k:xn) (x:aR)
 | app (size:Nat) (s x:aR)
 | copy (size:Nat) (d s:aR)
 | tJ (args:List aR)
 | dt (args:List aR)
 | Ht (z:List V) (x:aR)
def h7 (r:aS):List (Nat × Nat × aR)→List (Nat × Nat × V)
 | []=>[]
 | (o,s,x)::ba=>(o,s,x.aU r)::h7 r ba
def ha:List V→List (Nat × Nat × V)→Option (List V)
 | cells,[]=>some cells
 | cells,(off,size,v)::rest=>bif v.e_&&(Nat.beq v.cells.length size&&Nat.ble (off+v.cells.length) cells.length) then ha (og cells off v.cells) rest else none
noncomputable def xn.run:xn→V→ae→aT
 | .arr n=>fun _ h=>.val (.int .i64 n) h
 | .str=>fun x h=>aT.of h ((lJ .string).run x)
 | .slice=>fun x h=>aT.of h ((lJ (.slice 0)).run x)
 | .map=>fun x h=>v' [x] h
noncomputable def G.run (P:Program) (g:G) (call:c9) (r:aS) (h:ae):aT:=
 match g with
 | .bad=>.fail
 | .dk x=>.val (x.aU r) h
 | .pick c a b=>match c.aU r with
   | .bool t=>.val (bif t then a.aU r else b.aU r) h
   | _=>.fail
 | .new z=>fV (.ptr (aH h.next) 0) (e8 h z)
 | .box x=>bif (x.aU r).e_ then fV (.ptr (aH h.next) 0) (e8 h (x.aU r).cells) else .fail
 | .build z ba=>(match ha z (h7 r ba) with
   | some cs=>.val (.agg cs) h
   | none=>.fail)
 | .gZ n _ z ba=>match ha (gV z n) (h7 r ba) with
   | some cs=>(match e8 h cs with
     | some aa=>.val (.slice (aH h.next) 0 n n) aa
     | none=>.fail)
   | none=>.fail
 | .fS x=>aT.of h (ks h (x.aU r))
 | .hY n x=>aT.of h (kr n h (x.aU r))
 | .st n x y=>fV .bad (r4 n h (x.aU r) (y.aU r))
 | .p2 x=>aT.of h (p1 (x.aU r))
 | .bin k x y=>aT.of h (k.run P (x.aU r) (y.aU r))
 | .un op x=>aT.of h (nH op (x.aU r))
 | .g' k x=>k.run P (x.aU r) h
 | .fn f dO=>.val (.func f (aR.eL r dO)) h
 | .wh f first=>.val (.jW f (aR.eL r first)) h
 | .xC t z ok x=>aT.of h (uR t z ok (x.aU r))
 | .oE t x=>.val (.iface t (x.aU r)) h
 | .tI n z l c=>tG n z (l.aU r) (c.aU r) h
 | .nF x bJ aB m3=>aT.of h (j0 (x.aU r) (aR.opt r bJ) (aR.opt r aB) (aR.opt r m3))
 | .fH n x bJ aB m3=>aT.of h (match x.aU r with
   | .cq=>z_ (aR.opt r bJ) (aR.opt r aB) (aR.opt r m3)
   | .slice b off rK cap=>qh n b off rK cap (aR.opt r bJ) (aR.opt r aB) (aR.opt r m3)
   | .dP b off rK idx=>uh n b off rK idx (aR.opt r bJ) (aR.opt r aB) (aR.opt r m3)
   | .fy b off k4 idx=>Aa b off k4 idx (aR.opt r bJ) (aR.opt r aB) (aR.opt r m3)
   | _=>none)
 | .e2 off x=>aT.of h ((x.aU r).ht none fun b o=>some (.ptr b (o+off)))
 | .qV off x=>aT.of h (match x.aU r with
   | .agg cs=>cs[off]?
   | _=>none)
 | .qW off n x=>aT.of h (match x.aU r with
   | .agg cs=>some (.agg ((cs.drop off).take n))
   | _=>none)
 | .c4 n x i=>aT.of h ((rE n).run (x.aU r) (i.aU r))
 | .pN n s x i=>aT.of h ((oG n s).run (x.aU r) (i.aU r))
 | .jU x i=>aT.of h (oI.run (x.aU r) (i.aU r))
 | .hI t x i=>aT.of h ((oH P t).run (x.aU r) (i.aU r))
 | .look k z ok x i=>aT.of h (jr k.eq z ok h (x.aU r) (i.aU r))
 | .wX k m i x=>fV .bad (nI k.eq h (m.aU r) (i.aU r) (x.aU r))
 | .wg x=>rM (aR.opt r x) h
 | .ua x=>(match x.aU r with
   | .str s=>.val (.ptr (aH h.next) 0) (h.new (.iter s 0))
   | _=>.fail)
 | .tP x=>rO (x.aU r) h
 | .ext x i=>(match x.aU r with
   | .tuple ab=>aT.of h ab[i]?
   | _=>.fail)
 | .call f args=>call f (aR.eL r args) h
 | .ll f args=>(f.aU r).tQ (aR.eL r args) fun g xs=>call g xs h
 | .len k x=>k.run (x.aU r) h
 | .app n s x=>lk n (s.aU r) (x.aU r) h
 | .copy n d s=>copyV n (d.aU r) (s.aU r) h
 | .tJ args=>aT.of h (ij (fun b a=>!Int.leB a b) (aR.eL r args))
 | .dt args=>aT.of h (ij (fun b a=>!Int.leB b a) (aR.eL r args))
 | .Ht z x=>xT z (x.aU r) h
def Fi (P:Program) (op:BinOp) (t:TypeId):dV:=
 match op with
 | .shl=>.shl
 | .shr=>.shr
 | op=>match aX P t with
   | none=>.other op t
   | some aL=>match aL.a_ with
     | .int _=>.int op
     | .string=>.str op
     | .bool=>(match op with
       | .eql=>.sN false
       | .neq=>.sN true
       | _=>.other op t)
     | .pointer _=>(match op with
       | .eql=>.iD false 1
       | .neq=>.iD true 1
       | _=>.other op t)
     | .slice _=>(match op with
       | .eql=>.iD false 2
       | .neq=>.iD true 2
       | _=>.other op t)
     | .map _ _=>(match op with
       | .eql=>.iD false 3
       | .neq=>.iD true 3
       | _=>.other op t)
     | .func _ _ _=>(match op with
       | .eql=>.iD false 4
       | .neq=>.iD true 4
       | _=>.other op t)
     | _=>.other op t
def Fo (P:Program) (op:BinOp) (t:TypeId) (lit:Bool):dV:=
 bif lit then (match aX P t with
  | some aL=>match aL.a_ with
    | .interface _=>match op with
      | .eql=>.iD false 5
      | .neq=>.iD true 5
      | _=>.iD false 99
    | _=>.iD false 99
  | none=>.iD false 99) else Fi P op t
def Fl (P:Program) (s d:TypeId):o_:=
 match aX P s,aX P d with
 | some qg,some lo=>match lo.a_ with
   | .int k=>.int k
   | .string=>match qg.a_ with
     | .slice e=>match aX P e with
       | some bc=>match bc.a_ with
         | .int .u8=>.str
         | _=>.other s d
       | none=>.other s d
     | _=>.other s d
   | .slice e=>match aX P e with
     | some bc=>match bc.a_ with
       | .int .u8=>.bytes
       | _=>.other s d
     | none=>.other s d
   | _=>.other s d
 | _,_=>.other s d
def mH (place:Nat→Option (Nat × Nat)):List (Nat × Operand)→Option (List (Nat × Nat × aR))
 | []=>some []
 | (i,x)::ba=>match place i with
   | none=>none
   | some (off,size)=>match mH place ba with
     | none=>none
     | some l=>some ((off,size,rx x)::l)
def L4 (P:Program) (t:TypeId) (ba:List (Nat × Operand)):G:=
 match aX P t with
 | some aL=>match aL.zero with
   | some z=>match aL.a_ with
     | .struct bO=>bif ya P bO.toList then (match mH (sR P bO) ba with
       | some l=>.build z.cells l
       | none=>.bad) else .bad
     | .array _ e=>match aX P e with
       | some bc=>(match mH (fun i=>some (i * bc.size,bc.size)) ba with
         | some l=>.build z.cells l
         | none=>.bad)
       | none=>.bad
     | _=>.bad
   | none=>.bad
 | none=>.bad
def L7 (P:Program) (t:TypeId) (len:Nat) (ba:List (Nat × Operand)):G:=
 match aX P t with
 | some aL=>match aL.a_ with
   | .slice e=>match aX P e with
     | some bc=>match bc.zero with
       | some z=>bif Nat.ble (len * bc.size) 1000000&&Nat.beq z.cells.length bc.size then
          (match mH (fun i=>some (i * bc.size,bc.size)) ba with
          | some l=>.gZ len bc.size z.cells l
          | none=>.bad) else .bad
       | none=>.bad
     | none=>.bad
   | _=>.bad
 | none=>.bad
def rJ:TypeDesc→Option la
 | .int _=>some .int
 | .string=>some .str
 | .bool=>some .bool
 | _=>none
def Ca (P:Program) (t:TypeId):Option (List V):=
 match aX P t with
 | some aL=>match aL.a_ with
   | .slice e=>match aX P e with
     | some bc=>match bc.zero with
       | some z=>some z.cells
       | none=>none
     | none=>none
   | _=>none
 | none=>none
theorem Sa (P:Program) (t:TypeId):u3 P t=Ca P t:=rfl
def Fk (P:Program) (c:Call):G:=
 match c.callee with
 | .value (.func f)=>bif Nat.beq f cM then .bad else .call f (k6 c.args.toList)
 | .value x=>.ll (rx x) (k6 c.args.toList)
 | .invoke _ _=>.bad
 | .builtin b=>match b with
   | .len=>match c.argTypes.toList,c.args.toList with
     | [t],[x]=>(match aX P t with
       | some aL=>(match aL.a_ with
         | .map _ _=>.len .map (rx x)
         | .array n _=>.len (.arr n) (rx x)
         | .string=>.len .str (rx x)
         | .slice _=>.len .slice (rx x)
         | _=>.bad)
       | none=>.bad)
     | _,_=>.bad
   | .append=>match c.argTypes.toList,c.args.toList with
     | [t,u],[s,x]=>(match aX P t,aX P u with
       | some aL,some o5=>(match o5.a_ with
         | .int _=>.bad
         | _=>match aL.a_ with
           | .slice e=>(match aX P e with
             | none=>.bad
             | some bc=>match bc.zero with
               | none=>.bad
               | some z=>bif Nat.ble 1 bc.size&&Nat.ble bc.bytes 4096&&Nat.beq z.cells.length bc.size then .app bc.size (rx s) (rx x) else .bad)
           | _=>.bad)
       | _,_=>.bad)
     | _,_=>.bad
   | .copy=>match c.argTypes.toList,c.args.toList with
     | t::_,[d,s]=>(match aX P t with
       | some aL=>(match aL.a_ with
         | .slice e=>(match aX P e with
           | some bc=>.copy bc.size (rx d) (rx s)
           | none=>.bad)
         | _=>.bad)
       | none=>.bad)
     | _,_=>.bad
   | .min=>.tJ (k6 c.args.toList)
   | .max=>.dt (k6 c.args.toList)
   | .clear=>match c.argTypes.toList,c.args.toList with
     | [t],[x]=>(match Ca P t with
       | some z=>.Ht z (rx x)
       | none=>.bad)
     | _,_=>.bad
   | _=>.bad
def zT (P:Program) (op:Op):G:=
 match op with
 | .move x=>.dk (rx x)
 | .assign x=>.dk (rx x)
 | .pick c a b=>.pick (rx c) (rx a) (rx b)
 | .alloc t=>(match aX P t with
   | some aL=>(match aL.zero with
     | some z=>.new z.cells
     | none=>.bad)
   | none=>.bad)
 | .box _ x=>.box (rx x)
 | .build t ba=>L4 P t ba.toList
 | .buildSlice t n ba=>L7 P t n ba.toList
 | .load t x=>(match aX P t with
   | none=>.bad
   | some aL=>bif aL.agg then .hY aL.size (rx x) else bif Nat.beq aL.size 1 then .fS (rx x) else .bad)
 | .store t x y=>(match aX P t with
   | none=>.bad
   | some aL=>.st aL.size (rx x) (rx y))
 | .nilCheck x=>.p2 (rx x)
 | .binOp op t x y _=>.bin (Fo P op t (nx x||nx y)) (rx x) (rx y)
 | .unOp op _ x=>.un op (rx x)
 | .convert s d x=>.g' (Fl P s d) (rx x)
 | .makeFunc (.func f) first dO=>bif first.isEmpty&&!Nat.beq f cM then .fn f (k6 dO.toList) else bif dO.isEmpty&&!Nat.beq f cM then .wh f (k6 first.toList) else .bad
 | .makeInterface t x=>(match aX P t with
   | some aL=>bif Nat.beq (dW aL.a_) 5 then .bad else .oE t (rx x)
   | none=>.bad)
 | .makeSlice t l c=>(match aX P t with
   | some aL=>(match aL.a_ with
     | .slice e=>(match aX P e with
       | some bc=>(match bc.zero with
         | some z=>bif Nat.ble bc.bytes 4096 then .tI bc.size z.cells (rx l) (rx c) else .bad
         | none=>.bad)
       | none=>.bad)
     | _=>.bad)
   | none=>.bad)
 | .slice t x bJ aB dt=>(match aX P t with
   | none=>.bad
   | some aL=>match aL.a_ with
     | .string=>.nF (rx x) (oW bJ) (oW aB) (oW dt)
     | .slice e=>(match aX P e with
       | none=>.bad
       | some bc=>.fH bc.size (rx x) (oW bJ) (oW aB) (oW dt))
     | _=>.bad)
 | .fieldAddr t x i=>(match nc P t i with
   | none=>.bad
   | some f=>match aX P f.type with
     | none=>.bad
     | some h8=>bif Nat.beq h8.size 0 then .bad else .e2 f.offset (rx x))
 | .field t x i=>(match nc P t i with
   | none=>.bad
   | some f=>match aX P f.type with
     | none=>.bad
     | some aL=>bif aL.agg then .qW f.offset aL.size (rx x) else .qV f.offset (rx x))
 | .indexAddr t x i=>(match aX P t with
   | none=>.bad
   | some aL=>match aL.a_ with
     | .slice e=>(match aX P e with
       | none=>.bad
       | some bc=>.c4 bc.size (rx x) (rx i))
     | .array n e=>(match aX P e with
       | none=>.bad
       | some bc=>.pN n bc.size (rx x) (rx i))
     | _=>.bad)
 | .index t x i=>(match aX P t with
   | none=>.bad
   | some aL=>match aL.a_ with
     | .string=>.jU (rx x) (rx i)
     | _=>.hI t (rx x) (rx i))
 | .range t x=>(match aX P t with
   | some aL=>(match aL.a_ with
     | .string=>.ua (rx x)
     | _=>.bad)
   | none=>.bad)
 | .next it true=>.tP (rx it)
 | .lookup t x k ok=>(match aX P t with
   | some aL=>(match aL.a_ with
     | .map bl e=>(match aX P bl with
       | some fR=>(match aX P e with
         | some bc=>(match bc.zero with
           | some z=>(match rJ fR.a_ with
             | some cD=>.look cD z ok (rx x) (rx k)
             | none=>.bad)
           | none=>.bad)
         | none=>.bad)
       | none=>.bad)
     | _=>.bad)
   | none=>.bad)
 | .mapUpdate t m k x | .insert t m k x=>(match aX P t with
   | some aL=>(match aL.a_ with
     | .map bl _=>(match aX P bl with
       | some fR=>(match rJ fR.a_ with
         | some cD=>.wX cD (rx m) (rx k) (rx x)
         | none=>.bad)
       | none=>.bad)
     | _=>.bad)
   | none=>.bad)
 | .makeMap t x=>(match aX P t with
   | some aL=>bif Nat.beq (dW aL.a_) 3 then .wg (oW x) else .bad
   | none=>.bad)
 | .extract x i=>.ext (rx x) i
 | .typeAssert x _ t ok=>(match aX P t with
   | some aL=>bif Nat.beq (dW aL.a_) 5 then .bad else .xC t aL.zero ok (rx x)
   | none=>.bad)
 | .call c=>Fk P c
 | _=>.bad
noncomputable def du (cn:bo):aS:=fun t=>T.get .bad (aH t) cn
theorem e1 (cn:bo) (x:Operand):(bA x).run cn=(rx x).aU (du cn):=by
 cases x with
 | tmp t=>
   simp only [bA,rx]
   cases Nat.ble t top<;>rfl
 | const v=>rfl
 | func f=>
   simp only [bA,rx]
   cases Nat.beq f cM<;>rfl
 | global g=>rfl
theorem sP (cn:bo):∀xs:List Operand,(m_ xs).run cn=aR.eL (du cn) (k6 xs)
 | []=>rfl
 | x::xs=>by simp only [m_,k6,aR.eL,e1,sP cn xs]
theorem EU (cn:bo) (x:Option Operand):(nB x).run cn=aR.opt (du cn) (oW x):=by
 cases x with
 | none=>rfl
 | some x=>simp only [nB,oW,aR.opt,e1]
theorem yb (cn:bo) {place:Nat→Option (Nat × Nat)}:∀{ba:List (Nat × Operand)} {l:List (Nat × Nat × aR)},mH place ba=some l→∀cells,kc place cells ((p7 ba).run cn)=ha cells (h7 (du cn) l)
 | [],l,h,cells=>by
   simp only [mH,Option.some.injEq] at h
   subst h
   rfl
 | (i,x)::ba,l,h,cells=>by
   simp only [mH] at h
   cases ah:place i with
   | none=>rw [ah] at h;cases h
   | some os=>
     obtain ⟨off,size⟩:=os
     rw [ah] at h
     simp only at h
     cases ai:mH place ba with
     | none=>rw [ai] at h;cases h
     | some dZ=>
       rw [ai] at h
       simp only [Option.some.injEq] at h
       subst h
       simp only [p7,kc,ah,h7,ha,e1]
       cases ((rx x).aU (du cn)).e_&&(Nat.beq ((rx x).aU (du cn)).cells.length size&&Nat.ble (off + ((rx x).aU (du cn)).cells.length) cells.length) with
       | false=>rfl
       | true=>exact yb cn ai _
section
variable {P:Program}
theorem aa1 (op:BinOp) (t:TypeId):(Fi P op t).run P=(n1 P op t).run:=by
 unfold Fi n1
 cases op<;>first | rfl | skip
 all_goals
  cases aC:aX P t with
  | none=>simp only [dV.run];unfold n1;rw [aC]
  | some aL=>
    simp only
    cases hu:aL.a_<;>first | rfl | (simp only [dV.run];unfold n1;rw [aC];simp only [hu];done) | (simp only [dV.run];unfold l6 fL;simp only [aC,hu];first | done | rfl)
theorem aa4 (op:BinOp) (t:TypeId) (lit:Bool):(Fo P op t lit).run P=(uT P op t lit).run:=by
 unfold Fo uT
 cases lit with
 | false=>simp only [cond_false];exact aa1 op t
 | true=>
   simp only [cond_true]
   cases aX P t with
   | none=>rfl
   | some aL=>
     simp only
     cases aL.a_<;>first | rfl | (cases op<;>rfl)
theorem aa3 (s d:TypeId):(Fl P s d).run P=(mV P s d).run:=by
 unfold Fl
 split
 · rename_i qg lo aQ aV
   split
   · rename_i k hu
     simp only [o_.run];unfold mV;rw [aQ,aV];simp only [hu]
   · rename_i hu
     split
     · rename_i e bx
       split
       · rename_i bc he
         split
         · rename_i hw
           simp only [o_.run];unfold mV;rw [aQ,aV];simp only [hu,bx,he,hw]
         · rfl
       · rfl
     · rfl
   · rename_i e hu
     split
     · rename_i bc he
       split
       · rename_i hw
         simp only [o_.run];unfold mV;rw [aQ,aV];simp only [hu,he,hw]
       · rfl
     · rfl
   · rfl
 · rfl
theorem Ej {d:TypeDesc} {cD:la} (h:rJ d=some cD):kY d=true∧iN d=cD.eq:=by
 cases d<;>simp only [rJ] at h<;>first | (cases h;done) | (cases h;exact ⟨rfl,rfl⟩)
theorem aa2 {c:Call} {call:c9} {cn:bo} {h aa:ae} {v:V} (he:(Fk P c).run P call (du cn) h=.val v aa):(oa P c).run call cn h=.val v aa:=by
 unfold Fk at he
 unfold oa
 split at he
 · rename_i f ar
   rw [ar]
   cases aZ:Nat.beq f cM with
   | true=>rw [aZ] at he;cases he
   | false=>
     rw [aZ] at he
     simp only [cond_false,G.run] at he
     simpa only [bA,aZ,cond_false,m',V.tQ,sP,List.append_nil] using he
 · rename_i x ao ar
   rw [ar]
   simp only [G.run] at he
   simpa only [e1,sP] using he
 · cases he
 · rename_i b ar
   rw [ar]
   simp only [sP]
   cases b<;>simp only at he<;>try (cases he;done)
   case len=>
    split at he
    · rename_i t x aC ao
      cases kX:aX P t with
      | none=>rw [kX] at he;cases he
      | some aL=>
        rw [kX] at he
        simp only at he
        simp only [n2,aC,kX,ao,k6,aR.eL]
        cases hu:aL.a_<;>rw [hu] at he<;>first | (cases he;done) | (simpa only [pS,cond_true,cond_false,G.run,xn.run,lJ,aT.of] using he)
    · cases he
   case append=>
    split at he
    · rename_i t u s x aC ao
      split at he
      · rename_i aL o5 kX tt
        simp only [n2,aC,ao,k6,aR.eL,xz,kX,tt]
        split at he
        · cases he
        · rename_i c8
          split at he
          · rename_i e b7
            cases et:aX P e with
            | none=>rw [et] at he;cases he
            | some bc=>
              rw [et] at he
              simp only at he
              cases bq:bc.zero with
              | none=>rw [bq] at he;cases he
              | some z=>
                rw [bq] at he
                simp only at he
                cases af:(Nat.ble 1 bc.size&&Nat.ble bc.bytes 4096&&Nat.beq z.cells.length bc.size) with
                | false=>rw [af] at he;cases he
                | true=>
                  rw [af] at he
                  simp only [cond_true,G.run] at he
                  cases DY:o5.a_<;>first
                   | (exact absurd DY (c8 _))
                   | (simp only [b7,et,bq,af,cond_true];exact he)
          · cases he
      · cases he
    · cases he
   case copy=>
    split at he
    · rename_i t cc d s aC ao
      cases kX:aX P t with
      | none=>rw [kX] at he;cases he
      | some aL=>
        rw [kX] at he
        simp only at he
        split at he
        · rename_i e b7
          cases et:aX P e with
          | none=>rw [et] at he;cases he
          | some bc=>
            rw [et] at he
            simp only [G.run] at he
            simp only [n2,aC,ao,k6,aR.eL,xU,kX,b7,et]
            exact he
        · cases he
    · cases he
   case min=>exact he
   case max=>exact he
   case clear=>
    split at he
    · rename_i t x aC ao
      cases ar:Ca P t with
      | none=>rw [ar] at he;cases he
      | some z=>
        rw [ar] at he
        simp only [G.run] at he
        simp only [n2,aC,ao,k6,aR.eL,Sa,ar]
        exact he
    · cases he
theorem L5 {o:Oper} {call:c9} {cn:bo} {h aa:ae} {v:V} (he:(zT P o.op).run P call (du cn) h=.val v aa):(eg P o).run call cn h=.val v aa:=by
 obtain ⟨dst,op,type,pos,after,guard⟩:=o
 cases op<;>simp only [zT] at he<;>try (cases he;done)
 all_goals simp only [eg]
 case move x=>simpa only [e1,G.run] using he
 case assign x=>simpa only [e1,G.run] using he
 case pick c a b=>
  simp only [e1,G.run] at he ⊢
  generalize (rx c).aU (du cn)=q at he ⊢
  cases q<;>exact he
 case alloc t=>
  cases aC:aX P t with
  | none=>rw [aC] at he;cases he
  | some aL=>
    rw [aC] at he
    simp only at he ⊢
    cases bq:aL.zero with
    | none=>rw [bq] at he;cases he
    | some z=>rw [bq] at he;exact he
 case box t x=>simpa only [e1,G.run] using he
 case build t ba=>
  unfold L4 at he
  unfold xJ
  cases aC:aX P t with
  | none=>rw [aC] at he;cases he
  | some aL=>
    rw [aC] at he
    simp only at he ⊢
    cases bq:aL.zero with
    | none=>rw [bq] at he;cases he
    | some z=>
      rw [bq] at he
      simp only at he ⊢
      cases hu:aL.a_<;>rw [hu] at he<;>simp only at he ⊢<;>try (cases he;done)
      · rename_i n e
        cases et:aX P e with
        | none=>rw [et] at he;cases he
        | some bc=>
          rw [et] at he
          simp only at he ⊢
          cases ah:mH (fun i=>some (i * bc.size,bc.size)) ba.toList with
          | none=>rw [ah] at he;cases he
          | some l=>
            rw [ah] at he
            simp only [G.run] at he
            rw [yb cn ah]
            cases ax:ha z.cells (h7 (du cn) l) with
            | none=>rw [ax] at he;cases he
            | some cs=>rw [ax] at he;exact he
      · rename_i bO
        cases aA:ya P bO.toList with
        | false=>rw [aA] at he;cases he
        | true=>
          rw [aA] at he
          simp only [cond_true] at he ⊢
          cases ah:mH (sR P bO) ba.toList with
          | none=>rw [ah] at he;cases he
          | some l=>
            rw [ah] at he
            simp only [G.run] at he
            rw [yb cn ah]
            cases ax:ha z.cells (h7 (du cn) l) with
            | none=>rw [ax] at he;cases he
            | some cs=>rw [ax] at he;exact he
 case buildSlice t n ba=>
  unfold L7 at he
  unfold qJ
  cases aC:aX P t with
  | none=>rw [aC] at he;cases he
  | some aL=>
    rw [aC] at he
    simp only at he ⊢
    cases hu:aL.a_<;>rw [hu] at he<;>simp only at he ⊢<;>try (cases he;done)
    rename_i e
    cases et:aX P e with
    | none=>rw [et] at he;cases he
    | some bc=>
      rw [et] at he
      simp only at he ⊢
      cases bq:bc.zero with
      | none=>rw [bq] at he;cases he
      | some z=>
        rw [bq] at he
        simp only at he ⊢
        cases af:(Nat.ble (n * bc.size) 1000000&&Nat.beq z.cells.length bc.size) with
        | false=>rw [af] at he;cases he
        | true=>
          rw [af] at he
          simp only [cond_true] at he ⊢
          cases ah:mH (fun i=>some (i * bc.size,bc.size)) ba.toList with
          | none=>rw [ah] at he;cases he
          | some l=>
            rw [ah] at he
            simp only [G.run] at he
            rw [yb cn ah]
            exact he
 case load t x=>
  unfold mC
  cases aC:aX P t with
  | none=>rw [aC] at he;cases he
  | some aL=>
    rw [aC] at he
    simp only at he ⊢
    cases bm:aL.agg with
    | true=>rw [bm] at he;simpa only [cond_true,e1,G.run] using he
    | false=>
      rw [bm] at he
      simp only [cond_false] at he ⊢
      cases aQ:Nat.beq aL.size 1 with
      | true=>rw [aQ] at he;simpa only [cond_true,e1,G.run] using he
      | false=>rw [aQ] at he;cases he
 case store t x y=>
  unfold oY
  cases aC:aX P t with
  | none=>rw [aC] at he;cases he
  | some aL=>rw [aC] at he;simpa only [e1,G.run] using he
 case nilCheck x=>simpa only [e1,G.run] using he
 case binOp op t x y t2=>simpa only [e1,G.run,aa4] using he
 case unOp op t x=>simpa only [e1,G.run] using he
 case convert s d x=>simpa only [e1,G.run,aa3] using he
 case makeFunc fn first dO=>
  cases fn<;>simp only at he<;>try (cases he;done)
  simp only
  cases ax:(first.isEmpty&&!Nat.beq _ cM) with
  | true=>rw [ax] at he;simpa only [cond_true,sP,G.run] using he
  | false=>
    rw [ax] at he
    simp only [cond_false] at he ⊢
    cases hn:(dO.isEmpty&&!Nat.beq _ cM) with
    | true=>rw [hn] at he;simpa only [cond_true,sP,G.run] using he
    | false=>rw [hn] at he;cases he
 case typeAssert x qn t ok=>
  cases aC:aX P t with
  | none=>rw [aC] at he;cases he
  | some aL=>
    rw [aC] at he
    simp only at he ⊢
    cases af:Nat.beq (dW aL.a_) 5 with
    | true=>rw [af] at he;cases he
    | false=>rw [af] at he;simpa only [cond_false,e1,G.run] using he
 case makeInterface t x=>
  cases aC:aX P t with
  | none=>rw [aC] at he;cases he
  | some aL=>
    rw [aC] at he
    simp only at he ⊢
    cases af:Nat.beq (dW aL.a_) 5 with
    | true=>rw [af] at he;cases he
    | false=>rw [af] at he;simpa only [cond_false,e1,G.run] using he
 case makeSlice t l c=>
  unfold ze
  cases aC:aX P t with
  | none=>rw [aC] at he;cases he
  | some aL=>
    rw [aC] at he
    simp only at he ⊢
    cases hu:aL.a_<;>rw [hu] at he<;>simp only at he ⊢<;>try (cases he;done)
    rename_i e
    cases et:aX P e with
    | none=>rw [et] at he;cases he
    | some bc=>
      rw [et] at he
      simp only at he ⊢
      cases bq:bc.zero with
      | none=>rw [bq] at he;cases he
      | some z=>
        rw [bq] at he
        simp only at he ⊢
        cases af:Nat.ble bc.bytes 4096 with
        | false=>rw [af] at he;cases he
        | true=>rw [af] at he;simpa only [cond_true,e1,G.run] using he
 case slice t x bJ aB m3=>
  unfold z'
  cases aC:aX P t with
  | none=>rw [aC] at he;cases he
  | some aL=>
    rw [aC] at he
    simp only at he ⊢
    cases hu:aL.a_<;>rw [hu] at he<;>simp only at he ⊢<;>try (cases he;done)
    · simpa only [e1,EU,G.run] using he
    · rename_i e
      cases et:aX P e with
      | none=>rw [et] at he;cases he
      | some bc=>
        rw [et] at he
        simp only [e1,EU,G.run] at he ⊢
        generalize (rx x).aU (du cn)=q at he ⊢
        cases q<;>exact he
 case fieldAddr t x i=>
  unfold x9
  cases ax:nc P t i with
  | none=>rw [ax] at he;cases he
  | some f=>
    rw [ax] at he
    simp only at he ⊢
    cases aC:aX P f.type with
    | none=>rw [aC] at he;cases he
    | some h8=>
      rw [aC] at he
      simp only at he ⊢
      cases af:Nat.beq h8.size 0 with
      | true=>rw [af] at he;cases he
      | false=>rw [af] at he;simpa only [cond_false,e1,G.run] using he
 case field t x i=>
  unfold x'
  cases ax:nc P t i with
  | none=>rw [ax] at he;cases he
  | some f=>
    rw [ax] at he
    simp only [mG] at he ⊢
    cases aC:aX P f.type with
    | none=>rw [aC] at he;cases he
    | some h8=>
      rw [aC] at he
      simp only at he ⊢
      cases af:h8.agg with
      | true=>
        rw [af] at he
        simp only [cond_true,e1,G.run] at he ⊢
        generalize (rx x).aU (du cn)=q at he ⊢
        cases q<;>exact he
      | false=>
        rw [af] at he
        simp only [cond_false,e1,G.run] at he ⊢
        generalize (rx x).aU (du cn)=q at he ⊢
        cases q<;>exact he
 case indexAddr t x i=>
  unfold yX
  cases aC:aX P t with
  | none=>rw [aC] at he;cases he
  | some aL=>
    rw [aC] at he
    simp only at he ⊢
    cases hu:aL.a_<;>rw [hu] at he<;>simp only at he ⊢<;>try (cases he;done)
    all_goals
     rename_i e
     cases et:aX P e with
     | none=>rw [et] at he;cases he
     | some bc=>rw [et] at he;simpa only [e1,G.run] using he
 case index t x i=>
  cases aC:aX P t with
  | none=>rw [aC] at he;cases he
  | some aL=>
    rw [aC] at he
    simp only at he
    cases hu:aL.a_<;>rw [hu] at he<;>simp only [G.run] at he
    case string=>
     unfold oH
     rw [aC]
     simp only [hu]
     simpa only [e1] using he
    all_goals simpa only [e1] using he
 case range t x=>
  unfold zP
  cases aC:aX P t with
  | none=>rw [aC] at he;cases he
  | some aL=>
    rw [aC] at he
    simp only at he ⊢
    cases hu:aL.a_<;>rw [hu] at he<;>simp only at he ⊢<;>try (cases he;done)
    simp only [e1,G.run] at he ⊢
    generalize (rx x).aU (du cn)=q at he ⊢
    cases q<;>exact he
 case next it b=>
  cases b<;>simp only at he<;>try (cases he;done)
  simpa only [cond_true,e1,G.run] using he
 case lookup t x k ok=>
  unfold zc
  cases aC:aX P t with
  | none=>rw [aC] at he;cases he
  | some aL=>
    rw [aC] at he
    simp only at he ⊢
    cases hu:aL.a_<;>rw [hu] at he<;>simp only at he ⊢<;>try (cases he;done)
    rename_i bl e
    cases aA:aX P bl with
    | none=>rw [aA] at he;cases he
    | some fR=>
      rw [aA] at he
      simp only at he ⊢
      cases et:aX P e with
      | none=>rw [et] at he;cases he
      | some bc=>
        rw [et] at he
        simp only at he ⊢
        cases bq:bc.zero with
        | none=>rw [bq] at he;cases he
        | some z=>
          rw [bq] at he
          simp only at he ⊢
          cases hW:rJ fR.a_ with
          | none=>rw [hW] at he;cases he
          | some cD=>
            rw [hW] at he
            obtain ⟨aj,ay⟩:=Ej hW
            simp only [aj,ay,cond_true]
            simpa only [e1,G.run] using he
 case mapUpdate t m k x=>
  unfold lU
  cases aC:aX P t with
  | none=>rw [aC] at he;cases he
  | some aL=>
    rw [aC] at he
    simp only at he ⊢
    cases hu:aL.a_<;>rw [hu] at he<;>simp only at he ⊢<;>try (cases he;done)
    rename_i bl e
    cases aA:aX P bl with
    | none=>rw [aA] at he;cases he
    | some fR=>
      rw [aA] at he
      simp only at he ⊢
      cases hW:rJ fR.a_ with
      | none=>rw [hW] at he;cases he
      | some cD=>
        rw [hW] at he
        obtain ⟨aj,ay⟩:=Ej hW
        simp only [aj,ay,cond_true]
        simpa only [e1,G.run] using he
 case insert t m k x=>
  unfold lU
  cases aC:aX P t with
  | none=>rw [aC] at he;cases he
  | some aL=>
    rw [aC] at he
    simp only at he ⊢
    cases hu:aL.a_<;>rw [hu] at he<;>simp only at he ⊢<;>try (cases he;done)
    rename_i bl e
    cases aA:aX P bl with
    | none=>rw [aA] at he;cases he
    | some fR=>
      rw [aA] at he
      simp only at he ⊢
      cases hW:rJ fR.a_ with
      | none=>rw [hW] at he;cases he
      | some cD=>
        rw [hW] at he
        obtain ⟨aj,ay⟩:=Ej hW
        simp only [aj,ay,cond_true]
        simpa only [e1,G.run] using he
 case makeMap t x=>
  unfold tF
  cases aC:aX P t with
  | none=>rw [aC] at he;cases he
  | some aL=>
    rw [aC] at he
    simp only at he ⊢
    cases af:Nat.beq (dW aL.a_) 3 with
    | false=>rw [af] at he;cases he
    | true=>rw [af] at he;simpa only [cond_true,EU,G.run] using he
 case extract x i=>
  simp only [e1,G.run] at he ⊢
  generalize (rx x).aU (du cn)=q at he ⊢
  cases q<;>exact he
 case call c=>exact aa2 he
end
end Go.Proofs.YtkehcalakofigaaGreatDoor.a1
namespace Go.Proofs.YtkehcalakofigaaGreatDoor.a1
variable [Lay]
open Go Go.RowKit
def eo (P:Program) (f:FuncId) (args:List V) (h:ae) (v:V) (aa:ae):Prop:=
 f≠cM∧(((∃fn,P.funcs[f]? =some fn∧fn.body.isSome=true)∧∀(aw:Fr) E w xs,aY E args xs→aW aw E h w→
  Calls P f xs.toArray w fun e al=>∃av x,e=.returned x∧E.le av∧Rel av v x∧aW aw av aa al)∨
 ∀(aw:Fr) E w xs,aY E args xs→aW aw E h w→∃av x al,(callFunc f xs.toArray).run P w=.ok (.value x) al∧E.le av∧Rel av v x∧aW aw av aa al)
def Gu (P:Program) (args:List V) (b:aO) (h:ae) (v:V) (aa:ae):Prop:=
 ∀(aw:Fr) E w xs p,aY E args xs→aW aw E h w→E b=some p→
  ∃f tmps assign body,(Instr.yield p.bd xs.toArray).run P w=.ok (.round p.bd f tmps assign body) w∧
   RoundIn (bS none) 0 P p.bd f tmps assign body w fun e al=>∃av x,e=.returned x∧E.le av∧Rel av v x∧aW aw av aa al
theorem eo.calls {P:Program} (bw:dJ P) {f:FuncId} {args:List V} {h aa:ae} {v:V} (H:eo P f args h v aa) (af:∃fn,P.funcs[f]? =some fn∧fn.body.isSome=true) (aw:Fr) (E:Env) (w:World) (xs:List Value) (ao:aY E args xs) (s:aW aw E h w):
 Calls P f xs.toArray w fun e al=>∃av x,e=.returned x∧E.le av∧Rel av v x∧aW aw av aa al:=by
 rcases H.2 with ⟨_,H⟩ | H
 · exact H aw E w xs ao s
 · obtain ⟨av,x,al,aG,_⟩:=H aw E w xs ao s
   obtain ⟨fn,U,ad⟩:=af
   rw [qe bw U ad] at aG
   cases aG
def bF (P:Program) (f:FuncId) (args:List V) (h:ae) (K:V→ae→Prop):Prop:=∃v aa,eo P f args h v aa∧K v aa
def xu (P:Program) (args:List V) (b:aO) (h:ae) (K:V→ae→Prop):Prop:=∃v aa,Gu P args b h v aa∧K v aa
def Gv (P:Program) (xs:List V) (h:ae) (K:V→ae→Prop):Prop:=∃b2 b,xs=b2++[.ptr b 0]∧xu P b2 b h K
def F5 (P:Program) (g:FuncId) (xs:List V) (h:ae) (K:V→ae→Prop):Prop:=if g=cM then Gv P xs h K else bF P g xs h K
def V.target (v:V) (args:List V):Option (FuncId × List V):=
 match v with
 | .func g cs=>some (g,args++cs)
 | .jW g cs=>some (g,cs++args)
 | _=>none
theorem Lc {v:V} {args xs:List V} {g:FuncId} (h:v.target args=some (g,xs)) (F:FuncId→List V→aT):v.tQ args F=F g xs:=by
 cases v<;>simp only [V.target] at h<;>try (cases h;done)
 all_goals (simp only [Option.some.injEq,Prod.mk.injEq] at h;obtain ⟨rfl,rfl⟩:=h;rfl)
theorem bF.mono {P:Program} {f:FuncId} {args:List V} {h:ae} {K kI:V→ae→Prop} (c:bF P f args h K) (aA:∀v aa,K v aa→kI v aa):bF P f args h kI:=by
 obtain ⟨v,aa,aj,ay⟩:=c
 exact ⟨v,aa,aj,aA v aa ay⟩
def iS:c9:=fun _ _ _=>.fail
theorem zj (P:Program):ff P iS∧fm P iS:=
 ⟨⟨fun _ f args h v aa _ he=>by simp [iS] at he,fun _ f args h v aa _ he=>by simp [iS] at he,fun _ args b h v aa he=>by simp [iS] at he,fun args h v aa he=>by simp [iS] at he⟩,fun f args h v aa he=>by simp [iS] at he⟩
open Classical in
noncomputable def kx (f:FuncId) (args:List V) (h:ae) (v:V) (aa:ae):c9:=
 fun f1 bK U=>if f1=f∧bK=args∧U=h then .val v aa else .fail
theorem Lj {P:Program} {f:FuncId} {args:List V} {h aa:ae} {v:V} (H:eo P f args h v aa):ff P (kx f args h v aa)∧fm P (kx f args h v aa):=by
 refine ⟨⟨fun aw f1 bK U v1 e5 _ he=>?_,fun aw f1 bK U v1 e5 _ he=>?_,fun aw bK b U v1 e5 he=>?_,fun bK U v1 e5 he=>?_⟩,fun f1 bK U v1 e5 he=>?_⟩
 · unfold kx at he
   split at he
   · rename_i ar
     obtain ⟨rfl,rfl,rfl⟩:=ar
     simp only [aT.val.injEq] at he
     obtain ⟨rfl,rfl⟩:=he
     intro E w xs ao s
     rcases H.2 with H | H
     · exact .inl ⟨H.1,H.2 aw E w xs ao s⟩
     · exact .inr (H aw E w xs ao s)
   · cases he
 · unfold kx at he
   split at he<;>cases he
 · unfold kx at he
   split at he
   · rename_i ar
     exact absurd ar.1.symm H.1
   · cases he
 · unfold kx at he
   split at he<;>cases he
 · trivial
theorem abN {xs b2:List V} {x y:V} (h:xs++[x]=b2++[y]):xs=b2∧x=y:=by
 have:=List.append_inj' h rfl
 exact ⟨this.1,by simpa using this.2⟩
theorem aak {P:Program} {args:List V} {b:aO} {h aa:ae} {v:V} (H:Gu P args b h v aa):ff P (kx cM (args++[.ptr b 0]) h v aa)∧fm P (kx cM (args++[.ptr b 0]) h v aa):=by
 refine ⟨⟨fun aw f1 bK U v1 e5 c8 he=>?_,fun aw f1 bK U v1 e5 _ he=>?_,fun aw bK bL U v1 e5 he=>?_,fun bK U v1 e5 he=>?_⟩,fun f1 bK U v1 e5 he=>?_⟩
 · unfold kx at he
   split at he
   · rename_i ar
     exact absurd ar.1 c8
   · cases he
 · unfold kx at he
   split at he<;>cases he
 · unfold kx at he
   split at he
   · rename_i ar
     obtain ⟨_,ar,rfl⟩:=ar
     obtain ⟨rfl,af⟩:=abN ar
     simp only [V.ptr.injEq,and_true] at af
     subst af
     simp only [aT.val.injEq] at he
     obtain ⟨rfl,rfl⟩:=he
     exact fun E w xs p ao s ah=>H aw E w xs p ao s ah
   · cases he
 · unfold kx at he
   split at he<;>cases he
 · trivial
theorem EV {f:FuncId} {args:List V} {h aa:ae} {v:V}:kx f args h v aa f args h=.val v aa:=by
 unfold kx
 rw [if_pos ⟨rfl,rfl,rfl⟩]
def aS.set (r:aS) (d:Option Nat) (v:V):aS:=
 match d with
 | none=>r
 | some d=>fun t=>if t=d then v else r t
def aS.trim (r:aS):List Nat→aS
 | [],_=>.bad
 | u::us,t=>if t=u then r t else aS.trim r us t
def aS.bk:List V→aS
 | [],_=>.bad
 | v::ab,t=>if t=0 then v else aS.bk ab (t-1)
noncomputable def wW (r:aS):List Nat→bo
 | []=>.e
 | t::cc=>T.put .bad (r t) (aH t) (wW r cc)
theorem ML (r:aS):∀cc:List Nat,du (wW r cc)=aS.trim r cc
 | []=>by funext t;simp [du,wW,aS.trim]
 | u::cc=>by
   funext t
   have bh:=congrFun (ML r cc) t
   simp only [du] at bh
   simp only [du,wW,aS.trim,T.gn]
   by_cases h:t=u
   · subst h;simp
   · rw [if_neg (fun e=>h (gT e).symm),if_neg h]
     exact bh
theorem Ak (cn:bo):∀cc:List Nat,du (cX cn cc)=aS.trim (du cn) cc
 | []=>by funext t;simp [du,cX,aS.trim]
 | u::cc=>by
   funext t
   have bh:=congrFun (Ak cn cc) t
   simp only [du] at bh
   simp only [du,cX,aS.trim,T.gn]
   by_cases h:t=u
   · subst h;simp
   · rw [if_neg (fun e=>h (gT e).symm),if_neg h]
     exact bh
theorem FP {r:aS}:∀{cc:List Nat} {t:Nat},t ∈ cc→aS.trim r cc t=r t
 | [],t,h=>by simp at h
 | u::cc,t,h=>by
   simp only [aS.trim]
   by_cases hu:t=u
   · rw [if_pos hu]
   · rw [if_neg hu]
     simp only [List.mem_cons] at h
     exact FP (h.resolve_left hu)
theorem MN {r:aS}:∀{cc:List Nat} {t:Nat},t ∉ cc→aS.trim r cc t=.bad
 | [],t,_=>rfl
 | u::cc,t,h=>by
   simp only [List.mem_cons,not_or] at h
   simp only [aS.trim]
   rw [if_neg h.1]
   exact MN h.2
theorem zH (d:Option Nat) (cn:bo) (v:V):du ((eA d).run cn v)=(du cn).set d v:=by
 cases d with
 | none=>rfl
 | some d=>
   funext t
   simp only [du,eA,aS.set,T.gn]
   by_cases h:t=d
   · subst h;simp
   · rw [if_neg (fun e=>h (gT e).symm),if_neg h]
abbrev d_:Nat:=17179869185
def Out (an:Nat) (r:aS):Prop:=∀t,an≤t→t≠d_→r t=.bad
theorem x7 {an:Nat} {r:aS} (aP:Out an r):∃cn,du cn=r:=by
 refine ⟨wW r (d_::List.range an),?_⟩
 rw [ML]
 funext t
 by_cases h:t<an
 · exact FP (List.mem_cons_of_mem _ (List.mem_range.2 h))
 · by_cases ad:t=d_
   · exact FP (by rw [ad];exact List.mem_cons_self)
   · rw [MN (by simp only [List.mem_cons,List.mem_range,not_or];exact ⟨ad,h⟩),aP t (by omega) ad]
theorem Out.set {an:Nat} {r:aS} (aP:Out an r) {d:Option Nat} (aV:ei an d=true) (v:V):Out an (r.set d v):=by
 intro t aC aQ
 cases d with
 | none=>exact aP t aC aQ
 | some d=>
   simp only [ei,Bool.and_eq_true,Nat.blt_eq] at aV
   simp only [aS.set]
   rw [if_neg (by omega)]
   exact aP t aC aQ
theorem FA {an:Nat} {r:aS} {d:Option Nat} (aV:ei an d=true) (v:V):r.set d v d_=r d_:=by
 cases d with
 | none=>rfl
 | some d=>
   simp only [ei,Bool.and_eq_true,Nat.blt_eq,Nat.ble_eq] at aV
   simp only [aS.set]
   rw [if_neg (by have:=aV.2;unfold top at this;unfold d_;omega)]
structure h3 (E:Env) (an:Nat) (r:aS) (a:Act):Prop where
 size:a.tmps.size=an
 defers:iY E (r d_) a.defers
 aq:∀t,t≠d_→Rel E (r t) (a.tmps.getD t undef)
theorem tK {t:Nat} (h:t≤top):t≠d_:=by unfold top at h;unfold d_;omega
theorem h3.mono {E av:Env} (h:E.le av) {an:Nat} {r:aS} {a:Act} (k:h3 E an r a):h3 av an r a:=
 ⟨k.size,k.defers.mono h,fun t aC=>Rel.mono h _ _ (k.aq t aC)⟩
theorem h3.put {E av:Env} (h:E.le av) {an:Nat} {r:aS} {a:Act} (k:h3 E an r a) {d:Option Nat} (aV:ei an d=true) {v:V} {x:Value} (ao:Rel av v x):h3 av an (r.set d v) (a.put d x):=by
 cases d with
 | none=>exact k.mono h
 | some d=>
   have aQ:=FA (r:=r) aV v
   simp only [ei,Bool.and_eq_true,Nat.blt_eq] at aV
   refine ⟨by simp [Act.put,k.size],by rw [aQ];exact k.defers.mono h,fun t ev=>?_⟩
   simp only [aS.set,Act.put]
   rw [Array.getD_eq_getD_getElem?,Array.getElem?_setIfInBounds]
   by_cases aC:t=d
   · subst aC
     rw [if_pos rfl,if_pos rfl,if_pos (by rw [k.size];exact aV.1)]
     exact ao
   · rw [if_neg aC,if_neg (fun e=>aC e.symm),←Array.getD_eq_getD_getElem?]
     exact Rel.mono h _ _ (k.aq t ev)
noncomputable def G.wp (P:Program) (g:G) (r:aS) (h:ae) (K:V→ae→Prop):Prop:=
 match g with
 | .call f args=>bF P f (aR.eL r args) h K
 | .ll f args=>∃g xs,(f.aU r).target (aR.eL r args)=some (g,xs)∧F5 P g xs h K
 | g=>∃v aa,g.run P iS r h=.val v aa∧K v aa
theorem G.uq {P:Program} {g:G} {r:aS} {h:ae} {K:V→ae→Prop} (H:g.wp P r h K):∃call v aa,(ff P call∧fm P call)∧g.run P call r h=.val v aa∧K v aa:=by
 cases g
 case call f args=>
  obtain ⟨v,aa,aj,ay⟩:=H
  exact ⟨_,v,aa,Lj aj,EV,ay⟩
 case ll f args=>
  obtain ⟨g,xs,ax,H⟩:=H
  unfold F5 at H
  split at H
  rotate_left
  · obtain ⟨v,aa,aj,ay⟩:=H
    refine ⟨_,v,aa,Lj aj,?_,ay⟩
    simp only [G.run]
    rw [Lc ax]
    exact EV
  · rename_i aD
    subst aD
    obtain ⟨b2,b,rfl,v,aa,aj,ay⟩:=H
    refine ⟨_,v,aa,aak aj,?_,ay⟩
    simp only [G.run]
    rw [Lc ax]
    exact EV
 all_goals
  obtain ⟨v,aa,aj,ay⟩:=H
  exact ⟨iS,v,aa,zj P,aj,ay⟩
structure bs where
 dst:Option Nat
 g:G
 CD:Option (Nat × Bool)
 rs:List Nat
def bs.bad:bs:=⟨none,.bad,none,[]⟩
def gate (v:V) (want:Bool) (A B:Prop):Prop:=
 match v with
 | .bool b=>(b=want→A)∧(b=!want→B)
 | .tuple _=>B
 | _=>False
noncomputable def bs.wp (P:Program) (o:bs) (r:aS) (h:ae) (K:aS→V→ae→Prop):Prop:=
 match o.CD with
 | none=>o.g.wp P (r.trim o.rs) h fun v aa=>K (r.set o.dst v) v aa
 | some (d,want)=>gate (r.trim o.rs d) want (o.g.wp P (r.trim o.rs) h fun v aa=>K (r.set o.dst v) v aa) (K (r.set o.dst (.tuple [])) (.tuple []) h)
def zU (P:Program) (an:Nat) (all:Array Oper) (o:Oper):bs:=
 bif ei an o.dst&&ir (bP all o) then
  match o.guard with
  | none=>⟨o.dst,zT P o.op,none,bP all o⟩
  | some (j,want)=>match all[j]? with
    | some g=>match g.dst with
      | some d=>bif Nat.blt d an&&Nat.ble d top then ⟨o.dst,zT P o.op,some (d,want),bP all o⟩ else bs.bad
      | none=>bs.bad
    | none=>bs.bad
 else bs.bad
def oS (P:Program) (an:Nat) (all:Array Oper):List Oper→List bs
 | []=>[]
 | o::os=>zU P an all o::oS P an all os
theorem L6 (P:Program) (an:Nat) (all:Array Oper):∀l:List Oper,oS P an all l=l.map (zU P an all)
 | []=>rfl
 | o::os=>by simp [oS,L6 P an all os]
theorem bs.xE {P:Program} {r:aS} {h:ae} {K:aS→V→ae→Prop}:¬bs.bad.wp P r h K:=by
 rintro ⟨v,aa,q,_⟩
 cases q
theorem bs.uq {P:Program} {an:Nat} {all:Array Oper} {o:Oper} {r:aS} {h:ae} {K:aS→V→ae→Prop} (H:(zU P an all o).wp P r h K):
 ∃call v aa,(ff P call∧fm P call)∧ei an o.dst=true∧K (r.set o.dst v) v aa∧∀cn,du cn=r→(b8 P an all o).run call cn h=.val v aa:=by
 unfold zU at H
 cases ar:(ei an o.dst&&ir (bP all o)) with
 | false=>rw [ar] at H;exact absurd H bs.xE
 | true=>
   have aV:ei an o.dst=true:=by simp only [Bool.and_eq_true] at ar;exact ar.1
   rw [ar] at H
   simp only [cond_true] at H
   cases aD:o.guard with
   | none=>
     rw [aD] at H
     obtain ⟨call,v,aa,aj,ay,aK⟩:=G.uq H
     refine ⟨call,v,aa,aj,aV,aK,fun cn dz=>?_⟩
     unfold b8
     rw [ar]
     simp only [cond_true,aD,g_]
     refine L5 ?_
     rw [Ak,dz]
     exact ay
   | some mw=>
     obtain ⟨j,want⟩:=mw
     rw [aD] at H
     simp only at H
     cases bH:all[j]? with
     | none=>rw [bH] at H;exact absurd H bs.xE
     | some g=>
       rw [bH] at H
       simp only at H
       cases h9:g.dst with
       | none=>rw [h9] at H;exact absurd H bs.xE
       | some d=>
         rw [h9] at H
         simp only at H
         cases af:(Nat.blt d an&&Nat.ble d top) with
         | false=>rw [af] at H;exact absurd H bs.xE
         | true=>
           rw [af] at H
           simp only [cond_true,bs.wp] at H
           have key:b8 P an all o=⟨g_ (some (lr (aH d),want)) (eg P o) (bP all o)⟩:=by
            unfold b8
            rw [ar]
            simp only [cond_true,aD,bH,h9,af]
           have C7:∀cn,du cn=r→(lr (aH d)).run (cX cn (bP all o))=r.trim (bP all o) d:=by
            intro cn dz
            rw [←dz,←Ak]
            rfl
           cases bx:r.trim (bP all o) d<;>rw [bx] at H<;>simp only [gate] at H
           case bool b=>
            by_cases I1:b=want
            · obtain ⟨call,v,aa,aj,ay,aK⟩:=G.uq (H.1 I1)
              refine ⟨call,v,aa,aj,aV,aK,fun cn dz=>?_⟩
              rw [key]
              simp only [g_,C7 cn dz,bx]
              rw [show (bif want then b else !b)=true from by subst I1;cases b<;>rfl]
              simp only [cond_true]
              refine L5 ?_
              rw [Ak,dz]
              exact ay
            · have IZ:b=!want:=by cases b<;>cases want<;>simp_all
              refine ⟨iS,.tuple [],h,zj P,aV,H.2 IZ,fun cn dz=>?_⟩
              rw [key]
              simp only [g_,C7 cn dz,bx]
              rw [show (bif want then b else !b)=false from by subst IZ;cases want<;>rfl]
              rfl
           case tuple ab=>
            refine ⟨iS,.tuple [],h,zj P,aV,H,fun cn dz=>?_⟩
            rw [key]
            simp only [g_,C7 cn dz,bx]
noncomputable def o8 (P:Program):List bs→aS→ae→(aS→ae→Prop)→Prop
 | [],r,h,K=>K r h
 | o::os,r,h,K=>o.wp P r h fun bn _ aa=>o8 P os bn aa K
structure eY where
 r:aS
 h:ae
 v:V
noncomputable def iX (P:Program):List bs→aS→ae→(List eY→aS→ae→Prop)→Prop
 | [],r,h,K=>K [] r h
 | o::os,r,h,K=>o.wp P r h fun bn v aa=>iX P os bn aa fun es cv ax=>K (⟨r,h,v⟩::es) cv ax
def s' (es:List eY) (ax:ae) (i:Nat):ae:=
 match es[i]? with
 | some e=>e.h
 | none=>ax
noncomputable def nY (P:Program) (o:Option bs) (e:Option eY) (es:List eY) (ax:ae):List Nat→Prop
 | []=>True
 | s::eO=>(match o,e with
   | some o,some e=>o.wp P e.r (s' es ax s) fun _ fI _=>fI=e.v
   | _,_=>False)∧nY P o e es ax eO
noncomputable def l1 (P:Program) (ops:List bs) (es:List eY) (ax:ae):List (Nat × List Nat)→Prop
 | []=>True
 | (p,eO)::rest=>nY P ops[p]? es[p]? es ax eO∧l1 P ops es ax rest
inductive bB where
 | bad
 | skip
 | aq (ops:List bs)
 | draw (ops:List bs) (asks:List (Nat × List Nat))
 | seq (a b:bB)
 | cond (c:aR) (a b:bB)
 | block (id:Nat) (b:bB)
 | loop (b:bB)
 | exit (id:Nat)
 | ret
 | range (f:aR) (ba:List Nat) (an:Nat) (a b:bB)
def sB (P:Program) (ops:List Oper) (de az dD:List Nat):Nat→List Oper→List (Nat × List Nat)
 | _,[]=>[]
 | i,o::os=>bif looks o.op&&!dU P o.op then
    (posOf az i,dD.filter (oN P de ops az i ((de[i]?).getD 0)))::sB P ops de az dD (i+1) os
   else sB P ops de az dD (i+1) os
def Fm (P:Program) (an:Nat) (ops:Array Oper) (order az:List Nat):bB:=
 bif jv ops.size order az&&sI P ops az then
  .draw (oS P an ops (fF ops order)) (bif nV P ops.toList then sB P ops.toList (dM [] ops.toList) az (fT P az 0 ops.toList) 0 ops.toList else [])
 else .bad
def b6 (P:Program) (an:Nat):Code→bB
 | .skip=>.skip
 | .label _=>.skip
 | .region _ ops draw=>bif draw then Fm P an ops (wA P ops) (zE (wA P ops) 0 ops.toList) else .aq (oS P an ops ops.toList)
 | .seq a b=>.seq (b6 P an a) (b6 P an b)
 | .cond c a b=>.cond (rx c) (b6 P an a) (b6 P an b)
 | .block id b=>.block id (b6 P an b)
 | .loop b=>.loop (b6 P an b)
 | .exit id=>.exit id
 | .ret=>.ret
 | .scope b=>b6 P an b
 | .rangeFunc f ba a b=>bif lO an ba.toList&&(noMark a&&noMark b) then .range (rx f) ba.toList an (b6 P an a) (b6 P an b) else .bad
 | _=>.bad
structure xo (P:Program) (l:lZ) (an:Nat) (r:aS) (ba:List Nat) (wM zQ:bB):Prop where
 a7:l.an=an
 aG:du l.r=r
 ah:l.ba=ba
 bm:b6 P an l.assign=wM
 af:b6 P an l.body=zQ
 ke:lO an ba=true
 ad8:noMark l.assign=true
 ad9:noMark l.body=true
 out:Out an r
def lZ.go (l:lZ) (st:Nat) (ew:Option cY):lZ:=⟨st,ew,l.d,l.an,l.r,l.ba,l.assign,l.body⟩
def aS.tT:List Nat→List V→aS→aS
 | p::ba,v::ab,r=>aS.tT ba ab (r.set (some p) v)
 | _,_,r=>r
def qd (ba:List Nat) (ab:List V) (r:aS):aS:=(aS.tT ba ab r).set (some d_) .bad
def cY.andThen:cY→Prop→Prop→Prop
 | .normal,A,_=>A
 | _,_,B=>B
def cY.leave (id:Nat):cY→cY
 | .exit i=>if i=id then .normal else .exit i
 | e=>e
noncomputable def b5 (P:Program):bB→aS→ae→(cY→aS→ae→Prop)→Prop
 | .bad,_,_,_=>False
 | .skip,r,h,Q=>Q .normal r h
 | .aq ops,r,h,Q=>o8 P ops r h (Q .normal)
 | .draw ops asks,r,h,Q=>iX P ops r h fun es cv ax=>l1 P ops es ax asks∧Q .normal cv ax
 | .seq a b,r,h,Q=>b5 P a r h fun e bn aa=>e.andThen (b5 P b bn aa Q) (Q e bn aa)
 | .cond c a b,r,h,Q=>match c.aU r with
   | .bool t=>(t=true→b5 P a r h Q)∧(t=false→b5 P b r h Q)
   | _=>False
 | .block id b,r,h,Q=>b5 P b r h fun e bn aa=>Q (e.leave id) bn aa
 | .loop b,r,h,Q=>∃(I:aS→ae→Prop) (μ:aS→ae→Nat),I r h∧∀r h,I r h→b5 P b r h fun e bn aa=>e.andThen (I bn aa∧μ bn aa<μ r h) (Q e bn aa)
 | .exit id,r,h,Q=>Q (.exit id) r h
 | .ret,r,h,Q=>Q .ret r h
 | .range f ba an a b,r,h,Q=>∃g cs,f.aU r=.func g cs∧g≠cM∧(∃fn,P.funcs[g]? =some fn∧fn.body.isSome=true)∧∀l,xo P l an r ba a b→l.st=0→l.ew=none→
    bF P g (.func cM [.ptr (aH (h.next+1)) 0]::cs) ((h.new .e0).new (.dv l)) fun _ aa=>
     ∃dZ,aa.get (aH (h.next+1))=.dv dZ∧dZ.st≠1∧Q (dZ.ew.getD .normal) (r.set (some d_) (.tuple (.ptr (aH h.next) 0::(r d_).list))) (aa.set (aH (h.next+1)) .dead)
def bB.plain:bB→Bool
 | .seq a b=>a.plain&&b.plain
 | .cond _ a b=>a.plain&&b.plain
 | .block _ b=>b.plain
 | .loop b=>b.plain
 | .range _ _ _ _ _=>false
 | _=>true
def w4 (P:Program) (an:Nat) (c:Code) (r:aS) (h:ae) (e:cY) (bn:aS) (aa:ae):Prop:=
 ∀(rd:Option Nat) (aw:Fr) E a w,(rd=none∨noMark c=true)→h3 E an r a→aW aw E h w→∀Q:Exit→Act→World→Prop,
  (∀av bf al,E.le av→h3 av an bn bf→aW aw av aa al→Q (toExit e) bf al)→Al rd P c Q a w
section
variable {P:Program} {an:Nat}
theorem M8 (bw:dJ P) {all:Array Oper}:∀(l:List Oper) (i:Nat),(∀j,l[j]? =all[i+j]?)→∀(r:aS) (h:ae) (K:aS→ae→Prop),Out an r→o8 P (oS P an all l) r h K→
 ∃bn aa,K bn aa∧(Out an bn∧bn d_=r d_)∧∀(rd:Option Nat) (aw:Fr) E a w,h3 E an r a→aW aw E h w→∀Q:Exit→Act→World→Prop,
  (∀av bf al,E.le av→h3 av an bn bf→aW aw av aa al→Q .normal bf al)→wpOpsIn (bS rd) 0 P all Q (List.range' i l.length) a w
 | [],i,_,r,h,K,aP,H=>by
   refine ⟨r,h,H,⟨aP,rfl⟩,fun rd aw E a w k s Q cS=>?_⟩
   simp only [List.length_nil,List.range'_zero,wpOpsIn]
   exact cS E a w (Env.le.refl E) k s
 | o::os,i,ai,r,h,K,aP,H=>by
   have aB:all[i]? =some o:=by have:=ai 0;simpa using this.symm
   simp only [oS,o8] at H
   obtain ⟨call,v,U,ar,aV,H1,cu⟩:=bs.uq H
   obtain ⟨cW,ad,aj,ay,aK⟩:=M8 bw os (i+1) (fun j=>by
    have:=ai (j+1)
    simp only [List.getElem?_cons_succ] at this
    rw [this]
    congr 1
    omega) _ U K (aP.set aV v) H1
   refine ⟨cW,ad,aj,⟨ay.1,ay.2.trans (FA aV v)⟩,fun rd aw E a w k s Q cS=>?_⟩
   obtain ⟨cn,dz⟩:=x7 aP
   rw [List.length_cons,List.range'_succ,wpOpsIn_cons]
   refine mW bw ar.1 ar.2 aB (cu cn dz) k.size (fun t aC=>?_) s fun av x al b1 b' d'=>?_
   · have:=congrFun dz t
     simp only [du] at this
     rw [this]
     exact k.aq t (tK (Nat.le_of_ble_eq_true (List.all_eq_true.1 (h5 (cu cn dz)).2 t aC)))
   · exact aK rd aw av _ al (k.put b1 aV b') d' Q fun bN a2 bI cd z2 z3=>cS bN a2 bI (b1.trans cd) z2 z3
noncomputable def toF (e:dS):eY:=⟨du e.r,e.h,e.v⟩
theorem UI (es:List dS) (ax:ae) (i:Nat):s' (es.map toF) ax i=bW es ax i:=by
 unfold s' bW
 rw [List.getElem?_map]
 cases es[i]? <;>rfl
theorem M7 {all:Array Oper}:∀(l:List Oper) (j6:bo) (h:ae) (K:List eY→aS→ae→Prop),iX P (oS P an all l) (du j6) h K→Out an (du j6)→
 ∃es lg ax,K (es.map toF) (du lg) ax∧(Out an (du lg)∧du lg d_=du j6 d_)∧es.length=l.length∧bW es ax 0=h∧dw es lg 0=j6∧
  ∀j o,l[j]? =some o→∃e call,es[j]? =some e∧(ff P call∧fm P call)∧(b8 P an all o).run call e.r e.h=.val e.v (bW es ax (j+1))∧dw es lg (j+1)=(eA o.dst).run e.r e.v
 | [],j6,h,K,H,aP=>⟨[],j6,h,H,⟨aP,rfl⟩,rfl,rfl,rfl,fun j o bH=>by simp at bH⟩
 | o::os,j6,h,K,H,aP=>by
   simp only [oS,iX] at H
   obtain ⟨call,v,U,ar,aV,H1,cu⟩:=bs.uq H
   rw [←zH] at H1
   obtain ⟨es,lg,ax,aj,ay,aK,bE,dh,eW⟩:=M7 os _ U _ H1 (by rw [zH];exact aP.set aV v)
   refine ⟨⟨j6,h,v⟩::es,lg,ax,aj,⟨ay.1,ay.2.trans (by rw [zH];exact FA aV v)⟩,by simp [aK],by simp [bW],by simp [dw],fun j bU bH=>?_⟩
   cases j with
   | zero=>
     simp only [List.getElem?_cons_zero,Option.some.injEq] at bH
     subst bH
     exact ⟨⟨j6,h,v⟩,call,rfl,ar,by rw [s9,bE];exact cu j6 rfl,by rw [t_,dh]⟩
   | succ j=>
     obtain ⟨e,c,b1,b',d',hL⟩:=eW j bU (by simpa using bH)
     exact ⟨e,c,by simpa using b1,b',by rw [s9];exact d',by rw [t_];exact hL⟩
theorem GJ {o:Option bs} {e:Option eY} {es:List eY} {ax:ae}:∀{eO:List Nat},nY P o e es ax eO→∀s ∈ eO,∃bU cQ,o=some bU∧e=some cQ∧bU.wp P cQ.r (s' es ax s) fun _ fI _=>fI=cQ.v
 | [],_,s,h=>by simp at h
 | fG::eO,H,s,hm=>by
   simp only [nY] at H
   simp only [List.mem_cons] at hm
   rcases hm with rfl | hm
   · cases o with
     | none=>exact H.1.elim
     | some o=>
       cases e with
       | none=>exact H.1.elim
       | some e=>exact ⟨o,e,rfl,rfl,H.1⟩
   · exact GJ H.2 s hm
theorem GM {ops:List Oper} {de az dD:List Nat} {gs:List bs} {es:List eY} {ax:ae}:∀{l:List Oper} {i:Nat},l1 P gs es ax (sB P ops de az dD i l)→∀j o,l[j]? =some o→looks o.op=true→dU P o.op=false→
 nY P gs[posOf az (i+j)]? es[posOf az (i+j)]? es ax (dD.filter (oN P de ops az (i+j) ((de[i+j]?).getD 0)))
 | [],i,_,j,o,h,_,_=>by simp at h
 | bU::os,i,H,j,o,h,U,ad=>by
   simp only [sB] at H
   cases j with
   | zero=>
     simp only [List.getElem?_cons_zero,Option.some.injEq] at h
     subst h
     rw [U,ad] at H
     simp only [Bool.not_false,Bool.and_true,cond_true,l1] at H
     exact H.1
   | succ j=>
     have iZ:l1 P gs es ax (sB P ops de az dD (i+1) os):=by
      cases ar:(looks bU.op&&!dU P bU.op) with
      | true=>rw [ar] at H;simp only [cond_true,l1] at H;exact H.2
      | false=>rw [ar] at H;exact H
     have:=GM iZ j o (by simpa using h) U ad
     rw [show i+1+j=i + (j+1) from by omega] at this
     exact this
theorem SK (fs:an≤top) (cR:P.follows .mixedOrders=true) (bw:dJ P) {id:Nat} {ops:Array Oper} {order az:List Nat} {r:aS} {h:ae} {Q:cY→aS→ae→Prop} (aP:Out an r)
 (H:b5 P (Fm P an ops order az) r h Q):∃bn aa,Q .normal bn aa∧(Out an bn∧bn d_=r d_)∧w4 P an (.region id ops true) r h .normal bn aa:=by
 unfold Fm at H
 cases ax:(jv ops.size order az&&sI P ops az) with
 | false=>rw [ax] at H;exact H.elim
 | true=>
   rw [ax] at H
   simp only [cond_true,b5] at H
   simp only [Bool.and_eq_true] at ax
   obtain ⟨fi,fB⟩:=ax
   unfold jv at fi
   simp only [Bool.and_eq_true,Nat.beq_eq] at fi
   obtain ⟨lA,tf,vw,vx⟩:=fi
   have gy:∀k,k<ops.size→posOf az k<ops.size∧order[posOf az k]? =some k:=by
    intro k aA
    have aD:az[k]? =some (posOf az k):=by
     unfold posOf
     rw [List.getElem?_eq_getElem (by omega)]
     rfl
    have:=p8 vw aD
    rw [Nat.zero_add] at this
    exact ⟨by have:=(List.getElem?_eq_some_iff.1 this).1;omega,this⟩
   have iU:∀p,p<ops.size→∃i,i<ops.size∧posOf az i=p:=by
    intro p ah
    have aD:order[p]? =some (order[p]'(by omega)):=List.getElem?_eq_getElem (by omega)
    have:=p8 vx aD
    rw [Nat.zero_add] at this
    refine ⟨order[p]'(by omega),by have:=(List.getElem?_eq_some_iff.1 this).1;omega,?_⟩
    unfold posOf
    rw [this]
    rfl
   obtain ⟨j6,yq⟩:=x7 aP
   rw [←yq] at H aP
   obtain ⟨es,lg,a6,⟨vg,cS⟩,⟨oz,JG⟩,aj,ay,aK,bE⟩:=M7 _ j6 h _ H aP
   refine ⟨_,a6,cS,⟨oz,by rw [←yq];exact JG⟩,fun rd aw E a w aG k s gA CP=>?_⟩
   have step:∀i:Nat,∃call,(ff P call∧fm P call)∧∀o,ops[i]? =some o→∃e,es[posOf az i]? =some e∧(b8 P an ops o).run call e.r e.h=.val e.v (bW es a6 (posOf az i+1))∧dw es lg (posOf az i+1)=(eA o.dst).run e.r e.v:=by
    intro i
    cases aB:ops[i]? with
    | none=>exact ⟨iS,zj P,fun o h=>by cases h⟩
    | some o=>
      obtain ⟨e,call,b1,b',d',hL⟩:=bE _ o (kv (gy i (Array.getElem?_eq_some_iff.1 aB).1).2 aB)
      exact ⟨call,b',fun bU fO=>by cases fO;exact ⟨e,b1,d',hL⟩⟩
   obtain ⟨calls,s7⟩:=Classical.axiomOfChoice step
   have pC:∀j o,ops[j]? =some o→looks o.op=true→dU P o.op=false→∃e,es[posOf az j]? =some e∧∀s ∈ fT P az 0 ops.toList,
    oN P (dM [] ops.toList) ops.toList az j (((dM [] ops.toList)[j]?).getD 0) s=true→∃c aa,(ff P c∧fm P c)∧(b8 P an ops o).run c e.r (bW es a6 s)=.val e.v aa:=by
    intro j o ni dL UN
    have bH:=(Array.getElem?_eq_some_iff.1 ni).1
    obtain ⟨e,b1,b',d'⟩:=(s7 j).2 o ni
    refine ⟨e,b1,fun s aQ hm=>?_⟩
    cases ai:nV P ops.toList with
    | true=>
      rw [ai] at vg
      simp only [cond_true] at vg
      have:=GM vg j o (by simpa using ni) dL UN
      rw [Nat.zero_add] at this
      obtain ⟨bU,cQ,cd,z2,z3⟩:=GJ this s (List.mem_filter.2 ⟨aQ,hm⟩)
      rw [L6,List.getElem?_map,kv (gy j bH).2 ni] at cd
      simp only [Option.map_some,Option.some.injEq] at cd
      rw [List.getElem?_map,b1] at z2
      simp only [Option.map_some,Option.some.injEq] at z2
      subst cd;subst z2
      rw [UI] at z3
      obtain ⟨c,v,aa,ed,_,y3,y4⟩:=bs.uq z3
      have M_:=y4 e.r rfl
      rw [show v=e.v from y3] at M_
      exact ⟨c,aa,ed,M_⟩
    | false=>
      have none:∀(l:List Oper),nV P l=false→∀(j:Nat) (o:Oper),l[j]? =some o→dU P o.op=false:=by
       intro l
       induction l with
       | nil=>intro _ j o h;simp at h
       | cons x l bh=>
         intro h j o aP
         simp only [nV,Bool.or_eq_false_iff] at h
         cases j with
         | zero=>simp only [List.getElem?_cons_zero,Option.some.injEq] at aP;subst aP;exact h.1
         | succ j=>exact bh h.2 j o (by simpa using aP)
      have hp:s=ops.size:=by
       rcases pX aQ with h | ⟨y2,bU,U,ad,aI⟩
       · simpa using h
       · have:=none _ ai y2 bU U
         unfold dr at ad
         rw [this] at ad
         cases ad
      have flat:∀d,d≤ops.size→bW es a6 d=bW es a6 0:=by
       intro d
       induction d with
       | zero=>intro _;rfl
       | succ d bh=>
         intro aV
         obtain ⟨i,rb,kR⟩:=iU d (by omega)
         have b3:ops[i]? =some ops[i]:=Array.getElem?_eq_getElem rb
         obtain ⟨SM,bM,bI,_⟩:=(s7 i).2 ops[i] b3
         rw [kR] at bM bI
         have c8:dU P ops[i].op=false:=none _ ai i _ (by simp)
         rw [(qN c8 bI).1,←bh (by omega)]
         simp [bW,bM]
      have adV:=(gy j bH).1
      have:e.h=bW es a6 s:=by rw [hp,flat ops.size (Nat.le_refl _),←flat (posOf az j) (by omega)];simp [bW,b1]
      rw [←this]
      exact ⟨_,_,(s7 j).1,b'⟩
   have hlen:es.length=ops.size:=by rw [aj,mD,lA]
   have C:Cert P an ops calls es j6 h lg a6 (fT P az 0 ops.toList) order az ops.size ops.size false:=
    ⟨hlen,Nat.le_refl _,Nat.le_refl _,gy,iU,ay,aK,fun i o b3 _=>(s7 i).2 o b3,
      fun i o b3=>by
       obtain ⟨ch,cd,z2,z3⟩:=HS fB i o b3
       exact ⟨ch,cd,z2,fun _ k ok aA _=>by
        obtain ⟨mk,ed,gL,y3⟩:=z3 k ok aA
        exact ⟨mk,ed,gL,fun aE aM b9=>.inl (y3 aE aM b9)⟩⟩,
      by simpa using y_ (P:=P) (az:=az) (l:=ops.toList) (i:=0),
      fun j o U ad=>by simpa using tE (az:=az) (i:=0) (j:=j) (l:=ops.toList) (by simpa using U) ad,
      fun s aQ=>by
       rcases pX aQ with h | ⟨j,o,U,ad,aI⟩
       · exact .inl (.inl (by simpa using h))
       · exact .inr ⟨j,o,by simpa using U,ad,by simpa using aI⟩,
      fun j o U ad aI _=>pC j o U ad aI,fun h=>absurd h (Nat.lt_irrefl _),fun h=>absurd h (Nat.lt_irrefl _)⟩
   have aA:RegRel0 E an j6 a:=⟨k.size,fun t aC=>by
    have:=congrFun yq t
    simp only [du] at this
    rw [this]
    exact k.aq t (tK aC)⟩
   have cV:∀k,¬(Array.replicate ops.size false).getD k false=true:=by
    intro k
    rw [pw,Array.getElem?_replicate]
    split<;>simp
   have hV:Holds aw aw es a6 az (hQ ops es a6 az (Array.replicate ops.size false) 0):=
    ⟨rfl,fun _ _=>rfl,fun k aA=>(by obtain ⟨_,_,_,_,bb⟩:=aA;omega),fun k bl aA=>(by obtain ⟨_,_,_,_,bb⟩:=aA;omega)⟩
   obtain ⟨fG,dn,g1,g2,g3,g4,g5,g6⟩:=C.advance ops.size 0 (by omega) (fun k o _ _ _=>cV k) aw hV (E:=E) (w:={w with drawn:=w.drawn}) (by rw [ay];exact s.same rfl rfl rfl rfl)
   have DW:du lg d_=r d_:=by rw [←yq];exact JG
   have fin:∀av bf al,E.le av→RegRel0 av an lg bf→bf.defers=a.defers→aW aw av a6 al→gA .normal bf al:=by
    intro av bf al cd z2 adi z3
    refine CP av bf al cd ⟨z2.size,by rw [DW,adi];exact k.defers.mono cd,fun t ev=>?_⟩ z3
    by_cases aC:t≤top
    · exact z2.aq t aC
    · have bZ:=z2.size
      rw [oz t (by omega) ev]
      simp [Rel]
   refine M5 cR (HU bw (fun i=>(s7 i).1.1) (fun i=>(s7 i).1.2) C (gj:=E) (D:=a.defers) (fun _=>fin)
    (fun _ _ _ _ _ _ _ h=>absurd h (Nat.lt_irrefl _)) (fun h=>absurd h (Nat.lt_irrefl _)) ops.size _ a _ ?_ ?_)
   · exact Nat.le_trans List.countP_le_length (by simp)
   · refine ⟨by simp,aA.size,rfl,fun bl aA=>absurd aA (cV bl),fun bl o e aA=>absurd aA (cV bl),E,fG,dn,Env.le.refl E,g1,g3,fun bl o U ad=>⟨fun h=>absurd h (cV bl),fun h=>by have:=g4 bl o U ad (Nat.zero_le _);omega⟩,
      fun bl o _ _ h=>absurd h (cV bl),g5,?_,fun t aC=>.inr ⟨fun bl o aA=>absurd aA (cV bl),aA.aq t aC⟩⟩
     exact g6.same rfl rfl rfl rfl
theorem S7 {rd:Option Nat} {e:cY} {Q:Exit→Act→World→Prop} {a:Act} {w:World} (h:Q (toExit e) a w):(Cv e).wpIn (bS rd) 0 P Q a w:=by
 cases e with
 | normal=>exact wpIn_skip h
 | exit id=>exact wpIn_exit h
 | ret=>exact wpIn_ret h
theorem aaV (fs:an≤top) (cR:P.follows .mixedOrders=true) (bw:dJ P) {f:Operand} {ba:Array Tmp} {x y:Code} {r:aS} {h:ae} {Q:cY→aS→ae→Prop} (aP:Out an r)
 (H:b5 P (b6 P an (.rangeFunc f ba x y)) r h Q):∃e bn aa,Q e bn aa∧(Out an bn∧((b6 P an (.rangeFunc f ba x y)).plain=true→bn d_=r d_))∧w4 P an (.rangeFunc f ba x y) r h e bn aa:=by
 simp only [b6] at H ⊢
 cases fB:(lO an ba.toList&&(noMark x&&noMark y)) with
 | false=>rw [fB] at H;exact H.elim
 | true=>
   rw [fB] at H
   simp only [cond_true,b5] at H ⊢
   simp only [Bool.and_eq_true] at fB
   obtain ⟨g,cs,bx,aD,ot,H⟩:=H
   obtain ⟨cn,dz⟩:=x7 aP
   obtain ⟨v,aa,cm,dZ,aE,aM,cS⟩:=H ⟨0,none,aH h.next,an,cn,ba.toList,x,y⟩ ⟨rfl,dz,rfl,rfl,rfl,fB.1,fB.2.1,fB.2.2,aP⟩ rfl rfl
   refine ⟨_,_,_,cS,⟨fun t U ad=>by simp only [aS.set];rw [if_neg ad];exact aP t U ad,fun z=>by cases z⟩,fun rd aw E a w aG k s gA CP=>?_⟩
   have vF:rd=none:=aG.resolve_right (by simp [noMark])
   subst vF
   have ax:Rel E (.func g cs) (a.eval f):=by
    rw [←bx]
    cases f with
    | tmp t=>
      simp only [rx]
      cases af:Nat.ble t top with
      | false=>simp [aR.aU,Rel]
      | true=>
        simp only [cond_true,aR.aU]
        exact k.aq t (tK (Nat.le_of_ble_eq_true af))
    | const v=>exact p4 E v
    | func f=>
      simp only [rx]
      cases af:Nat.beq f cM with
      | true=>simp [aR.aU,Rel]
      | false=>
        simp only [cond_false,aR.aU,Rel]
        exact .inl ⟨fun e=>by subst e;simp at af,_,rfl,by simp [aY]⟩
    | global g=>simp [rx,aR.aU,Rel]
   simp only [Rel] at ax
   rcases ax with ⟨_,dO,cO,ai⟩ | ⟨Dc,_⟩
   case inr=>exact absurd Dc aD
   refine (wpIn_rangeFunc fun fn _=>?_:(Code.rangeFunc f ba x y).wpIn (bS none) 0 P gA a w)
   have f0:=s.fresh h.next (Nat.le_refl _)
   obtain ⟨eX,qZ⟩:∃eX,eX=E.put (aH h.next) ⟨w.heap.size,0,0⟩:=⟨_,rfl⟩
   obtain ⟨bM,mv⟩:∃bM:World,bM={w with heap:=w.heap.push (.deferred (some []))}:=⟨_,rfl⟩
   have vC:eX (aH h.next)=some ⟨w.heap.size,0,0⟩:=by rw [qZ];unfold Env.put;rw [if_pos rfl]
   have s1:aW aw eX (h.new .e0) bM:=by
    rw [qZ,mv]
    refine s.alloc 0 ⟨⟨w.heap.size,0,0⟩,by unfold Env.put;rw [if_pos rfl],s.frame.size,by simp⟩
   have lH:E.le eX:=by rw [qZ];exact Env.jq f0
   have ry:bM.heap.size=w.heap.size+1:=by rw [mv];simp
   obtain ⟨o,fO⟩:∃o:Loop,o={state:=.ready,pending:=none,fn,tmps:=a.tmps,params:=ba,assign:=x,body:=y,defers:=w.heap.size}:=⟨_,rfl⟩
   obtain ⟨bN,oi⟩:∃bN,bN=eX.put (aH (h.next+1)) ⟨bM.heap.size,0,0⟩:=⟨_,rfl⟩
   obtain ⟨bI,pL⟩:∃bI:World,bI={bM with heap:=bM.heap.push (.loop o)}:=⟨_,rfl⟩
   have f1:eX (aH (h.next+1))=none:=s1.fresh (h.next+1) (Nat.le_refl _)
   have jo:eX.le bN:=by rw [oi];exact Env.jq f1
   have vD:bN (aH (h.next+1))=some ⟨bM.heap.size,0,0⟩:=by rw [oi];unfold Env.put;rw [if_pos rfl]
   have dv:qA bN ⟨0,none,aH h.next,an,cn,ba.toList,x,y⟩ o:=by
    subst fO
    refine ⟨rfl,rfl,rfl,rfl,rfl,k.size,fun t aC=>?_,_,jo _ _ vC,rfl⟩
    have:=congrFun dz t
    simp only [du] at this
    simp only [this]
    exact Rel.mono (lH.trans jo) _ _ (k.aq t (tK aC))
   have s2:aW aw bN ((h.new .e0).new (.dv ⟨0,none,aH h.next,an,cn,ba.toList,x,y⟩)) bI:=by
    rw [oi,pL]
    refine s1.alloc 0 ⟨⟨bM.heap.size,0,0⟩,o,by show eX.put (aH (h.next+1)) _ (aH (h.next+1))=_;unfold Env.put;rw [if_pos rfl],by show aw.w.heap.size≤bM.heap.size;rw [ry];have:=s.frame.size;omega,by simp,?_⟩
    have:=dv
    rw [oi] at this
    exact this
   obtain ⟨gd,mh⟩:∃gd,gd=bM.heap.size:=⟨_,rfl⟩
   have aZ:Rel bN (.func cM [.ptr (aH (h.next+1)) 0]) (.func (.yield gd) #[] #[]):=by
    simp only [Rel]
    exact .inr ⟨trivial,_,_,rfl,vD,by rw [mh]⟩
   have l_:aY bN (.func cM [.ptr (aH (h.next+1)) 0]::cs) (.func (.yield gd) #[] #[]::dO.toList):=by
    simp only [aY]
    exact ⟨_,_,rfl,aZ,aY.mono (lH.trans jo) _ _ ai⟩
   have ar:Calls P g (Value.func (Fn.yield gd) #[] #[]::dO.toList).toArray bI (rangePost (bS none) 0 P gd gA {a with defers:=[{target:=.collected w.heap.size,args:=#[]}]++a.defers}):=(cm.calls bw ot aw bN bI _ l_ s2).mono fun e al aF=>by
    obtain ⟨av,aeH,rfl,aj,_,aK⟩:=aF
    simp only [rangePost]
    have ib:=aj _ _ vD
    have af:=aK.at ib
    rw [aE] at af
    obtain ⟨p',bU,ft,cI,a6,Dr⟩:=af
    rw [ib] at ft;cases ft
    obtain ⟨t1,t2,t3,t4,t5,t6,t7,t8⟩:=Dr
    simp only at a6
    rw [←mh] at a6
    have Dy:(bU.state == LoopState.busy)=false:=by
     rw [t1]
     match ov:dZ.st with
     | 0=>rfl
     | 1=>exact absurd ov aM
     | n+2=>rfl
    have jf:=(Array.getElem?_eq_some_iff.1 a6).1
    let hz:World:={al with heap:=al.heap.setIfInBounds gd (.loop {bU with state:=.exhausted})}
    have eT:(Instr.endLoop gd).run P al=.ok bU.pending hz:=by
     have oC:(setObj gd (.loop {bU with state:=.exhausted})).run P al=.ok () hz:=by simp only [setObj,Sem.run,a6];rfl
     simp only [Instr.endLoop,Sem.run_bind,run_getLoop a6,Result.andThen_ok,Dy,Bool.false_eq_true,if_false,oC,Sem.run_pure]
    have ue:aW aw av (aa.set (aH (h.next+1)) .dead) hz:=by
     refine aK.gone (p:=⟨bM.heap.size,0,0⟩) (by rw [aE];rfl) ib cI (by simp [hz]) (fun j bH=>?_) rfl rfl rfl
     simp only at bH
     simp only [hz,Array.getElem?_setIfInBounds]
     rw [if_neg (fun e=>bH (by rw [←e,mh]))]
    have fD:h3 av an (r.set (some d_) (.tuple (.ptr (aH h.next) 0::(r d_).list))) {a with defers:=[{target:=.collected w.heap.size,args:=#[]}]++a.defers}:=by
     refine ⟨k.size,?_,fun t aC=>?_⟩
     · simp only [aS.set,if_true,iY,kF,List.cons_append,List.nil_append]
       exact ⟨_,_,rfl,⟨_,aj _ _ (jo _ _ vC),rfl⟩,(k.defers.mono (lH.trans (jo.trans aj))).list⟩
     · simp only [aS.set]
       rw [if_neg aC]
       exact Rel.mono (lH.trans (jo.trans aj)) _ _ (k.aq t aC)
    refine ⟨bU.pending,hz,eT,?_⟩
    rw [t2]
    have fin:=CP av _ hz (lH.trans (jo.trans aj)) fD ue
    cases ia:dZ.ew with
    | none=>rw [ia] at fin;exact fin
    | some e=>rw [ia] at fin;exact S7 fin
   obtain ⟨adL,UU,ot⟩:=ot
   refine ⟨gd,[{target:=.collected w.heap.size,args:=#[]}],bI,{target:=.fn (.func g) dO,args:=#[]++#[.func (.yield gd) #[] #[]]},bI,g,_,bI,?_,?_,fun _ _=>trivial,?_,fun h=>by simp at h,pq.2 ar⟩
   · subst fO pL mv
     have he:=run_enterLoop_outer (P:=P) (w:=w) fn a.tmps ba x y
     rw [World.alloc,World.alloc] at he
     simp only [Array.size_push] at mh ⊢
     rw [mh]
     exact he
   · simp only [resolve,cO,Deferred.ofValue,Sem.run_pure]
     simp [Act.eval]
   · simp only [invoke]
     have e:(#[]++#[Value.func (.yield gd) #[] #[]]:Array Value)++dO=(Value.func (.yield gd) #[] #[]::dO.toList).toArray:=by apply Array.ext';simp
     rw [e]
     exact qe bw UU ot _ bI
theorem FZ (fs:an≤top) (cR:P.follows .mixedOrders=true) (bw:dJ P):∀(c:Code) (r:aS) (h:ae) (Q:cY→aS→ae→Prop),Out an r→b5 P (b6 P an c) r h Q→
 ∃e bn aa,Q e bn aa∧(Out an bn∧((b6 P an c).plain=true→bn d_=r d_))∧w4 P an c r h e bn aa:=by
 intro c
 induction c with
 | skip=>
   intro r h Q aP H
   exact ⟨.normal,r,h,H,⟨aP,fun _=>rfl⟩,fun rd aw E a w aG k s gA cS=>wpIn_skip (cS E a w (Env.le.refl E) k s)⟩
 | label l=>
   intro r h Q aP H
   exact ⟨.normal,r,h,H,⟨aP,fun _=>rfl⟩,fun rd aw E a w aG k s gA cS=>wpIn_label (cS E a w (Env.le.refl E) k s)⟩
 | exit id=>
   intro r h Q aP H
   exact ⟨.exit id,r,h,H,⟨aP,fun _=>rfl⟩,fun rd aw E a w aG k s gA cS=>wpIn_exit (cS E a w (Env.le.refl E) k s)⟩
 | ret=>
   intro r h Q aP H
   exact ⟨.ret,r,h,H,⟨aP,fun _=>rfl⟩,fun rd aw E a w aG k s gA cS=>wpIn_ret (cS E a w (Env.le.refl E) k s)⟩
 | region id ops draw=>
   intro r h Q aP H
   cases draw with
   | true=>
     simp only [b6,cond_true] at H
     obtain ⟨bn,aa,aj,ay,aK⟩:=SK fs cR bw (id:=id) aP H
     exact ⟨.normal,bn,aa,aj,⟨ay.1,fun _=>ay.2⟩,aK⟩
   | false=>
     simp only [b6,cond_false,b5] at H
     obtain ⟨bn,aa,aj,ay,aK⟩:=M8 bw ops.toList 0 (fun j=>by simp) r h _ aP H
     refine ⟨.normal,bn,aa,aj,⟨ay.1,fun _=>ay.2⟩,fun rd aw E a w aG k s gA cS=>?_⟩
     refine wpIn_region ?_
     have:=aK rd aw E a w k s gA cS
     rw [List.range_eq_range']
     simpa using this
 | seq x y rC rD=>
   intro r h Q aP H
   simp only [b6,b5] at H
   obtain ⟨e,bt,U,aj,ay,aK⟩:=rC r h _ aP H
   cases e with
   | normal=>
     obtain ⟨e,cW,ad,b1,b',d'⟩:=rD bt U Q ay.1 aj
     refine ⟨e,cW,ad,b1,⟨b'.1,fun z=>by simp only [b6,bB.plain,Bool.and_eq_true] at z;exact (b'.2 z.2).trans (ay.2 z.1)⟩,fun rd aw E a w aG k s gA cS=>?_⟩
     refine wpIn_seq (aK rd aw E a w (aG.imp (fun h=>h) fun h=>by simp only [noMark,Bool.and_eq_true] at h;exact h.1) k s _ fun av bf al cd z2 z3=>?_).wp
     exact (d' rd aw av bf al (aG.imp (fun h=>h) fun h=>by simp only [noMark,Bool.and_eq_true] at h;exact h.2) z2 z3 gA fun bN a2 bI ed gL y3=>cS bN a2 bI (cd.trans ed) gL y3).wp
   | exit i=>
     refine ⟨.exit i,bt,U,aj,⟨ay.1,fun z=>by simp only [b6,bB.plain,Bool.and_eq_true] at z;exact ay.2 z.1⟩,fun rd aw E a w aG k s gA cS=>?_⟩
     refine wpIn_seq (aK rd aw E a w (aG.imp (fun h=>h) fun h=>by simp only [noMark,Bool.and_eq_true] at h;exact h.1) k s _ fun av bf al cd z2 z3=>?_).wp
     exact cS av bf al cd z2 z3
   | ret=>
     refine ⟨.ret,bt,U,aj,⟨ay.1,fun z=>by simp only [b6,bB.plain,Bool.and_eq_true] at z;exact ay.2 z.1⟩,fun rd aw E a w aG k s gA cS=>?_⟩
     refine wpIn_seq (aK rd aw E a w (aG.imp (fun h=>h) fun h=>by simp only [noMark,Bool.and_eq_true] at h;exact h.1) k s _ fun av bf al cd z2 z3=>?_).wp
     exact cS av bf al cd z2 z3
 | cond c x y rC rD=>
   intro r h Q aP H
   simp only [b6,b5] at H
   cases bx:(rx c).aU r<;>rw [bx] at H<;>simp only at H<;>try (exact H.elim)
   rename_i t
   have ar:∀E a,h3 E an r a→a.eval c=.bool t:=by
    intro E a k
    cases c with
    | tmp d=>
      simp only [rx] at bx
      cases af:Nat.ble d top with
      | false=>rw [af] at bx;simp [aR.aU] at bx
      | true=>
        rw [af] at bx
        simp only [cond_true,aR.aU] at bx
        have:=k.aq d (tK (Nat.le_of_ble_eq_true af))
        rw [bx] at this
        simp only [Rel] at this
        exact this
    | const v=>
      simp only [rx,aR.aU] at bx
      have:=p4 E v
      rw [bx] at this
      simp only [Rel] at this
      exact this
    | func f=>
      simp only [rx] at bx
      cases af:Nat.beq f cM<;>rw [af] at bx<;>simp [aR.aU] at bx
    | global g=>simp [rx,aR.aU] at bx
   cases t with
   | true=>
     obtain ⟨e,bt,U,aj,ay,aK⟩:=rC r h Q aP (H.1 rfl)
     exact ⟨e,bt,U,aj,⟨ay.1,fun z=>by simp only [b6,bB.plain,Bool.and_eq_true] at z;exact ay.2 z.1⟩,fun rd aw E a w aG k s gA cS=>wpIn_cond_true (ar E a k) (aK rd aw E a w (aG.imp (fun h=>h) fun h=>by simp only [noMark,Bool.and_eq_true] at h;exact h.1) k s gA cS).wp⟩
   | false=>
     obtain ⟨e,bt,U,aj,ay,aK⟩:=rD r h Q aP (H.2 rfl)
     exact ⟨e,bt,U,aj,⟨ay.1,fun z=>by simp only [b6,bB.plain,Bool.and_eq_true] at z;exact ay.2 z.2⟩,fun rd aw E a w aG k s gA cS=>wpIn_cond_false (ar E a k) (aK rd aw E a w (aG.imp (fun h=>h) fun h=>by simp only [noMark,Bool.and_eq_true] at h;exact h.2) k s gA cS).wp⟩
 | block id x bh=>
   intro r h Q aP H
   simp only [b6,b5] at H
   obtain ⟨e,bt,U,aj,ay,aK⟩:=bh r h _ aP H
   refine ⟨e.leave id,bt,U,aj,ay,fun rd aw E a w aG k s gA cS=>?_⟩
   refine wpIn_block (aK rd aw E a w (aG.imp (fun h=>h) fun h=>h) k s _ fun av bf al cd z2 z3=>?_).wp
   cases e with
   | normal=>exact cS av bf al cd z2 z3
   | ret=>exact cS av bf al cd z2 z3
   | exit i=>
     have:=cS av bf al cd z2 z3
     simp only [toExit,Exit.inBlock]
     simp only [cY.leave] at this
     by_cases aB:i=id
     · rw [if_pos aB] at this ⊢;exact this
     · rw [if_neg aB] at this ⊢;exact this
 | loop x bh=>
   intro r h Q aP H
   simp only [b6,b5] at H
   obtain ⟨I,μ,oj,VG⟩:=H
   have key:∀n r h,μ r h=n→I r h→Out an r→∃e bn aa,Q e bn aa∧(Out an bn∧((b6 P an (.loop x)).plain=true→bn d_=r d_))∧w4 P an (.loop x) r h e bn aa:=by
    intro n
    induction n using Nat.strongRecOn with
    | _ n Wg=>
      intro r h a7 oj aP
      obtain ⟨e,bt,U,aj,ay,aK⟩:=bh r h _ aP (VG r h oj)
      have body:∀(rd:Option Nat) (aw:Fr) E a w,(rd=none∨noMark x=true)→h3 E an r a→aW aw E h w→∀(b:Frame) (cD:List Item) (cs:List Frame),b.roundOf=rd→∃bf al av,E.le av∧h3 av an bt bf∧aW aw av U al∧ArrivesIn (Machine.fenced P (bS rd)) P (lone (b.atR a (.code x::.inLoop x::cD)) cs w) b (.inLoop x::cD) cs (toExit e) bf al:=by
       intro rd aw E a w aG k s b cD cs ji
       have:=(aK rd aw E a w aG k s (fun cQ bf al=>cQ=toExit e∧∃av,E.le av∧h3 av an bt bf∧aW aw av U al) (fun av bf al aj ay aK=>⟨rfl,av,aj,ay,aK⟩)).wp b (.inLoop x::cD) cs ji trivial (Fu _)
       obtain ⟨aM,a2,bI,⟨rfl,bN,cd,z2,z3⟩,hC⟩:=this
       exact ⟨a2,bI,bN,cd,z2,z3,hC⟩
      cases e with
      | normal=>
        obtain ⟨Ue,aN⟩:=aj
        obtain ⟨aM,cW,ad,b1,b',d'⟩:=Wg (μ bt U) (a7 ▸ aN) bt U rfl Ue ay.1
        refine ⟨aM,cW,ad,b1,⟨b'.1,fun z=>(b'.2 z).trans (ay.2 z)⟩,fun rd aw E a w aG k s gA cS b cD cs ji=>?_⟩
        obtain ⟨a2,bI,bN,cd,z2,z3,hC⟩:=body rd aw E a w (aG.imp (fun h=>h) fun h=>h) k s b cD cs ji
        obtain ⟨b9,a3,lV,ed,gL⟩:=d' rd aw bN a2 bI aG z2 z3 gA (fun qu a4 hz t1 t2 t3=>cS qu a4 hz (cd.trans t1) t2 t3) b cD cs ji
        exact ⟨b9,a3,lV,ed,.of_steps (StepsIn.trans hC (.one (nb _) stepR_inLoop)) gL⟩
      | exit i=>
        refine ⟨.exit i,bt,U,aj,ay,fun rd aw E a w aG k s gA cS b cD cs ji=>?_⟩
        obtain ⟨a2,bI,bN,cd,z2,z3,hC⟩:=body rd aw E a w (aG.imp (fun h=>h) fun h=>h) k s b cD cs ji
        exact ⟨.exit i,a2,bI,cS bN a2 bI cd z2 z3,.pass (x:=.inLoop x) rfl (fun _ _=>.inl (by simp)) hC⟩
      | ret=>
        refine ⟨.ret,bt,U,aj,ay,fun rd aw E a w aG k s gA cS b cD cs ji=>?_⟩
        obtain ⟨a2,bI,bN,cd,z2,z3,hC⟩:=body rd aw E a w (aG.imp (fun h=>h) fun h=>h) k s b cD cs ji
        exact ⟨.ret,a2,bI,cS bN a2 bI cd z2 z3,.pass (x:=.inLoop x) rfl (fun _ _=>.inl (by simp)) hC⟩
   exact key _ r h rfl oj aP
 | scope x bh=>
   intro r h Q aP H
   obtain ⟨e,bt,U,aj,ay,aK⟩:=bh r h Q aP H
   refine ⟨e,bt,U,aj,ay,fun rd aw E a w aG k s gA cS=>?_⟩
   refine Mk (aK rd aw E a w (aG.imp (fun h=>h) fun h=>h) k s _ fun av bf al cd z2 z3=>?_).wp
   have:=cS av bf al cd z2 z3
   cases e<;>exact this
 | rangeFunc f ba x y _ _=>intro r h Q aP H;exact aaV fs cR bw aP H
 | goto l=>intro r h Q aP H;exact H.elim
 | refuse acP=>intro r h Q aP H;exact H.elim
inductive uJ where
 | t (n:Nat)
 | bC (n:Nat)
 | ln (n size:Nat)
 | bad
def cH (P:Program) (an:Nat):List ResultVar→List uJ
 | []=>[]
 | .tmp t::rs=>(bif Nat.ble t top&&Nat.blt t an then .t t else .bad)::cH P an rs
 | .cell a t::rs=>(bif Nat.ble a top&&Nat.blt a an then (match aX P t with
   | none=>.bad
   | some aL=>bif aL.agg then .ln a aL.size else bif Nat.beq aL.size 1 then .bC a else .bad) else .bad)::cH P an rs
noncomputable def cB (r:aS) (h:ae):List uJ→Option (List V)
 | []=>some []
 | x::xs=>match (match x with
   | .t n=>some (r n)
   | .bC n=>ks h (r n)
   | .ln n size=>kr size h (r n)
   | .bad=>none) with
   | none=>none
   | some v=>match cB r h xs with
     | none=>none
     | some ab=>some (v::ab)
theorem x6 {r:aS} {h:ae} {cn:bo} (dz:du cn=r):∀{l:List ResultVar} {ab:List V},cB r h (cH P an l)=some ab→(il P an l).run cn h=some ab
 | [],ab,he=>by simpa [cB,cH,il] using he
 | .tmp t::rs,ab,he=>by
   simp only [cH,cB] at he
   unfold il
   cases ar:(Nat.ble t top&&Nat.blt t an) with
   | false=>rw [ar] at he;simp at he
   | true=>
     rw [ar] at he
     simp only [cond_true] at he ⊢
     cases aG:cB r h (cH P an rs) with
     | none=>rw [aG] at he;cases he
     | some r'=>
       rw [aG] at he
       rw [x6 dz aG]
       have:=congrFun dz t
       simp only [du] at this
       rw [this]
       exact he
 | .cell a t::rs,ab,he=>by
   simp only [cH,cB] at he
   unfold il
   cases ar:(Nat.ble a top&&Nat.blt a an) with
   | false=>rw [ar] at he;simp at he
   | true=>
     rw [ar] at he
     simp only [cond_true] at he ⊢
     have JC:=congrFun dz a
     simp only [du] at JC
     rw [JC]
     unfold mC
     cases aC:aX P t with
     | none=>rw [aC] at he;simp at he
     | some aL=>
       rw [aC] at he
       simp only at he ⊢
       cases IV:aL.agg with
       | true=>
         rw [IV] at he
         simp only [cond_true] at he ⊢
         cases ai:kr aL.size h (r a) with
         | none=>rw [ai] at he;cases he
         | some v=>
           rw [ai] at he
           simp only at he ⊢
           cases aG:cB r h (cH P an rs) with
           | none=>rw [aG] at he;cases he
           | some r'=>rw [aG] at he;rw [x6 dz aG];exact he
       | false=>
         rw [IV] at he
         simp only [cond_false] at he ⊢
         cases aQ:Nat.beq aL.size 1 with
         | false=>rw [aQ] at he;simp at he
         | true=>
           rw [aQ] at he
           simp only [cond_true] at he ⊢
           cases ai:ks h (r a) with
           | none=>rw [ai] at he;cases he
           | some v=>
             rw [ai] at he
             simp only at he ⊢
             cases aG:cB r h (cH P an rs) with
             | none=>rw [aG] at he;cases he
             | some r'=>rw [aG] at he;rw [x6 dz aG];exact he
theorem zm:∀(l:List V) (t:Nat),aS.bk l t=(l[t]?).getD .bad
 | [],t=>by simp [aS.bk]
 | v::ab,t=>by
   simp only [aS.bk]
   cases t with
   | zero=>simp
   | succ t=>simp [zm ab t]
def cY.ends:cY→Prop
 | .exit _=>False
 | _=>True
noncomputable def pV:List V→ae→Option ae
 | [],h=>some h
 | .ptr b _::ds,h=>(match h.get b with
   | .e0=>pV ds (h.set b .dead)
   | _=>none)
 | _::_,_=>none
theorem Kw {h4:qt}:∀{ds:List V} {h ad:ae},pV ds h=some ad→kp h4 ds none h=.go none ad
 | [],h,ad,e=>by simp only [pV,Option.some.injEq] at e;subst e;rfl
 | d::ds,h,ad,e=>by
   cases d<;>simp only [pV] at e<;>try (cases e;done)
   rename_i b o
   simp only [kp]
   cases aD:h.get b<;>rw [aD] at e<;>simp only at e<;>try (cases e;done)
   exact Kw e
theorem HE (cR:P.follows .mixedOrders=true) (bw:dJ P) {f:FuncId} {fn:Func} {c:Code} {args:List V} {h:ae} {K:V→ae→Prop} (ax:P.funcs[f]? =some fn) (af:fn.body=some c)
 (fs:Nat.ble fn.ntmps top=true) (aZ:Nat.beq f cM=false) (jb:Nat.ble args.length fn.ntmps=true) {rc:bB} {en:List uJ} (vE:b6 P fn.ntmps c=rc) (rv:cH P fn.ntmps fn.results.toList=en) {Q:cY→aS→ae→Prop} (H:b5 P rc (aS.bk args) h Q)
 (cS:∀e r aa,(rc.plain=true→r d_=.bad)→Q e r aa→e.ends∧∃ad,pV (r d_).list aa=some ad∧∃ab,cB r ad en=some ab∧K (oneOf ab) ad):bF P f args h K:=by
 subst vE rv
 rw [Nat.ble_eq] at fs jb
 have aP:Out fn.ntmps (aS.bk args):=by
  intro t aC _
  rw [zm,List.getElem?_eq_none (by omega)]
  rfl
 have kW:(aS.bk args) d_=.bad:=by
  rw [zm,List.getElem?_eq_none (by unfold d_;unfold top at fs;omega)]
  rfl
 obtain ⟨e,bn,aa,aF,oz,UB⟩:=FZ fs cR bw c _ h _ aP H
 obtain ⟨eT,ad,Vd,ab,V2,dd⟩:=cS e bn aa (fun z=>(oz.2 z).trans kW) aF
 have gH:f≠cM:=fun e=>by subst e;simp at aZ
 refine ⟨oneOf ab,ad,⟨gH,.inl ⟨⟨fn,ax,by rw [af];rfl⟩,fun aw E w xs ao s=>?_⟩⟩,dd⟩
 have hlen:=ao.length
 have bZ:xs.toArray.size≤fn.ntmps:=by simp;omega
 refine pq.1 (callsIn_of_wp_marks (F:=bS none) (n:=0) ax af trivial ?_)
 have k:h3 E fn.ntmps (aS.bk args) {tmps:=xs.toArray++Array.replicate (fn.ntmps-xs.toArray.size) undef,defers:=[]}:=by
  refine ⟨by simp;omega,by rw [kW];simp [iY],fun t _=>?_⟩
  rw [zm]
  cases aD:args[t]? with
  | none=>simp [Rel]
  | some v=>
    obtain ⟨y,aZ,aG⟩:=ao.get t v aD
    simp only [Option.getD_some]
    have yQ:t<xs.length:=(List.getElem?_eq_some_iff.1 aZ).1
    rw [Array.getD_eq_getD_getElem?,Array.getElem?_append_left (by simpa using yQ)]
    simp only [List.getElem?_toArray,aZ,Option.getD_some]
    exact aG
 have jc:w6 P (fun _ _ _ _=>.fail):=fun f args u h fl aa he=>by cases he
 have fin:∀av bf al,E.le av→h3 av fn.ntmps bn bf→aW aw av aa al→LeavesInM (bS none) 0 P fn bf.tmps (fun e al=>∃av x,e=.returned x∧E.le av∧Rel av (oneOf ab) x∧aW aw av ad al) bf.defers .returning al:=by
  intro av bf al aj ay aK
  obtain ⟨cn,dz⟩:=x7 oz.1
  have aV:T.get .bad dT cn=bn d_:=by
   have:=congrFun dz d_
   simp only [du] at this
   exact this
  have aA:ep av fn.ntmps cn bf:=⟨⟨ay.size,fun t aC=>by
   have:=congrFun dz t
   simp only [du] at this
   rw [this]
   exact ay.aq t (tK aC)⟩,by rw [aV];exact ay.defers⟩
  refine Cw (C:=⟨P,fun _=>none,fun _=>none⟩) (u:=none) bw jc aA rfl aK ?_
  rw [aV,Kw Vd]
  simp only [finish]
  rw [x6 dz V2]
  exact fun bN x bI b1 b' d'=>⟨bN,x,rfl,aj.trans b1,b',d'⟩
 refine (UB none aw E _ w (.inl rfl) k s _ fun av bf al aj ay aK=>?_).wp
 have:=fin av bf al aj ay aK
 cases e with
 | normal=>exact this
 | ret=>exact this
 | exit i=>exact eT.elim
theorem Ln:∀(ba:List Nat) (ab:List V) (cn:bo),du (oQ ba ab cn)=aS.tT ba ab (du cn)
 | p::ba,v::ab,cn=>by
   rw [oQ,aS.tT,Ln ba ab]
   congr 1
   exact zH (some p) cn v
 | [],[],_=>rfl
 | [],_::_,_=>rfl
 | _::_,[],_=>rfl
theorem Lo:∀{ba:List Nat} {ab:List V} {r:aS},lO an ba=true→Out an r→Out an (aS.tT ba ab r)
 | p::ba,v::ab,r,ah,aP=>by
   simp only [lO,List.all_cons,Bool.and_eq_true] at ah
   exact Lo (r:=r.set (some p) v) ah.2 (aP.set (d:=some p) (by simp only [ei,Bool.and_eq_true];exact ah.1) v)
 | [],[],_,_,aP=>aP
 | [],_::_,_,_,aP=>aP
 | _::_,[],_,_,aP=>aP
theorem L_ {ba:List Nat} {ab:List V} {r:aS} (ah:lO an ba=true) (aP:Out an r):Out an (qd ba ab r):=fun t U ad=>by
 unfold qd
 simp only [aS.set]
 rw [if_neg ad]
 exact Lo ah aP t U ad
theorem adg (fs:an≤top) (cR:P.follows .mixedOrders=true) (bw:dJ P) {l:lZ} {r:aS} {ba:List Nat} {wM zQ:bB} {xs:List V} {b:aO} {h:ae} {K:V→ae→Prop} (F:xo P l an r ba wM zQ) (aD:h.get b=.dv l) (bb:l.st=0) (hlen:xs.length=ba.length)
 (H:b5 P wM (qd ba xs r) h fun e bt U=>e=.normal∧U.get b=.dv l∧b5 P zQ bt (U.set b (.dv (l.go 1 l.ew))) fun e cW ad=>ad.get b=.dv (l.go 1 l.ew)∧(match e with
   | .normal=>K (.bool true) (ad.set b (.dv (l.go 0 none)))
   | e=>K (.bool false) (ad.set b (.dv (l.go 2 (some e)))))):xu P xs b h K:=by
 obtain ⟨w7,Av,Aw,Nk,Nl,Ax,Nn,No,F_⟩:=F
 subst Nk Nl
 obtain ⟨aE,bt,U,⟨rfl,g1,cN⟩,cT,bC⟩:=FZ fs cR bw l.assign _ h _ (L_ Ax F_) H
 obtain ⟨aM,cW,ad,⟨g2,Nt⟩,cG,bY⟩:=FZ fs cR bw l.body _ _ _ cT.1 cN
 obtain ⟨v,aa,eT,dd⟩:∃v aa,r0 b aM ad=.val v aa∧K v aa:=by
  unfold r0
  rw [g2]
  cases aM<;>exact ⟨_,_,rfl,Nt⟩
 refine ⟨v,aa,fun aw E w sC p ai s ah=>?_,dd⟩
 have af:=s.at ah
 rw [aD] at af
 obtain ⟨p',o,ft,cI,a6,aG⟩:=af
 rw [ah] at ft;cases ft
 obtain ⟨t1,t2,t3,t4,t5,t6,t7,t8⟩:=aG
 have h':=ai.length
 have yN:o.params.size=sC.length:=by rw [←Array.length_toList,t3,Aw,←hlen,h']
 refine ⟨o.fn,(o.params.zip sC.toArray).foldl (fun tmps (t,a)=>tmps.setIfInBounds t a) o.tmps,o.assign,o.body,?_,?_⟩
 · simp only [Instr.yield,Sem.run_bind,run_getLoop a6,Result.andThen_ok]
   rw [if_neg (by simp [yN])]
   rfl
 · rw [t4,t5]
   refine roundIn_of_wpIn (F:=bS none) trivial ?_
   have ns:RegRel0 E l.an l.r ⟨o.tmps,[]⟩:=⟨t6,t7⟩
   have u1:lO l.an o.params.toList=true:=by rw [t3,Aw,w7];exact Ax
   have b_:=LN u1 ai ns
   have k:h3 E an (qd ba xs r) ⟨(o.params.zip sC.toArray).foldl (fun t (p:Nat × Value)=>t.setIfInBounds p.1 p.2) o.tmps,[]⟩:=by
    refine ⟨by rw [←w7];exact b_.size,by unfold qd;simp [aS.set,iY],fun t aC=>?_⟩
    by_cases VS:t≤top
    · have:=b_.aq t VS
      rw [t3,Aw] at this
      have e:=congrFun (Ln ba xs l.r) t
      rw [Av] at e
      unfold qd
      simp only [aS.set]
      rw [if_neg aC,←e]
      exact this
    · rw [L_ Ax F_ t (by omega) aC]
      simp [Rel]
   refine (bC (some p.bd) aw E _ w (.inr Nn) k s (Exit.then (fun n0 o9=>∃w0,(Instr.beginRound p.bd).run P o9=.ok () w0∧
    l.body.wpIn (bS (some p.bd)) 0 P (roundPost P p.bd fun e al=>∃av x,e=.returned x∧E.le av∧Rel av v x∧aW aw av aa al) n0 w0) (fun _ _ _=>False)) fun eX bK bM aj ay aK=>?_).wp
   have gQ:=aj _ _ ah
   have gP:=aK.at gQ
   rw [g1] at gP
   obtain ⟨b1,p3,vz,oh,ng,oB⟩:=gP
   rw [gQ] at vz;cases vz
   obtain ⟨ed,gL,y3,y4,F1,y6,adb,ade⟩:=oB
   obtain ⟨cd,z2⟩:=aK.loop (P:=P) (dZ:=l.go 1 l.ew) (bU:={p3 with state:=.busy}) g1 gQ oh ng ⟨rfl,gL,y3,y4,F1,y6,adb,ade⟩
   refine ⟨{bM with heap:=bM.heap.setIfInBounds p.bd (.loop {p3 with state:=.busy})},?_,?_⟩
   · have vG:p3.state=.ready:=by rw [ed,bb];rfl
     simp only [Instr.beginRound,Sem.run_bind,run_getLoop ng,Result.andThen_ok,cd,vG,Sem.run_pure]
   · refine (bY (some p.bd) aw eX _ _ (.inr No) ay z2 _ fun bN a2 bI bu dE kD=>?_).wp
     exact L' kD (bu _ _ gQ) eT fun x al FR acz=>⟨bN,x,rfl,aj.trans bu,FR,acz⟩
theorem df (cR:P.follows .mixedOrders=true) (bw:dJ P) {f:FuncId} {fn:Func} {c:Code} {args:List V} {h:ae} {K:V→ae→Prop} (ax:P.funcs[f]? =some fn) (af:fn.body=some c)
 (fs:Nat.ble fn.ntmps top=true) (aZ:Nat.beq f cM=false) (jb:Nat.ble args.length fn.ntmps=true) {rc:bB} {en:List uJ} (vE:b6 P fn.ntmps c=rc) (rv:cH P fn.ntmps fn.results.toList=en) (ib:rc.plain=true)
 (H:b5 P rc (aS.bk args) h fun e r aa=>e.ends∧∃ab,cB r aa en=some ab∧K (oneOf ab) aa):bF P f args h K:=by
 refine HE cR bw ax af fs aZ jb vE rv H fun e r aa aQ ⟨U,ab,ad,aI⟩=>⟨U,aa,?_,ab,ad,aI⟩
 rw [aQ ib]
 rfl
theorem Sr (cR:P.follows .mixedOrders=true) (bw:dJ P) {f:FuncId} {fn:Func} {c:Code} {args:List V} {h:ae} {K:V→ae→Prop} (ax:P.funcs[f]? =some fn) (af:fn.body=some c)
 (fs:Nat.ble fn.ntmps top=true) (aZ:Nat.beq f cM=false) (jb:Nat.ble args.length fn.ntmps=true) {rc:bB} {en:List uJ} (vE:b6 P fn.ntmps c=rc) (rv:cH P fn.ntmps fn.results.toList=en)
 (H:b5 P rc (aS.bk args) h fun e r aa=>e.ends∧∃ad,pV (r d_).list aa=some ad∧∃ab,cB r ad en=some ab∧K (oneOf ab) ad):bF P f args h K:=
 HE cR bw ax af fs aZ jb vE rv H fun e r aa _ q=>q
end
end Go.Proofs.YtkehcalakofigaaGreatDoor.a1
namespace Go.Proofs.YtkehcalakofigaaGreatDoor.a1
variable [Lay]
open Go Go.RowKit
theorem oP (i j:Nat):(aH i=aH j)=(i=j):=by
 apply propext
 exact ⟨gT,fun h=>by rw [h]⟩
theorem aaH (ab:List V):∀(i off:Nat) (x:V) (t:T V),i<off→T.put .bad x (aH i) (eN t off ab)=eN (T.put .bad x (aH i) t) off ab:=by
 induction ab with
 | nil=>intro i off x t _;rfl
 | cons v ab bh=>
   intro i off x t h
   simp only [eN]
   rw [bh i (off+1) x _ (by omega),T.put_comm _ _ _ _ _ _ (fun e=>by rw [oP] at e;omega)]
def hh (ab:List V) (off:Nat) (ws:List V):List V:=ab.take off++ws++ab.drop (off+ws.length)
theorem LR:∀(ab:List V) (base i:Nat) (x:V) (t:T V),i<ab.length→T.put .bad x (aH (base+i)) (eN t base ab)=eN t base (ab.set i x)
 | [],_,i,_,_,h=>by simp at h
 | v::ab,base,i,x,t,h=>by
   cases i with
   | zero=>
     simp only [eN,Nat.add_zero,List.set]
     rw [aaH ab base (base+1) x _ (by omega),T.LQ]
   | succ i=>
     simp only [eN,List.set]
     have:=LR ab (base+1) i x (T.put .bad v (aH base) t) (by simpa using h)
     rw [show base + (i+1)=base+1+i from by omega]
     exact this
theorem Mn (ab:List V) (off:Nat) (w:V) (ws:List V) (h:off<ab.length):hh (ab.set off w) (off+1) ws=hh ab off (w::ws):=by
 unfold hh
 have U:(ab.set off w).take (off+1)=ab.take off++[w]:=by
  rw [List.take_succ_eq_append_getElem (by simpa using h)]
  simp [List.take_set_of_le]
 have ad:(ab.set off w).drop (off+1+ws.length)=ab.drop (off + (w::ws).length):=by
  rw [List.drop_set_of_lt (by omega)]
  congr 1
  simp
  omega
 rw [U,ad]
 simp
theorem Ad (ab:List V) (off:Nat) (ws:List V) (h:off+ws.length≤ab.length):(hh ab off ws).length=ab.length:=by
 unfold hh
 simp
 omega
theorem zI:∀(ws ab:List V) (off:Nat),off+ws.length≤ab.length→eN (eN .e 0 ab) off ws=eN .e 0 (hh ab off ws)
 | [],ab,off,h=>by simp [eN,hh]
 | w::ws,ab,off,h=>by
   simp only [List.length_cons] at h
   simp only [eN]
   have U:=LR ab 0 off w .e (by omega)
   rw [Nat.zero_add] at U
   rw [U,zI ws (ab.set off w) (off+1) (by simp;omega),Mn ab off w ws (by omega)]
theorem yi (ab:List V):∀(off i:Nat) (t:T V),T.get .bad (aH (off+i)) (eN t off ab)=if i<ab.length then (ab[i]?).getD .bad else T.get .bad (aH (off+i)) t:=by
 induction ab with
 | nil=>intro off i t;simp [eN]
 | cons v ab bh=>
   intro off i t
   simp only [eN]
   cases i with
   | zero=>
     have:∀(ws:List V) (o:Nat) (s:T V),off<o→T.get .bad (aH off) (eN s o ws)=T.get .bad (aH off) s:=by
      intro ws
      induction ws with
      | nil=>intro o s _;rfl
      | cons w ws Wh=>
        intro o s aP
        simp only [eN]
        rw [Wh (o+1) _ (by omega),T.gn,if_neg (fun e=>by rw [oP] at e;omega)]
     rw [Nat.add_zero,this ab (off+1) _ (by omega),T.gn]
     simp
   | succ i=>
     have:=bh (off+1) i (T.put .bad v (aH off) t)
     rw [show off+1+i=off + (i+1) from by omega] at this
     rw [this,T.gn]
     have c8:¬aH off=aH (off + (i+1)):=fun e=>by rw [oP] at e;omega
     rw [if_neg c8]
     simp
theorem yk (ab:List V):∀(n i:Nat),i+n≤ab.length→fN (eN .e 0 ab) i n=(ab.drop i).take n
 | 0,i,h=>by simp [fN]
 | n+1,i,h=>by
   simp only [fN]
   have U:=yi ab 0 i .e
   rw [Nat.zero_add] at U
   rw [U,if_pos (by omega),yk ab n (i+1) (by omega)]
   have aV:ab.drop i=ab[i]::ab.drop (i+1):=List.drop_eq_getElem_cons (by omega)
   rw [aV,List.take_succ_cons]
   simp [List.getElem?_eq_getElem (by omega:i<ab.length)]
noncomputable def bV.bk (ab:List V) (cj:Nat) (st:Bool):bV:=.cells ab.length (eN .e 0 ab) cj st
noncomputable def bV.ro (ab:List V):bV:=.view ab.length (eN .e 0 ab)
def Rd (h:ae) (b:aO) (ab:List V):Prop:=h.get b=.ro ab∨∃cj st,h.get b=.bk ab cj st
def Own (h:ae) (b:aO) (ab:List V) (cj:Nat) (st:Bool):Prop:=h.get b=.bk ab cj st
theorem Rd.lR {α:Type} {h:ae} {b:aO} {ab:List V} (H:Rd h b ab) (d:α) (f:Nat→T V→α):(h.get b).lR d f=f ab.length (eN .e 0 ab):=by
 rcases H with H | ⟨_,_,H⟩<;>rw [H]<;>rfl
theorem Own.lay {h:ae} {b:aO} {ab:List V} {cj:Nat} {st:Bool} (H:Own h b ab cj st) {off:Nat} {ws:List V} (aP:off+ws.length≤ab.length) (U:eb ws=true):
 lay h b off ws=some (h.set b (.bk (hh ab off ws) cj st)):=by
 unfold a1.lay
 rw [show h.get b=.cells ab.length (eN .e 0 ab) cj st from H]
 simp only [bV.on]
 rw [show Nat.ble (off+ws.length) ab.length=true from by rw [Nat.ble_eq];exact aP,U]
 simp only [Bool.and_true,cond_true,Option.some.injEq,bV.bk]
 rw [Ad ab off ws aP,zI ws ab off aP]
theorem KW {h:ae} {ab:List V} (ai:ab.length≤top):e8 h ab=some (h.new (.bk ab 0 false)):=by
 unfold e8
 rw [show Nat.ble ab.length top=true from by rw [Nat.ble_eq];exact ai]
 rfl
theorem EF {h:ae} {ab:List V} {cj:Nat} {st:Bool} (ai:ab.length≤top) (he:1≤cj):hJ h ab cj st=some (h.new (.bk ab cj st)):=by
 unfold hJ
 rw [show Nat.ble ab.length top=true from by rw [Nat.ble_eq];exact ai,show Nat.ble 1 cj=true from by rw [Nat.ble_eq];exact he]
 rfl
theorem gw (h:ae) (k:bV):(h.new k).next=h.next+1:=rfl
theorem lL (h:ae) (b:aO) (k:bV):(h.set b k).next=h.next:=rfl
section
variable {P:Program} {r:aS} {h:ae}
theorem abv (r:aS) (d:Nat) (v:V) (t:Nat):aS.set r (some d) v t=if t=d then v else r t:=(rfl)
theorem abw (r:aS) (v:V):aS.set r none v=r:=(rfl)
theorem acw (r:aS) (u:Nat) (us:List Nat) (t:Nat):aS.trim r (u::us) t=if t=u then r t else aS.trim r us t:=(rfl)
theorem ZN (v:V) (ab:List V):aS.bk (v::ab) 0=v:=(rfl)
theorem ZO (v:V) (ab:List V) (t:Nat):aS.bk (v::ab) (t+1)=aS.bk ab t:=by simp [aS.bk]
theorem S5 (r:aS) (n:Nat):aR.aU r (.t n)=r n:=(rfl)
theorem S4 (r:aS) (v:V):aR.aU r (.c v)=v:=(rfl)
theorem K5 {d:Option Nat} {g:G} {rs:List Nat} {K:aS→V→ae→Prop}:bs.wp P ⟨d,g,none,rs⟩ r h K=g.wp P (r.trim rs) h fun v aa=>K (r.set d v) v aa:=(rfl)
theorem K3 {d:Option Nat} {g:G} {j:Nat} {want:Bool} {rs:List Nat} {K:aS→V→ae→Prop}:bs.wp P ⟨d,g,some (j,want),rs⟩ r h K=
 gate (r.trim rs j) want (g.wp P (r.trim rs) h fun v aa=>K (r.set d v) v aa) (K (r.set d (.tuple [])) (.tuple []) h):=(rfl)
variable {K:V→ae→Prop}
theorem mY (k:IntKind):lp k k=true:=by cases k<;>rfl
theorem lI (a b:Int):Int.leB a b=decide (a≤b):=mB a b
theorem Cq (a b:Int):Int.fp a b=decide (a=b):=by rw [jD];rfl
variable (k:IntKind) (a b:Int)
theorem WD:(dV.int .add).run P (.int k a) (.int k b)=some (.int k (k.wrap (a+b))):=by simp [dV.run,jk,lD,V.dB,mY]
theorem XH:(dV.int .sub).run P (.int k a) (.int k b)=some (.int k (k.wrap (a-b))):=by simp [dV.run,jk,lD,V.dB,mY]
theorem Xp:(dV.int .mul).run P (.int k a) (.int k b)=some (.int k (k.wrap (a * b))):=by simp [dV.run,jk,lD,V.dB,mY]
theorem W0:(dV.int .eql).run P (.int k a) (.int k b)=some (.bool (decide (a=b))):=by simp [dV.run,jk,ko,V.dB,mY,Cq]
theorem Xs:(dV.int .neq).run P (.int k a) (.int k b)=some (.bool (!decide (a=b))):=by simp [dV.run,jk,ko,V.dB,mY,Cq]
theorem Xl:(dV.int .lss).run P (.int k a) (.int k b)=some (.bool (decide (a<b))):=by
 simp [dV.run,jk,ko,V.dB,mY,lI]
 rw [Bool.eq_iff_iff];simp
theorem Xi:(dV.int .leq).run P (.int k a) (.int k b)=some (.bool (decide (a≤b))):=by simp [dV.run,jk,ko,V.dB,mY,lI]
theorem W8:(dV.int .gtr).run P (.int k a) (.int k b)=some (.bool (decide (b<a))):=by
 simp [dV.run,jk,ko,V.dB,mY,lI]
 rw [Bool.eq_iff_iff];simp
theorem W7:(dV.int .geq).run P (.int k a) (.int k b)=some (.bool (decide (b≤a))):=by simp [dV.run,jk,ko,V.dB,mY,lI]
theorem WG (x y:Bool):(dV.sN false).run P (.bool x) (.bool y)=some (.bool (x == y)):=by simp [dV.run,hl,u_,mX]
theorem WK (x y:Bool):(dV.sN true).run P (.bool x) (.bool y)=some (.bool (!(x == y))):=by simp [dV.run,hl,u_,mX]
theorem acG (x:Bool):nH .not (.bool x)=some (.bool (!x)):=(rfl)
theorem acF:nH .neg (.int k a)=some (.int k (k.wrap (0-a))):=(rfl)
theorem wrap_i64 {n:Int} (U:-9223372036854775808≤n) (ad:n≤9223372036854775807):IntKind.i64.wrap n=n:=by
 exact Go.IntWalk.i64_in n ⟨U,ad⟩
end
section
variable {P:Program} {r:aS} {h:ae} {Q:cY→aS→ae→Prop}
theorem RD {ops:List bs}:b5 P (.aq ops) r h Q=o8 P ops r h (Q .normal):=(rfl)
theorem RE {a b:bB}:b5 P (.seq a b) r h Q=b5 P a r h fun e bn aa=>e.andThen (b5 P b bn aa Q) (Q e bn aa):=(rfl)
theorem aco {A B:Prop}:cY.andThen .normal A B=A:=(rfl)
theorem acp {A B:Prop}:cY.andThen .ret A B=B:=(rfl)
theorem acm {A B:Prop} {i:Nat}:cY.andThen (.exit i) A B=B:=(rfl)
theorem YM {id:Nat}:cY.leave id .normal=.normal:=(rfl)
theorem YN {id:Nat}:cY.leave id .ret=.ret:=(rfl)
theorem YL {id i:Nat}:cY.leave id (.exit i)=if i=id then .normal else .exit i:=(rfl)
end
end Go.Proofs.YtkehcalakofigaaGreatDoor.a1
namespace Go.Proofs.YtkehcalakofigaaGreatDoor.a1
variable [Lay]
open Go Go.RowKit
def sa {α:Type} (o:Option α) (k:α→Prop):Prop:=
 match o with
 | some v=>k v
 | none=>False
@[congr] theorem aey {α:Type} {o bU:Option α} {k:α→Prop} (h:o=bU):sa o k=sa bU k:=by rw [h]
def V.opt (c:Bool) (v:V):V:=bif c then v else .tuple []
theorem aai (v:V):V.opt true v=v:=(rfl)
theorem aaf (v:V):V.opt false v=.tuple []:=(rfl)
@[congr] theorem aei {c fz:Bool} {v fI:V} (h:c=fz) (bx:fz=true→v=fI):V.opt c v=V.opt fz fI:=by
 subst h
 cases c with
 | true=>rw [bx rfl]
 | false=>rfl
def V.bif (t:Bool) (a b:V):V:=bif t then a else b
theorem acK (a b:V):V.bif true a b=a:=(rfl)
theorem acJ (a b:V):V.bif false a b=b:=(rfl)
theorem OE (t a b:Bool):V.bif t (.bool a) (.bool b)=.bool (bif t then a else b):=by cases t<;>rfl
theorem OF (t:Bool) (k:IntKind) (a b:Int):V.bif t (.int k a) (.int k b)=.int k (if t=true then a else b):=by cases t<;>rfl
theorem OH (t x:Bool):(bif t then true else x)=(t||x):=by cases t<;>rfl
theorem OD (t x:Bool):(bif t then x else false)=(t&&x):=by cases t<;>rfl
@[congr] theorem adq {t r5:Bool} {a bf b bz:V} (h:t=r5) (bm:r5=true→a=bf) (af:r5=false→b=bz):V.bif t a b=V.bif r5 bf bz:=by
 subst h
 cases t with
 | true=>rw [V.bif,V.bif,bm rfl];rfl
 | false=>rw [V.bif,V.bif,af rfl];rfl
def ef (c:Bool) (A:Prop):Prop:=c=true→A
@[congr] theorem adm {c fz:Bool} {A hP:Prop} (h:c=fz) (bm:fz=true→A=hP):ef c A=ef fz hP:=by
 subst h
 exact propext ⟨fun q e=>(bm e) ▸ q e,fun q e=>(bm e) ▸ q e⟩
theorem Nu (c:Bool):ef c True=True:=propext ⟨fun _=>trivial,fun _ _=>trivial⟩
theorem Nw (A:Prop):ef true A=A:=propext ⟨fun q=>q rfl,fun q _=>q⟩
theorem Nv (A:Prop):ef false A=True:=propext ⟨fun _=>trivial,fun _ e=>by cases e⟩
def took (v:V) (want:Bool):Bool:=
 match v with
 | .bool b=>b == want
 | _=>false
theorem acs (b w:Bool):took (.bool b) w=(b == w):=(rfl)
theorem acv (ab:List V) (w:Bool):took (.tuple ab) w=false:=(rfl)
theorem acu (c:Bool) (v:V) (w:Bool):took (.opt c v) w=(c&&took v w):=by cases c<;>rfl
def eE (v:V):Prop:=
 match v with
 | .bool _=>True
 | .tuple _=>True
 | _=>False
theorem Wv (b:Bool):eE (.bool b)=True:=(rfl)
theorem Wx (ab:List V):eE (.tuple ab)=True:=(rfl)
theorem Ww (c b:Bool):eE (.opt c (.bool b))=True:=by cases c<;>rfl
def G.lE:G→Bool
 | .dk _ | .pick .. | .build .. | .fS _ | .hY .. | .p2 _ | .bin .. | .un .. | .fn .. | .wh .. | .xC .. | .oE .. | .nF .. | .fH .. | .e2 .. | .qV .. | .qW .. | .c4 .. | .pN .. | .jU .. | .hI .. | .look .. | .ext .. | .tJ _ | .dt _=>true
 | .g' (.int _) _=>true
 | .len .map _=>false
 | .len _ _=>true
 | _=>false
def V.oO {α:Type} (v:V) (d:α) (f:List V→α):α:=
 match v with
 | .agg cs=>f cs
 | _=>d
def V.wx {α:Type} (v:V) (d:α) (f:List V→α):α:=
 match v with
 | .tuple cs=>f cs
 | _=>d
def wH (c a b:V):Option V:=
 match c with
 | .bool t=>some (V.bif t a b)
 | _=>none
theorem aaw (t:Bool) (a b:V):wH (.bool t) a b=some (V.bif t a b):=(rfl)
def oX (n:Nat) (x:V) (bJ aB m3:Option V):Option V:=
 match x with
 | .cq=>z_ bJ aB m3
 | .slice b off rK cap=>qh n b off rK cap bJ aB m3
 | .dP b off rK idx=>uh n b off rK idx bJ aB m3
 | .fy b off k4 idx=>Aa b off k4 idx bJ aB m3
 | _=>none
noncomputable def G.jw (P:Program) (g:G) (r:aS) (h:ae):Option V:=
 match g with
 | .dk x=>some (x.aU r)
 | .pick c a b=>wH (c.aU r) (a.aU r) (b.aU r)
 | .build z ba=>(match ha z (h7 r ba) with
   | some cs=>some (.agg cs)
   | none=>none)
 | .fS x=>ks h (x.aU r)
 | .hY n x=>kr n h (x.aU r)
 | .p2 x=>p1 (x.aU r)
 | .bin k x y=>k.run P (x.aU r) (y.aU r)
 | .un op x=>nH op (x.aU r)
 | .g' (.int k) x=>(x.aU r).dB none fun _ n=>some (.int k (k.wrap n))
 | .fn f dO=>some (.func f (aR.eL r dO))
 | .wh f first=>some (.jW f (aR.eL r first))
 | .xC t z ok x=>uR t z ok (x.aU r)
 | .oE t x=>some (.iface t (x.aU r))
 | .nF x bJ aB m3=>j0 (x.aU r) (aR.opt r bJ) (aR.opt r aB) (aR.opt r m3)
 | .fH n x bJ aB m3=>oX n (x.aU r) (aR.opt r bJ) (aR.opt r aB) (aR.opt r m3)
 | .e2 off x=>(x.aU r).ht none fun b o=>some (.ptr b (o+off))
 | .qV off x=>(x.aU r).oO none fun cs=>cs[off]?
 | .qW off n x=>(x.aU r).oO none fun cs=>some (.agg ((cs.drop off).take n))
 | .c4 n x i=>(rE n).run (x.aU r) (i.aU r)
 | .pN n s x i=>(oG n s).run (x.aU r) (i.aU r)
 | .jU x i=>oI.run (x.aU r) (i.aU r)
 | .hI t x i=>(oH P t).run (x.aU r) (i.aU r)
 | .look k z ok x i=>jr k.eq z ok h (x.aU r) (i.aU r)
 | .ext x i=>(x.aU r).wx none fun ab=>ab[i]?
 | .len (.arr n) _=>some (.int .i64 n)
 | .len .str x=>(lJ .string).run (x.aU r)
 | .len .slice x=>(lJ (.slice 0)).run (x.aU r)
 | .tJ args=>ij (fun b a=>!Int.leB a b) (aR.eL r args)
 | .dt args=>ij (fun b a=>!Int.leB b a) (aR.eL r args)
 | _=>none
section
variable {P:Program} {r:aS} {h:ae}
theorem pure_run {g:G} (ah:g.lE=true) (call:c9):g.run P call r h=aT.of h (g.jw P r h):=by
 cases g<;>simp only [G.lE] at ah<;>try (cases ah;done)
 all_goals simp only [G.run,G.jw]
 case dk x=>rfl
 case pick c a b=>
  generalize c.aU r=q
  cases q<;>rfl
 case build z ba=>
  generalize ha z (h7 r ba)=q
  cases q<;>rfl
 case g' k x=>
  cases k<;>simp only at ah<;>try (cases ah;done)
  simp only [o_.run]
  generalize x.aU r=q
  cases q<;>rfl
 case fn f dO=>rfl
 case wh f first=>rfl
 case oE t x=>rfl
 case fH n x bJ aB m3=>
  unfold oX
  generalize x.aU r=q
  cases q<;>rfl
 case qV off x=>
  generalize x.aU r=q
  cases q<;>rfl
 case qW off n x=>
  generalize x.aU r=q
  cases q<;>rfl
 case ext x i=>
  generalize x.aU r=q
  cases q<;>rfl
 case len k x=>
  cases k<;>simp only at ah<;>first | rfl | (cases ah;done)
theorem Iz {g:G} (ah:g.lE=true) {K:V→ae→Prop}:g.wp P r h K=sa (g.jw P r h) fun v=>K v h:=by
 have e:g.wp P r h K=∃v aa,g.run P iS r h=.val v aa∧K v aa:=by
  cases g<;>first | rfl | (simp [G.lE] at ah;done)
 rw [e,pure_run ah]
 apply propext
 cases bx:g.jw P r h with
 | none=>exact ⟨fun ⟨v,aa,q,_⟩=>(by cases q),fun q=>q.elim⟩
 | some v=>
   constructor
   · rintro ⟨v1,U,q,k⟩
     simp only [aT.of,aT.val.injEq] at q
     obtain ⟨rfl,rfl⟩:=q
     exact k
   · intro k
     exact ⟨v,h,rfl,k⟩
theorem K6 {d:Option Nat} {g:G} {rs:List Nat} {K:aS→V→ae→Prop} (ah:g.lE=true):bs.wp P ⟨d,g,none,rs⟩ r h K=sa (g.jw P (r.trim rs) h) fun v=>K (r.set d v) v h:=by
 rw [K5,Iz ah]
theorem K4 {d:Option Nat} {g:G} {j:Nat} {want:Bool} {rs:List Nat} {K:aS→V→ae→Prop} (ah:g.lE=true):bs.wp P ⟨d,g,some (j,want),rs⟩ r h K=
 (eE (r.trim rs j)∧ef (took (r.trim rs j) want) ((g.jw P (r.trim rs) h).isSome=true)∧
   K (r.set d (V.opt (took (r.trim rs j) want) ((g.jw P (r.trim rs) h).getD .bad))) (V.opt (took (r.trim rs j) want) ((g.jw P (r.trim rs) h).getD .bad)) h):=by
 rw [K3,Iz ah]
 generalize r.trim rs j=q
 generalize g.jw P (r.trim rs) h=o
 apply propext
 cases q<;>simp only [gate,eE,took,false_and,true_and]
 case bool b=>
  cases b<;>cases want<;>cases o<;>simp [sa,ef,V.opt]
 case tuple ab=>simp [ef,V.opt]
@[congr] theorem aeD {os:List bs} {r bn:aS} {h aa:ae} {K:aS→ae→Prop} (aE:r=bn) (aM:h=aa):o8 P os r h K=o8 P os bn aa K:=by rw [aE,aM]
@[congr] theorem aeB {os:List bs} {r bn:aS} {h aa:ae} {K:List eY→aS→ae→Prop} (aE:r=bn) (aM:h=aa):iX P os r h K=iX P os bn aa K:=by rw [aE,aM]
@[congr] theorem adk {o:bs} {r bn:aS} {h aa:ae} {K:aS→V→ae→Prop} (aE:r=bn) (aM:h=aa):o.wp P r h K=o.wp P bn aa K:=by rw [aE,aM]
@[congr] theorem adl {g:G} {r bn:aS} {h aa:ae} {K:V→ae→Prop} (aE:r=bn) (aM:h=aa):g.wp P r h K=g.wp P bn aa K:=by rw [aE,aM]
@[congr] theorem aeA {c:bB} {r bn:aS} {h aa:ae} {Q:cY→aS→ae→Prop} (aE:r=bn) (aM:h=aa):b5 P c r h Q=b5 P c bn aa Q:=by rw [aE,aM]
@[congr] theorem adj {f:FuncId} {a bf:List V} {h aa:ae} {K:V→ae→Prop} (aE:a=bf) (aM:h=aa):bF P f a h K=bF P f bf aa K:=by rw [aE,aM]
noncomputable def hc (k:bV) (off:Nat):Option V:=k.lR none fun n cs=>bif Nat.blt off n then some (T.get .bad (aH off) cs) else none
noncomputable def mA (n:Nat) (k:bV) (off:Nat):Option V:=k.lR none fun m cs=>bif Nat.ble (off+n) m then some (.agg (fN cs off n)) else none
theorem Y3 (b:aO) (off:Nat):ks h (.ptr b off)=hc (h.get b) off:=(rfl)
theorem Y5 (n:Nat) (b:aO) (off:Nat):kr n h (.ptr b off)=mA n (h.get b) off:=(rfl)
theorem Kq {ab:List V} {off:Nat}:(bif Nat.blt off ab.length then some (T.get .bad (aH off) (eN .e 0 ab)) else none)=ab[off]? :=by
 have:=yi ab 0 off .e
 rw [Nat.zero_add] at this
 rw [this]
 by_cases aP:off<ab.length
 · rw [show Nat.blt off ab.length=true from by rw [Nat.blt_eq];exact aP,if_pos aP]
   simp [List.getElem?_eq_getElem aP]
 · rw [show Nat.blt off ab.length=false from by rw [←Bool.not_eq_true,Nat.blt_eq];exact aP]
   rw [List.getElem?_eq_none (by omega)]
   rfl
theorem Ko (ab:List V) (cj:Nat) (st:Bool) (off:Nat):hc (.bk ab cj st) off=ab[off]? :=Kq
theorem Kp (ab:List V) (off:Nat):hc (.ro ab) off=ab[off]? :=Kq
theorem Kt {ab:List V} {off n:Nat}:(bif Nat.ble (off+n) ab.length then some (V.agg (fN (eN .e 0 ab) off n)) else none)=if off+n≤ab.length then some (.agg ((ab.drop off).take n)) else none:=by
 by_cases aP:off+n≤ab.length
 · rw [show Nat.ble (off+n) ab.length=true from by rw [Nat.ble_eq];exact aP,if_pos aP,yk ab n off aP]
   rfl
 · rw [show Nat.ble (off+n) ab.length=false from by rw [←Bool.not_eq_true,Nat.ble_eq];exact aP,if_neg aP]
   rfl
theorem En (n:Nat) (ab:List V) (cj:Nat) (st:Bool) (off:Nat):mA n (.bk ab cj st) off=if off+n≤ab.length then some (.agg ((ab.drop off).take n)) else none:=Kt
theorem Ks (n:Nat) (ab:List V) (off:Nat):mA n (.ro ab) off=if off+n≤ab.length then some (.agg ((ab.drop off).take n)) else none:=Kt
theorem Rd.fS {b:aO} {ab:List V} (H:Rd h b ab) (off:Nat):hc (h.get b) off=ab[off]? :=by
 rcases H with H | ⟨_,_,H⟩<;>rw [H]
 · exact Kp ab off
 · exact Ko ab _ _ off
theorem Rd.hY {b:aO} {ab:List V} (H:Rd h b ab) (n off:Nat):mA n (h.get b) off=if off+n≤ab.length then some (.agg ((ab.drop off).take n)) else none:=by
 rcases H with H | ⟨_,_,H⟩<;>rw [H]
 · exact Ks n ab off
 · exact En n ab _ _ off
def over:List V→List V→List V
 | ab,[]=>ab
 | [],_::_=>[]
 | _::ab,w::ws=>w::over ab ws
def lS:List V→Nat→List V→List V
 | ab,0,ws=>over ab ws
 | [],_+1,_=>[]
 | v::ab,n+1,ws=>v::lS ab n ws
theorem Ll:∀(ab ws:List V),ws.length≤ab.length→over ab ws=ws++ab.drop ws.length
 | ab,[],_=>by cases ab<;>rfl
 | [],_::_,h=>by simp at h
 | v::ab,w::ws,h=>by
   simp only [over,List.cons_append,List.length_cons,List.drop_succ_cons]
   rw [Ll ab ws (by simpa using h)]
theorem Ac:∀(ab:List V) (off:Nat) (ws:List V),off+ws.length≤ab.length→lS ab off ws=hh ab off ws
 | ab,0,ws,h=>by
   cases ab<;>simp only [lS,hh,List.take_zero,List.nil_append,Nat.zero_add]<;>exact Ll _ ws (by omega)
 | [],n+1,ws,h=>by simp at h
 | v::ab,n+1,ws,h=>by
   simp only [List.length_cons] at h
   simp only [lS,hh]
   rw [Ac ab n ws (by omega)]
   simp only [hh,List.take_succ_cons,List.cons_append]
   rw [show n+1+ws.length=n+ws.length+1 from by omega,List.drop_succ_cons]
theorem abU (ab:List V) (off:Nat) (ws:List V) (h:off+ws.length≤ab.length):(lS ab off ws).length=ab.length:=by
 rw [Ac ab off ws h,Ad ab off ws h]
noncomputable def v7 (n:Nat) (h:ae) (b:aO) (off:Nat) (y:V) (k:bV):Option ae:=
 bif Nat.beq y.cells.length n then k.on none fun m cs cj st=>
  bif Nat.ble (off+y.cells.length) m&&eb y.cells then some (h.set b (.cells m (eN cs off y.cells) cj st)) else none else none
theorem ab3 (n:Nat) (b:aO) (off:Nat) (y:V):r4 n h (.ptr b off) y=v7 n h b off y (h.get b):=(rfl)
theorem YA {n:Nat} {b:aO} {off:Nat} {y:V} {ab:List V} {cj:Nat} {st:Bool} (U:y.cells.length=n) (ad:eb y.cells=true) (aI:off+n≤ab.length):
 v7 n h b off y (.bk ab cj st)=some (h.set b (.bk (lS ab off y.cells) cj st)):=by
 unfold v7
 rw [show Nat.beq y.cells.length n=true from by rw [Nat.beq_eq];exact U]
 simp only [cond_true,bV.bk,bV.on]
 rw [show Nat.ble (off+y.cells.length) ab.length=true from by rw [Nat.ble_eq,U];exact aI,ad]
 simp only [Bool.and_true,cond_true,Option.some.injEq]
 rw [abU ab off _ (by rw [U];exact aI),Ac ab off _ (by rw [U];exact aI),zI _ ab off (by rw [U];exact aI)]
theorem l9 (k:bV):(h.new k).get (aH h.next)=k:=by rw [ae.gE,if_pos rfl]
theorem gE (b:aO) (k:bV):(h.new k).get b=if aH h.next=b then k else h.get b:=ae.gE h b k
theorem dG (b bz:aO) (k:bV):(h.set b k).get bz=if b=bz then k else h.get bz:=ae.dG h b bz k
def Old (h:ae) (b:aO):Prop:=cr b<h.next
theorem rR:∀b:aO,aH (cr b)=b:=by
 have key:∀(b:aO) (d:Nat),cr b+1<2 ^ d→p6 d (cr b)=b:=by
  intro b
  induction b with
  | z=>intro d aV;cases d<;>rfl
  | l p bh=>
    intro d aV
    cases d with
    | zero=>simp [cr] at aV
    | succ d=>
      have ad:2 ^ (d+1)=2 * 2 ^ d:=by rw [Nat.pow_succ];omega
      rw [ad] at aV
      simp only [cr] at aV ⊢
      simp only [p6,fK]
      rw [if_neg (by omega),if_pos (by omega),show (2 * cr p+1) / 2=cr p from by omega,bh d (by omega)]
  | r p bh=>
    intro d aV
    cases d with
    | zero=>simp [cr] at aV
    | succ d=>
      have ad:2 ^ (d+1)=2 * 2 ^ d:=by rw [Nat.pow_succ];omega
      rw [ad] at aV
      simp only [cr] at aV ⊢
      simp only [p6,fK]
      rw [if_neg (by omega),if_neg (by omega),show (2 * cr p+2) / 2-1=cr p from by omega,bh d (by omega)]
 intro b
 exact key b _ Nat.lt_log2_self
theorem ES {b:aO} {i:Nat} (af:Old h b) (aB:h.next≤i):(aH i=b)=False:=by
 apply propext
 constructor
 · intro e
   unfold Old at af
   rw [←e,dR] at af
   omega
 · exact False.elim
theorem La {k:bV}:Old (h.new k) (aH h.next):=by unfold Old;rw [dR];exact Nat.lt_succ_self _
def x8 (off:Nat) (x:V):Option V:=x.ht none fun b o=>some (.ptr b (o+off))
theorem S' (off:Nat) (b:aO) (o:Nat):x8 off (.ptr b o)=some (.ptr b (o+off)):=(rfl)
theorem ZW {α:Type} (ab:List V) (d:α) (f:List V→α):V.wx (.tuple ab) d f=f ab:=(rfl)
theorem ZV {α:Type} (ab:List V) (d:α) (f:List V→α):V.oO (.agg ab) d f=f ab:=(rfl)
def iO (x:V):Option V:=(lJ (.slice 0)).run x
theorem YS (b:aO) (off n c:Nat):iO (.slice b off n c)=some (.int .i64 n):=(rfl)
theorem YQ (b:aO) (off n c:Nat):iO (.dP b off n c)=some (.int .i64 n):=(rfl)
theorem YT (b:aO) (off n c:Nat):iO (.fy b off n c)=some (.int .i64 0):=(rfl)
theorem YR:iO .cq=some (.int .i64 0):=(rfl)
def y' (x:V):Option V:=(lJ .string).run x
theorem YU (s:List UInt8):y' (.str s)=some (.int .i64 s.length):=(rfl)
def jS (n:Nat) (x i:V):Option V:=(rE n).run x i
theorem J0 (n:Nat) (b:aO) (off len cap:Nat) (k:IntKind) (i:Int):jS n (.slice b off len cap) (.int k i)=if 0≤i∧i<len then some (.ptr b (off+i.toNat * n)) else none:=by
 simp only [jS,rE,V.dB,pQ,lI]
 by_cases U:0≤i<;>by_cases ad:(len:Int)≤i<;>simp [U,ad]<;>omega
theorem JZ (n:Nat) (b:aO) (off len cap:Nat) (k:IntKind) (i:Int):jS n (.dP b off len cap) (.int k i)=if 0≤i∧i<len then some (.ptr b (off+i.toNat * n)) else none:=by
 simp only [jS,rE,V.dB,pQ,lI]
 by_cases U:0≤i<;>by_cases ad:(len:Int)≤i<;>simp [U,ad]<;>omega
def xW (k:IntKind) (x:V):Option V:=x.dB none fun _ n=>some (.int k (k.wrap n))
theorem Su (k bl:IntKind) (n:Int):xW k (.int bl n)=some (.int k (k.wrap n)):=(rfl)
end
end Go.Proofs.YtkehcalakofigaaGreatDoor.a1
namespace Go.Proofs.YtkehcalakofigaaGreatDoor.a1
variable [Lay]
open Go Go.RowKit
structure gM where
 all:List bs
 asks:List (Nat × List Nat)
 es:List eY
def hf (D:Option gM) (r:aS) (h:ae) (v:V):Option gM:=
 match D with
 | none=>none
 | some d=>some ⟨d.all,d.asks,d.es++[⟨r,h,v⟩]⟩
inductive gl where
 | os (D:Option gM) (os:List bs)
 | c (b:bB)
 | bd (id:Nat)
section
variable (P:Program)
noncomputable def qE (D:Option gM) (es:List eY) (ax:ae):Prop:=
 match D with
 | none=>True
 | some d=>l1 P d.all (d.es++es) ax d.asks
noncomputable def bj:List gl→cY→aS→ae→(cY→aS→ae→Prop)→Prop
 | [],e,r,h,Q=>Q e r h
 | .os D os::aJ,e,r,h,Q=>match e with
   | .normal=>iX P os r h fun es bn aa=>qE P D es aa∧bj aJ .normal bn aa Q
   | e=>bj aJ e r h Q
 | .c b::aJ,e,r,h,Q=>match e with
   | .normal=>b5 P b r h fun e bn aa=>bj aJ e bn aa Q
   | e=>bj aJ e r h Q
 | .bd id::aJ,e,r,h,Q=>bj aJ (e.leave id) r h Q
noncomputable def c0 (o:Option V) (d:Option Nat) (D:Option gM) (os:List bs) (aJ:List gl) (r:aS) (h:ae) (Q:cY→aS→ae→Prop):Prop:=
 sa o fun v=>bj P (.os (hf D r h v) os::aJ) .normal (r.set d v) h Q
noncomputable def hO (o:aT) (d:Option Nat) (D:Option gM) (os:List bs) (aJ:List gl) (r:aS) (bb:ae) (Q:cY→aS→ae→Prop):Prop:=
 match o with
 | .val v h=>bj P (.os (hf D r bb v) os::aJ) .normal (r.set d v) h Q
 | _=>False
noncomputable def e3 (v:V) (want:Bool) (d:Option Nat) (g:G) (rs:List Nat) (D:Option gM) (os:List bs) (aJ:List gl) (r:aS) (h:ae) (Q:cY→aS→ae→Prop):Prop:=
 gate v want (bj P (.os D (⟨d,g,none,rs⟩::os)::aJ) .normal r h Q) (bj P (.os (hf D r h (.tuple [])) os::aJ) .normal (r.set d (.tuple [])) h Q)
noncomputable def sF (v:V) (a b:bB) (aJ:List gl) (r:aS) (h:ae) (Q:cY→aS→ae→Prop):Prop:=
 match v with
 | .bool t=>(t=true→bj P (.c a::aJ) .normal r h Q)∧(t=false→bj P (.c b::aJ) .normal r h Q)
 | _=>False
noncomputable def mU (f:FuncId) (args:List V) (d:Option Nat) (D:Option gM) (os:List bs) (aJ:List gl) (r:aS) (h:ae) (Q:cY→aS→ae→Prop):Prop:=
 bF P f args h fun v aa=>bj P (.os (hf D r h v) os::aJ) .normal (r.set d v) aa Q
noncomputable def An (xs:List V) (d:Option Nat) (D:Option gM) (os:List bs) (aJ:List gl) (r:aS) (h:ae) (Q:cY→aS→ae→Prop):Prop:=
 Gv P xs h fun v aa=>bj P (.os (hf D r h v) os::aJ) .normal (r.set d v) aa Q
noncomputable def B9 (g:FuncId) (xs:List V) (d:Option Nat) (D:Option gM) (os:List bs) (aJ:List gl) (r:aS) (h:ae) (Q:cY→aS→ae→Prop):Prop:=
 if g=4294967296 then An P xs d D os aJ r h Q else mU P g xs d D os aJ r h Q
noncomputable def sE (f:V) (args:List V) (d:Option Nat) (D:Option gM) (os:List bs) (aJ:List gl) (r:aS) (h:ae) (Q:cY→aS→ae→Prop):Prop:=
 ∃g xs,f.target args=some (g,xs)∧B9 P g xs d D os aJ r h Q
noncomputable def zd (b:bB) (aJ:List gl) (r:aS) (h:ae) (Q:cY→aS→ae→Prop):Prop:=b5 P (.loop b) r h fun e bn aa=>bj P aJ e bn aa Q
end
section
variable {P:Program} {r:aS} {h:ae} {Q:cY→aS→ae→Prop} {aJ:List gl} {os:List bs} {D:Option gM}
theorem aaE (r:aS) (h:ae) (v:V):hf none r h v=none:=(rfl)
theorem aaF (all:List bs) (asks:List (Nat × List Nat)) (es:List eY) (r:aS) (h:ae) (v:V):hf (some ⟨all,asks,es⟩) r h v=some ⟨all,asks,es++[⟨r,h,v⟩]⟩:=(rfl)
theorem db {c:bB} (H:bj P [.c c] .normal r h Q):b5 P c r h Q:=H
theorem Xu {e:cY}:bj P [] e r h Q=Q e r h:=(rfl)
theorem WI {e:cY} {id:Nat}:bj P (.bd id::aJ) e r h Q=bj P aJ (e.leave id) r h Q:=(rfl)
theorem XC {a b:bB}:bj P (.c (.seq a b)::aJ) .normal r h Q=bj P (.c a::.c b::aJ) .normal r h Q:=by
 simp only [bj]
 rw [RE]
 congr 1
 funext e bn aa
 cases e<;>rfl
theorem WJ {id:Nat} {b:bB}:bj P (.c (.block id b)::aJ) .normal r h Q=bj P (.c b::.bd id::aJ) .normal r h Q:=(rfl)
theorem M6:∀(os:List bs) (r:aS) (h:ae) (K:aS→ae→Prop),iX P os r h (fun _ r h=>K r h)=o8 P os r h K
 | [],_,_,_=>rfl
 | o::os,r,h,K=>by
   simp only [iX,o8]
   congr 1
   funext bn v aa
   exact M6 os bn aa K
theorem Xz {ops:List bs}:bj P (.c (.aq ops)::aJ) .normal r h Q=bj P (.os none ops::aJ) .normal r h Q:=by
 simp only [bj,qE,true_and]
 rw [M6,RD]
theorem XD:bj P (.c .skip::aJ) .normal r h Q=bj P aJ .normal r h Q:=(rfl)
theorem XA:bj P (.c .ret::aJ) .normal r h Q=bj P aJ .ret r h Q:=(rfl)
theorem W1 {i:Nat}:bj P (.c (.exit i)::aJ) .normal r h Q=bj P aJ (.exit i) r h Q:=(rfl)
theorem WT {b:bB}:bj P (.c b::aJ) .ret r h Q=bj P aJ .ret r h Q:=(rfl)
theorem WQ {b:bB} {i:Nat}:bj P (.c b::aJ) (.exit i) r h Q=bj P aJ (.exit i) r h Q:=(rfl)
theorem WR {c:aR} {a b:bB}:bj P (.c (.cond c a b)::aJ) .normal r h Q=sF P (c.aU r) a b aJ r h Q:=by
 simp only [bj,b5]
 cases c.aU r<;>rfl
theorem aaT {f:aR} {ba:List Nat} {an:Nat} {a b:bB} {g:FuncId} {cs:List V} (bx:f.aU r=.func g cs) (aD:g≠cM) (af:∃fn,P.funcs[g]? =some fn∧fn.body.isSome=true)
 (H:∀l,xo P l an r ba a b→l.st=0→l.ew=none→bF P g (.func cM [.ptr (aH (h.next+1)) 0]::cs) ((h.new .e0).new (.dv l)) fun _ aa=>
   ∃dZ,aa.get (aH (h.next+1))=.dv dZ∧dZ.st≠1∧bj P aJ (dZ.ew.getD .normal) (r.set (some d_) (.tuple (.ptr (aH h.next) 0::(r d_).list))) (aa.set (aH (h.next+1)) .dead) Q):
 bj P (.c (.range f ba an a b)::aJ) .normal r h Q:=by
 simp only [bj,b5]
 exact ⟨g,cs,bx,aD,af,H⟩
theorem Xk {b:bB}:bj P (.c (.loop b)::aJ) .normal r h Q=zd P b aJ r h Q:=(rfl)
theorem WZ {ops:List bs} {asks:List (Nat × List Nat)}:bj P (.c (.draw ops asks)::aJ) .normal r h Q=bj P (.os (some ⟨ops,asks,[]⟩) ops::aJ) .normal r h Q:=(rfl)
theorem Xx:bj P (.os none []::aJ) .normal r h Q=bj P aJ .normal r h Q:=by
 simp only [bj,iX,qE,true_and]
theorem WY {all:List bs} {asks:List (Nat × List Nat)} {es:List eY}:bj P (.os (some ⟨all,asks,es⟩) []::aJ) .normal r h Q=(l1 P all es h asks∧bj P aJ .normal r h Q):=by
 simp only [bj,iX,qE,List.append_nil]
theorem sA (D:Option gM) (r:aS) (h:ae) (v:V) (es:List eY) (ax:ae):qE P (hf D r h v) es ax=qE P D (⟨r,h,v⟩::es) ax:=by
 cases D with
 | none=>rfl
 | some d=>simp only [hf,qE,List.append_assoc,List.cons_append,List.nil_append]
theorem fQ {d:Option Nat} {g:G} {rs:List Nat} (ah:g.lE=true):bj P (.os D (⟨d,g,none,rs⟩::os)::aJ) .normal r h Q=c0 P (g.jw P (r.trim rs) h) d D os aJ r h Q:=by
 simp only [bj,iX,c0]
 rw [K6 ah]
 simp only [sA]
theorem fP {d:Option Nat} {g:G} {j:Nat} {want:Bool} {rs:List Nat} (ah:g.lE=true):bj P (.os D (⟨d,g,some (j,want),rs⟩::os)::aJ) .normal r h Q=
 (eE (r.trim rs j)∧ef (took (r.trim rs j) want) ((g.jw P (r.trim rs) h).isSome=true)∧
   c0 P (some (V.opt (took (r.trim rs j) want) ((g.jw P (r.trim rs) h).getD .bad))) d D os aJ r h Q):=by
 simp only [bj,iX,c0,sa]
 rw [K4 ah]
 simp only [sA]
def G.J_:G→Bool
 | .call .. | .ll .. =>true
 | _=>false
theorem jV {d:Option Nat} {g:G} {rs:List Nat} (ah:g.lE=false) (ar:g.J_=false):bj P (.os D (⟨d,g,none,rs⟩::os)::aJ) .normal r h Q=hO P (g.run P iS (r.trim rs) h) d D os aJ r h Q:=by
 simp only [bj,iX]
 rw [K5]
 have e:∀K:V→ae→Prop,g.wp P (r.trim rs) h K=∃v aa,g.run P iS (r.trim rs) h=.val v aa∧K v aa:=by
  intro K
  cases g<;>first | rfl | (simp [G.J_] at ar;done)
 rw [e]
 unfold hO
 simp only [bj,sA]
 cases g.run P iS (r.trim rs) h with
 | fail=>exact propext ⟨fun ⟨v,aa,q,_⟩=>(by cases q),fun q=>q.elim⟩
 | cb v1 U=>exact propext ⟨fun ⟨v,aa,q,_⟩=>(by cases q),fun q=>q.elim⟩
 | val v1 U=>
   apply propext
   constructor
   · rintro ⟨v,aa,q,k⟩
     simp only [aT.val.injEq] at q
     obtain ⟨rfl,rfl⟩:=q
     exact k
   · intro k
     exact ⟨_,_,rfl,k⟩
theorem iM {d:Option Nat} {g:G} {j:Nat} {want:Bool} {rs:List Nat} (ah:g.lE=false):bj P (.os D (⟨d,g,some (j,want),rs⟩::os)::aJ) .normal r h Q=e3 P (r.trim rs j) want d g rs D os aJ r h Q:=by
 simp only [e3,bj,iX,sA]
 rw [K3]
 rfl
theorem Kf {d:Option Nat} {f:FuncId} {args:List aR} {rs:List Nat}:bj P (.os D (⟨d,.call f args,none,rs⟩::os)::aJ) .normal r h Q=mU P f (aR.eL (r.trim rs) args) d D os aJ r h Q:=by
 simp only [mU,bj,iX,sA]
 rfl
theorem WO {d:Option Nat} {f:aR} {args:List aR} {rs:List Nat}:bj P (.os D (⟨d,.ll f args,none,rs⟩::os)::aJ) .normal r h Q=sE P (f.aU (r.trim rs)) (aR.eL (r.trim rs) args) d D os aJ r h Q:=by
 simp only [sE,B9,An,mU,bj,iX,sA]
 rfl
theorem RI {f:V} {g:FuncId} {xs args:List V} {d:Option Nat} (ax:f.target args=some (g,xs)):sE P f args d D os aJ r h Q=B9 P g xs d D os aJ r h Q:=by
 apply propext
 constructor
 · rintro ⟨Ts,aeG,q,k⟩
   rw [ax] at q
   simp only [Option.some.injEq,Prod.mk.injEq] at q
   obtain ⟨rfl,rfl⟩:=q
   exact k
 · intro k
   exact ⟨_,_,ax,k⟩
theorem xQ {g:FuncId} {cs args:List V} {d:Option Nat}:sE P (.func g cs) args d D os aJ r h Q=if g=4294967296 then An P (args++cs) d D os aJ r h Q else mU P g (args++cs) d D os aJ r h Q:=RI rfl
@[congr] theorem aes {o bU:Option V} {d:Option Nat} (e:o=bU):c0 P o d D os aJ r h Q=c0 P bU d D os aJ r h Q:=by rw [e]
@[congr] theorem aer {o bU:aT} {d:Option Nat} (e:o=bU):hO P o d D os aJ r h Q=hO P bU d D os aJ r h Q:=by rw [e]
@[congr] theorem adv {v fI:V} {a b:bB} (e:v=fI):sF P v a b aJ r h Q=sF P fI a b aJ r h Q:=by rw [e]
@[congr] theorem adG {v fI:V} {want:Bool} {d:Option Nat} {g:G} {rs:List Nat} (e:v=fI):e3 P v want d g rs D os aJ r h Q=e3 P fI want d g rs D os aJ r h Q:=by rw [e]
@[congr] theorem adt {f sQ:V} {args uO:List V} {d:Option Nat} (aE:f=sQ) (aM:args=uO):sE P f args d D os aJ r h Q=sE P sQ uO d D os aJ r h Q:=by rw [aE,aM]
@[congr] theorem ads {f:FuncId} {args uO:List V} {d:Option Nat} (aM:args=uO):mU P f args d D os aJ r h Q=mU P f uO d D os aJ r h Q:=by rw [aM]
@[congr] theorem aeC {e cQ:cY} {bn:aS} {aa:ae} (cC:e=cQ) (aE:r=bn) (aM:h=aa):bj P aJ e r h Q=bj P aJ cQ bn aa Q:=by rw [cC,aE,aM]
@[congr] theorem ad4 {b:bB} {bn:aS} {aa:ae} (aE:r=bn) (aM:h=aa):zd P b aJ r h Q=zd P b aJ bn aa Q:=by rw [aE,aM]
theorem ab8 {v:V} {d:Option Nat}:c0 P (some v) d D os aJ r h Q=bj P (.os (hf D r h v) os::aJ) .normal (r.set d v) h Q:=(rfl)
theorem abO {v:V} {aa:ae} {d:Option Nat}:hO P (.val v aa) d D os aJ r h Q=bj P (.os (hf D r h v) os::aJ) .normal (r.set d v) aa Q:=(rfl)
theorem Hw {t:Bool} {a b:bB}:sF P (.bool t) a b aJ r h Q=((t=true→bj P (.c a::aJ) .normal r h Q)∧(t=false→bj P (.c b::aJ) .normal r h Q)):=(rfl)
theorem IB {b:Bool} {d:Option Nat} {g:G} {rs:List Nat}:e3 P (.bool b) true d g rs D os aJ r h Q=((b=true→bj P (.os D (⟨d,g,none,rs⟩::os)::aJ) .normal r h Q)∧(b=false→bj P (.os (hf D r h (.tuple [])) os::aJ) .normal (r.set d (.tuple [])) h Q)):=(rfl)
theorem IA {b:Bool} {d:Option Nat} {g:G} {rs:List Nat}:e3 P (.bool b) false d g rs D os aJ r h Q=((b=false→bj P (.os D (⟨d,g,none,rs⟩::os)::aJ) .normal r h Q)∧(b=true→bj P (.os (hf D r h (.tuple [])) os::aJ) .normal (r.set d (.tuple [])) h Q)):=(rfl)
theorem TI {ab:List V} {want:Bool} {d:Option Nat} {g:G} {rs:List Nat}:e3 P (.tuple ab) want d g rs D os aJ r h Q=bj P (.os (hf D r h (.tuple [])) os::aJ) .normal (r.set d (.tuple [])) h Q:=(rfl)
theorem TC {c b:Bool} {want:Bool} {d:Option Nat} {f:FuncId} {args:List aR} {rs:List Nat} (v:V)
 (bx:(c&&(b == want))=true→eo P f (aR.eL (r.trim rs) args) h v h)
 (H:bj P (.os (hf D r h (V.opt (c&&(b == want)) v)) os::aJ) .normal (r.set d (V.opt (c&&(b == want)) v)) h Q):e3 P (V.opt c (.bool b)) want d (.call f args) rs D os aJ r h Q:=by
 unfold e3
 rw [Kf]
 cases c with
 | false=>exact H
 | true=>
   simp only [V.opt,cond_true,Bool.true_and] at bx H ⊢
   cases b<;>cases want<;>simp only [gate]
   · exact ⟨fun _=>⟨v,h,bx rfl,H⟩,fun e=>by cases e⟩
   · exact ⟨fun e=>(by cases e),fun _=>H⟩
   · exact ⟨fun e=>(by cases e),fun _=>H⟩
   · exact ⟨fun _=>⟨v,h,bx rfl,H⟩,fun e=>by cases e⟩
def p5 (v:V) (o:Option ae):aT:=fV v o
theorem aaj (v:V) (aa:ae):p5 v (some aa)=.val v aa:=(rfl)
def GZ (b:Bool) (o:aT):aT:=bif b then o else .fail
theorem OO (o:aT):GZ true o=o:=(rfl)
noncomputable def xI (n:Nat) (h:ae) (o:Option (List V)):aT:=
 match o with
 | some cs=>p5 (.slice (aH h.next) 0 n n) (e8 h cs)
 | none=>.fail
theorem OP (n:Nat) (cs:List V):xI n h (some cs)=p5 (.slice (aH h.next) 0 n n) (e8 h cs):=(rfl)
theorem abj {n size:Nat} {z:List V} {ba:List (Nat × Nat × aR)}:(G.gZ n size z ba).run P iS r h=xI n h (ha (gV z n) (h7 r ba)):=by
 simp only [G.run]
 cases ha (gV z n) (h7 r ba) with
 | none=>rfl
 | some cs=>
   simp only [xI,p5,fV]
   cases e8 h cs<;>rfl
theorem Td (cells:List V):ha cells []=some cells:=(rfl)
theorem Tb {cells:List V} {off size:Nat} {v:V} {rest:List (Nat × Nat × V)} (U:v.e_=true) (ad:v.cells.length=size) (aI:off+size≤cells.length):
 ha cells ((off,size,v)::rest)=ha (lS cells off v.cells) rest:=by
 simp only [ha]
 rw [U,show Nat.beq v.cells.length size=true from by rw [Nat.beq_eq];exact ad,show Nat.ble (off+v.cells.length) cells.length=true from by rw [Nat.ble_eq,ad];exact aI]
 simp only [Bool.and_true,cond_true]
 congr 1
 have e2:∀(ws cs:List V) (o:Nat),o+ws.length≤cs.length→og cs o ws=hh cs o ws:=by
  intro ws
  induction ws with
  | nil=>intro cs o _;simp [og,hh]
  | cons w ws bh=>
    intro cs o aP
    simp only [List.length_cons] at aP
    simp only [og]
    rw [bh (cs.set o w) (o+1) (by simp;omega),Mn cs o w ws (by omega)]
 rw [e2 _ _ _ (by rw [ad];exact aI),Ac _ _ _ (by rw [ad];exact aI)]
def xK (o:Option (List V)):Option V:=
 match o with
 | some cs=>some (.agg cs)
 | none=>none
theorem OR (cs:List V):xK (some cs)=some (.agg cs):=(rfl)
theorem S3:h7 r []=[]:=(rfl)
theorem S2 {o s:Nat} {x:aR} {ba:List (Nat × Nat × aR)}:h7 r ((o,s,x)::ba)=(o,s,x.aU r)::h7 r ba:=(rfl)
noncomputable def nX (P:Program) (o:bs) (e:eY) (H:ae):Prop:=o.wp P e.r H fun _ fI _=>fI=e.v
theorem Oq {ops:List bs} {es:List eY} {ax:ae}:l1 P ops es ax []=True:=(rfl)
theorem Oo {ops:List bs} {es:List eY} {ax:ae} {p:Nat} {eO:List Nat} {rest:List (Nat × List Nat)}:l1 P ops es ax ((p,eO)::rest)=(nY P ops[p]? es[p]? es ax eO∧l1 P ops es ax rest):=(rfl)
theorem Ol {o:Option bs} {e:Option eY} {es:List eY} {ax:ae}:nY P o e es ax []=True:=(rfl)
theorem Oh {o:bs} {e:eY} {es:List eY} {ax:ae} {s:Nat} {eO:List Nat}:nY P (some o) (some e) es ax (s::eO)=(nX P o e (s' es ax s)∧nY P (some o) (some e) es ax eO):=(rfl)
def C4 (o:Option eY) (ax:ae):ae:=
 match o with
 | some e=>e.h
 | none=>ax
theorem UJ (es:List eY) (ax:ae) (s:Nat):s' es ax s=C4 es[s]? ax:=(rfl)
theorem UL (e:eY) (ax:ae):C4 (some e) ax=e.h:=(rfl)
theorem UK (ax:ae):C4 none ax=ax:=(rfl)
theorem GL {d:Option Nat} {g:G} {rs:List Nat} {e:eY} {H:ae} (ah:g.lE=true):nX P ⟨d,g,none,rs⟩ e H=(g.jw P (e.r.trim rs) H=some e.v):=by
 unfold nX
 rw [K6 ah]
 apply propext
 cases g.jw P (e.r.trim rs) H with
 | none=>exact ⟨fun q=>q.elim,fun q=>(by cases q)⟩
 | some v=>exact ⟨fun q=>by rw [show v=e.v from q],fun q=>by cases q;rfl⟩
theorem GK {d:Option Nat} {g:G} {j:Nat} {want:Bool} {rs:List Nat} {e:eY} {H:ae} (ah:g.lE=true):nX P ⟨d,g,some (j,want),rs⟩ e H=
 (eE (e.r.trim rs j)∧ef (took (e.r.trim rs j) want) ((g.jw P (e.r.trim rs) H).isSome=true)∧V.opt (took (e.r.trim rs j) want) ((g.jw P (e.r.trim rs) H).getD .bad)=e.v):=by
 unfold nX
 rw [K4 ah]
theorem Oi {d:Option Nat} {x:aR} {rs:List Nat} {e:eY} {H:ae}:nX P ⟨d,.fS x,none,rs⟩ e H=(ks H (x.aU (e.r.trim rs))=some e.v):=GL rfl
theorem Oj {d:Option Nat} {n:Nat} {x:aR} {rs:List Nat} {e:eY} {H:ae}:nX P ⟨d,.hY n x,none,rs⟩ e H=(kr n H (x.aU (e.r.trim rs))=some e.v):=GL rfl
theorem Om {d:Option Nat} {x:aR} {j:Nat} {want:Bool} {rs:List Nat} {e:eY} {H:ae}:nX P ⟨d,.fS x,some (j,want),rs⟩ e H=
 (eE (e.r.trim rs j)∧ef (took (e.r.trim rs j) want) ((ks H (x.aU (e.r.trim rs))).isSome=true)∧V.opt (took (e.r.trim rs j) want) ((ks H (x.aU (e.r.trim rs))).getD .bad)=e.v):=GK rfl
theorem On {d:Option Nat} {n:Nat} {x:aR} {j:Nat} {want:Bool} {rs:List Nat} {e:eY} {H:ae}:nX P ⟨d,.hY n x,some (j,want),rs⟩ e H=
 (eE (e.r.trim rs j)∧ef (took (e.r.trim rs j) want) ((kr n H (x.aU (e.r.trim rs))).isSome=true)∧V.opt (took (e.r.trim rs j) want) ((kr n H (x.aU (e.r.trim rs))).getD .bad)=e.v):=GK rfl
end
end Go.Proofs.YtkehcalakofigaaGreatDoor.a1
namespace Go.Proofs.YtkehcalakofigaaGreatDoor.a1
variable [Lay]
open Go Go.RowKit
noncomputable def zV (x:V) (h:ae):aT:=
 match x with
 | .str s=>.val (.ptr (aH h.next) 0) (h.new (.iter s 0))
 | _=>.fail
theorem aa_ (s:List UInt8) (h:ae):zV (.str s) h=.val (.ptr (aH h.next) 0) (h.new (.iter s 0)):=(rfl)
section
variable {P:Program} {r:aS} {h:ae} {Q:cY→aS→ae→Prop} {aJ:List gl} {os:List bs} {D:Option gM} {d:Option Nat} {rs:List Nat}
theorem Xq {x:aR}:bj P (.os D (⟨d,(.dk x),none,rs⟩::os)::aJ) .normal r h Q=c0 P (some (x.aU (r.trim rs))) d D os aJ r h Q:=fQ rfl
theorem Yh {x:aR} {j:Nat} {want:Bool}:bj P (.os D (⟨d,(.dk x),some (j,want),rs⟩::os)::aJ) .normal r h Q=(eE (r.trim rs j)∧ef (took (r.trim rs j) want) ((some (x.aU (r.trim rs))).isSome=true)∧c0 P (some (V.opt (took (r.trim rs j) want) ((some (x.aU (r.trim rs))).getD .bad))) d D os aJ r h Q):=fP rfl
theorem Xy {c a b:aR}:bj P (.os D (⟨d,(.pick c a b),none,rs⟩::os)::aJ) .normal r h Q=c0 P (wH (c.aU (r.trim rs)) (a.aU (r.trim rs)) (b.aU (r.trim rs))) d D os aJ r h Q:=fQ rfl
theorem Ym {c a b:aR} {j:Nat} {want:Bool}:bj P (.os D (⟨d,(.pick c a b),some (j,want),rs⟩::os)::aJ) .normal r h Q=(eE (r.trim rs j)∧ef (took (r.trim rs j) want) ((wH (c.aU (r.trim rs)) (a.aU (r.trim rs)) (b.aU (r.trim rs))).isSome=true)∧c0 P (some (V.opt (took (r.trim rs j) want) ((wH (c.aU (r.trim rs)) (a.aU (r.trim rs)) (b.aU (r.trim rs))).getD .bad))) d D os aJ r h Q):=fP rfl
theorem WN {z:List V} {ba:List (Nat × Nat × aR)}:bj P (.os D (⟨d,(.build z ba),none,rs⟩::os)::aJ) .normal r h Q=c0 P (xK (ha z (h7 (r.trim rs) ba))) d D os aJ r h Q:=fQ rfl
theorem XR {z:List V} {ba:List (Nat × Nat × aR)} {j:Nat} {want:Bool}:bj P (.os D (⟨d,(.build z ba),some (j,want),rs⟩::os)::aJ) .normal r h Q=(eE (r.trim rs j)∧ef (took (r.trim rs j) want) ((xK (ha z (h7 (r.trim rs) ba))).isSome=true)∧c0 P (some (V.opt (took (r.trim rs j) want) ((xK (ha z (h7 (r.trim rs) ba))).getD .bad))) d D os aJ r h Q):=fP rfl
theorem Xc {x:aR}:bj P (.os D (⟨d,(.fS x),none,rs⟩::os)::aJ) .normal r h Q=c0 P (ks h (x.aU (r.trim rs))) d D os aJ r h Q:=fQ rfl
theorem X9 {x:aR} {j:Nat} {want:Bool}:bj P (.os D (⟨d,(.fS x),some (j,want),rs⟩::os)::aJ) .normal r h Q=(eE (r.trim rs j)∧ef (took (r.trim rs j) want) ((ks h (x.aU (r.trim rs))).isSome=true)∧c0 P (some (V.opt (took (r.trim rs j) want) ((ks h (x.aU (r.trim rs))).getD .bad))) d D os aJ r h Q):=fP rfl
theorem Xd {n:Nat} {x:aR}:bj P (.os D (⟨d,(.hY n x),none,rs⟩::os)::aJ) .normal r h Q=c0 P (kr n h (x.aU (r.trim rs))) d D os aJ r h Q:=fQ rfl
theorem X' {n:Nat} {x:aR} {j:Nat} {want:Bool}:bj P (.os D (⟨d,(.hY n x),some (j,want),rs⟩::os)::aJ) .normal r h Q=(eE (r.trim rs j)∧ef (took (r.trim rs j) want) ((kr n h (x.aU (r.trim rs))).isSome=true)∧c0 P (some (V.opt (took (r.trim rs j) want) ((kr n h (x.aU (r.trim rs))).getD .bad))) d D os aJ r h Q):=fP rfl
theorem Xv {x:aR}:bj P (.os D (⟨d,(.p2 x),none,rs⟩::os)::aJ) .normal r h Q=c0 P (p1 (x.aU (r.trim rs))) d D os aJ r h Q:=fQ rfl
theorem Yk {x:aR} {j:Nat} {want:Bool}:bj P (.os D (⟨d,(.p2 x),some (j,want),rs⟩::os)::aJ) .normal r h Q=(eE (r.trim rs j)∧ef (took (r.trim rs j) want) ((p1 (x.aU (r.trim rs))).isSome=true)∧c0 P (some (V.opt (took (r.trim rs j) want) ((p1 (x.aU (r.trim rs))).getD .bad))) d D os aJ r h Q):=fP rfl
theorem WH {k:dV} {x y:aR}:bj P (.os D (⟨d,(.bin k x y),none,rs⟩::os)::aJ) .normal r h Q=c0 P (k.run P (x.aU (r.trim rs)) (y.aU (r.trim rs))) d D os aJ r h Q:=fQ rfl
theorem XO {k:dV} {x y:aR} {j:Nat} {want:Bool}:bj P (.os D (⟨d,(.bin k x y),some (j,want),rs⟩::os)::aJ) .normal r h Q=(eE (r.trim rs j)∧ef (took (r.trim rs j) want) ((k.run P (x.aU (r.trim rs)) (y.aU (r.trim rs))).isSome=true)∧c0 P (some (V.opt (took (r.trim rs j) want) ((k.run P (x.aU (r.trim rs)) (y.aU (r.trim rs))).getD .bad))) d D os aJ r h Q):=fP rfl
theorem XI {o:UnOp} {x:aR}:bj P (.os D (⟨d,(.un o x),none,rs⟩::os)::aJ) .normal r h Q=c0 P (nH o (x.aU (r.trim rs))) d D os aJ r h Q:=fQ rfl
theorem Yr {o:UnOp} {x:aR} {j:Nat} {want:Bool}:bj P (.os D (⟨d,(.un o x),some (j,want),rs⟩::os)::aJ) .normal r h Q=(eE (r.trim rs j)∧ef (took (r.trim rs j) want) ((nH o (x.aU (r.trim rs))).isSome=true)∧c0 P (some (V.opt (took (r.trim rs j) want) ((nH o (x.aU (r.trim rs))).getD .bad))) d D os aJ r h Q):=fP rfl
theorem W6 {f:FuncId} {cs:List aR}:bj P (.os D (⟨d,(.fn f cs),none,rs⟩::os)::aJ) .normal r h Q=c0 P (some (V.func f (aR.eL (r.trim rs) cs))) d D os aJ r h Q:=fQ rfl
theorem X3 {f:FuncId} {cs:List aR} {j:Nat} {want:Bool}:bj P (.os D (⟨d,(.fn f cs),some (j,want),rs⟩::os)::aJ) .normal r h Q=(eE (r.trim rs j)∧ef (took (r.trim rs j) want) ((some (V.func f (aR.eL (r.trim rs) cs))).isSome=true)∧c0 P (some (V.opt (took (r.trim rs j) want) ((some (V.func f (aR.eL (r.trim rs) cs))).getD .bad))) d D os aJ r h Q):=fP rfl
theorem W_ {t:TypeId} {x:aR}:bj P (.os D (⟨d,(.oE t x),none,rs⟩::os)::aJ) .normal r h Q=c0 P (some (V.iface t (x.aU (r.trim rs)))) d D os aJ r h Q:=fQ rfl
theorem X6 {t:TypeId} {x:aR} {j:Nat} {want:Bool}:bj P (.os D (⟨d,(.oE t x),some (j,want),rs⟩::os)::aJ) .normal r h Q=(eE (r.trim rs j)∧ef (took (r.trim rs j) want) ((some (V.iface t (x.aU (r.trim rs)))).isSome=true)∧c0 P (some (V.opt (took (r.trim rs j) want) ((some (V.iface t (x.aU (r.trim rs)))).getD .bad))) d D os aJ r h Q):=fP rfl
theorem XF {x:aR} {bJ aB m3:Option aR}:bj P (.os D (⟨d,(.nF x bJ aB m3),none,rs⟩::os)::aJ) .normal r h Q=c0 P (j0 (x.aU (r.trim rs)) (aR.opt (r.trim rs) bJ) (aR.opt (r.trim rs) aB) (aR.opt (r.trim rs) m3)) d D os aJ r h Q:=fQ rfl
theorem Yp {x:aR} {bJ aB m3:Option aR} {j:Nat} {want:Bool}:bj P (.os D (⟨d,(.nF x bJ aB m3),some (j,want),rs⟩::os)::aJ) .normal r h Q=(eE (r.trim rs j)∧ef (took (r.trim rs j) want) ((j0 (x.aU (r.trim rs)) (aR.opt (r.trim rs) bJ) (aR.opt (r.trim rs) aB) (aR.opt (r.trim rs) m3)).isSome=true)∧c0 P (some (V.opt (took (r.trim rs j) want) ((j0 (x.aU (r.trim rs)) (aR.opt (r.trim rs) bJ) (aR.opt (r.trim rs) aB) (aR.opt (r.trim rs) m3)).getD .bad))) d D os aJ r h Q):=fP rfl
theorem XE {n:Nat} {x:aR} {bJ aB m3:Option aR}:bj P (.os D (⟨d,(.fH n x bJ aB m3),none,rs⟩::os)::aJ) .normal r h Q=c0 P (oX n (x.aU (r.trim rs)) (aR.opt (r.trim rs) bJ) (aR.opt (r.trim rs) aB) (aR.opt (r.trim rs) m3)) d D os aJ r h Q:=fQ rfl
theorem Yo {n:Nat} {x:aR} {bJ aB m3:Option aR} {j:Nat} {want:Bool}:bj P (.os D (⟨d,(.fH n x bJ aB m3),some (j,want),rs⟩::os)::aJ) .normal r h Q=(eE (r.trim rs j)∧ef (took (r.trim rs j) want) ((oX n (x.aU (r.trim rs)) (aR.opt (r.trim rs) bJ) (aR.opt (r.trim rs) aB) (aR.opt (r.trim rs) m3)).isSome=true)∧c0 P (some (V.opt (took (r.trim rs j) want) ((oX n (x.aU (r.trim rs)) (aR.opt (r.trim rs) bJ) (aR.opt (r.trim rs) aB) (aR.opt (r.trim rs) m3)).getD .bad))) d D os aJ r h Q):=fP rfl
theorem W3 {o:Nat} {x:aR}:bj P (.os D (⟨d,(.e2 o x),none,rs⟩::os)::aJ) .normal r h Q=c0 P (x8 o (x.aU (r.trim rs))) d D os aJ r h Q:=fQ rfl
theorem X0 {o:Nat} {x:aR} {j:Nat} {want:Bool}:bj P (.os D (⟨d,(.e2 o x),some (j,want),rs⟩::os)::aJ) .normal r h Q=(eE (r.trim rs j)∧ef (took (r.trim rs j) want) ((x8 o (x.aU (r.trim rs))).isSome=true)∧c0 P (some (V.opt (took (r.trim rs j) want) ((x8 o (x.aU (r.trim rs))).getD .bad))) d D os aJ r h Q):=fP rfl
theorem W4 {o:Nat} {x:aR}:bj P (.os D (⟨d,(.qV o x),none,rs⟩::os)::aJ) .normal r h Q=c0 P ((x.aU (r.trim rs)).oO none fun cs=>cs[o]?) d D os aJ r h Q:=fQ rfl
theorem X1 {o:Nat} {x:aR} {j:Nat} {want:Bool}:bj P (.os D (⟨d,(.qV o x),some (j,want),rs⟩::os)::aJ) .normal r h Q=(eE (r.trim rs j)∧ef (took (r.trim rs j) want) (((x.aU (r.trim rs)).oO none fun cs=>cs[o]?).isSome=true)∧c0 P (some (V.opt (took (r.trim rs j) want) (((x.aU (r.trim rs)).oO none fun cs=>cs[o]?).getD .bad))) d D os aJ r h Q):=fP rfl
theorem W5 {o n:Nat} {x:aR}:bj P (.os D (⟨d,(.qW o n x),none,rs⟩::os)::aJ) .normal r h Q=c0 P ((x.aU (r.trim rs)).oO none fun cs=>some (V.agg ((cs.drop o).take n))) d D os aJ r h Q:=fQ rfl
theorem X2 {o n:Nat} {x:aR} {j:Nat} {want:Bool}:bj P (.os D (⟨d,(.qW o n x),some (j,want),rs⟩::os)::aJ) .normal r h Q=(eE (r.trim rs j)∧ef (took (r.trim rs j) want) (((x.aU (r.trim rs)).oO none fun cs=>some (V.agg ((cs.drop o).take n))).isSome=true)∧c0 P (some (V.opt (took (r.trim rs j) want) (((x.aU (r.trim rs)).oO none fun cs=>some (V.agg ((cs.drop o).take n))).getD .bad))) d D os aJ r h Q):=fP rfl
theorem W9 {n:Nat} {x i:aR}:bj P (.os D (⟨d,(.c4 n x i),none,rs⟩::os)::aJ) .normal r h Q=c0 P (jS n (x.aU (r.trim rs)) (i.aU (r.trim rs))) d D os aJ r h Q:=fQ rfl
theorem X4 {n:Nat} {x i:aR} {j:Nat} {want:Bool}:bj P (.os D (⟨d,(.c4 n x i),some (j,want),rs⟩::os)::aJ) .normal r h Q=(eE (r.trim rs j)∧ef (took (r.trim rs j) want) ((jS n (x.aU (r.trim rs)) (i.aU (r.trim rs))).isSome=true)∧c0 P (some (V.opt (took (r.trim rs j) want) ((jS n (x.aU (r.trim rs)) (i.aU (r.trim rs))).getD .bad))) d D os aJ r h Q):=fP rfl
theorem W' {m n:Nat} {x i:aR}:bj P (.os D (⟨d,(.pN m n x i),none,rs⟩::os)::aJ) .normal r h Q=c0 P ((oG m n).run (x.aU (r.trim rs)) (i.aU (r.trim rs))) d D os aJ r h Q:=fQ rfl
theorem X5 {m n:Nat} {x i:aR} {j:Nat} {want:Bool}:bj P (.os D (⟨d,(.pN m n x i),some (j,want),rs⟩::os)::aJ) .normal r h Q=(eE (r.trim rs j)∧ef (took (r.trim rs j) want) (((oG m n).run (x.aU (r.trim rs)) (i.aU (r.trim rs))).isSome=true)∧c0 P (some (V.opt (took (r.trim rs j) want) (((oG m n).run (x.aU (r.trim rs)) (i.aU (r.trim rs))).getD .bad))) d D os aJ r h Q):=fP rfl
theorem Xb {x i:aR}:bj P (.os D (⟨d,(.jU x i),none,rs⟩::os)::aJ) .normal r h Q=c0 P (oI.run (x.aU (r.trim rs)) (i.aU (r.trim rs))) d D os aJ r h Q:=fQ rfl
theorem X8 {x i:aR} {j:Nat} {want:Bool}:bj P (.os D (⟨d,(.jU x i),some (j,want),rs⟩::os)::aJ) .normal r h Q=(eE (r.trim rs j)∧ef (took (r.trim rs j) want) ((oI.run (x.aU (r.trim rs)) (i.aU (r.trim rs))).isSome=true)∧c0 P (some (V.opt (took (r.trim rs j) want) ((oI.run (x.aU (r.trim rs)) (i.aU (r.trim rs))).getD .bad))) d D os aJ r h Q):=fP rfl
theorem Xa {t:TypeId} {x i:aR}:bj P (.os D (⟨d,(.hI t x i),none,rs⟩::os)::aJ) .normal r h Q=c0 P ((oH P t).run (x.aU (r.trim rs)) (i.aU (r.trim rs))) d D os aJ r h Q:=fQ rfl
theorem X7 {t:TypeId} {x i:aR} {j:Nat} {want:Bool}:bj P (.os D (⟨d,(.hI t x i),some (j,want),rs⟩::os)::aJ) .normal r h Q=(eE (r.trim rs j)∧ef (took (r.trim rs j) want) (((oH P t).run (x.aU (r.trim rs)) (i.aU (r.trim rs))).isSome=true)∧c0 P (some (V.opt (took (r.trim rs j) want) (((oH P t).run (x.aU (r.trim rs)) (i.aU (r.trim rs))).getD .bad))) d D os aJ r h Q):=fP rfl
theorem Xj {k:la} {z:V} {ok:Bool} {x i:aR}:bj P (.os D (⟨d,(.look k z ok x i),none,rs⟩::os)::aJ) .normal r h Q=c0 P (jr k.eq z ok h (x.aU (r.trim rs)) (i.aU (r.trim rs))) d D os aJ r h Q:=fQ rfl
theorem Yd {k:la} {z:V} {ok:Bool} {x i:aR} {j:Nat} {want:Bool}:bj P (.os D (⟨d,(.look k z ok x i),some (j,want),rs⟩::os)::aJ) .normal r h Q=(eE (r.trim rs j)∧ef (took (r.trim rs j) want) ((jr k.eq z ok h (x.aU (r.trim rs)) (i.aU (r.trim rs))).isSome=true)∧c0 P (some (V.opt (took (r.trim rs j) want) ((jr k.eq z ok h (x.aU (r.trim rs)) (i.aU (r.trim rs))).getD .bad))) d D os aJ r h Q):=fP rfl
theorem W2 {x:aR} {i:Nat}:bj P (.os D (⟨d,(.ext x i),none,rs⟩::os)::aJ) .normal r h Q=c0 P ((x.aU (r.trim rs)).wx none fun ab=>ab[i]?) d D os aJ r h Q:=fQ rfl
theorem XZ {x:aR} {i:Nat} {j:Nat} {want:Bool}:bj P (.os D (⟨d,(.ext x i),some (j,want),rs⟩::os)::aJ) .normal r h Q=(eE (r.trim rs j)∧ef (took (r.trim rs j) want) (((x.aU (r.trim rs)).wx none fun ab=>ab[i]?).isSome=true)∧c0 P (some (V.opt (took (r.trim rs j) want) (((x.aU (r.trim rs)).wx none fun ab=>ab[i]?).getD .bad))) d D os aJ r h Q):=fP rfl
theorem Xo {args:List aR}:bj P (.os D (⟨d,(.tJ args),none,rs⟩::os)::aJ) .normal r h Q=c0 P (ij (fun b a=>!Int.leB a b) (aR.eL (r.trim rs) args)) d D os aJ r h Q:=fQ rfl
theorem Yg {args:List aR} {j:Nat} {want:Bool}:bj P (.os D (⟨d,(.tJ args),some (j,want),rs⟩::os)::aJ) .normal r h Q=(eE (r.trim rs j)∧ef (took (r.trim rs j) want) ((ij (fun b a=>!Int.leB a b) (aR.eL (r.trim rs) args)).isSome=true)∧c0 P (some (V.opt (took (r.trim rs j) want) ((ij (fun b a=>!Int.leB a b) (aR.eL (r.trim rs) args)).getD .bad))) d D os aJ r h Q):=fP rfl
theorem Xr {args:List aR}:bj P (.os D (⟨d,(.dt args),none,rs⟩::os)::aJ) .normal r h Q=c0 P (ij (fun b a=>!Int.leB b a) (aR.eL (r.trim rs) args)) d D os aJ r h Q:=fQ rfl
theorem Yi {args:List aR} {j:Nat} {want:Bool}:bj P (.os D (⟨d,(.dt args),some (j,want),rs⟩::os)::aJ) .normal r h Q=(eE (r.trim rs j)∧ef (took (r.trim rs j) want) ((ij (fun b a=>!Int.leB b a) (aR.eL (r.trim rs) args)).isSome=true)∧c0 P (some (V.opt (took (r.trim rs j) want) ((ij (fun b a=>!Int.leB b a) (aR.eL (r.trim rs) args)).getD .bad))) d D os aJ r h Q):=fP rfl
theorem WV {k:IntKind} {x:aR}:bj P (.os D (⟨d,(.g' (.int k) x),none,rs⟩::os)::aJ) .normal r h Q=c0 P (xW k (x.aU (r.trim rs))) d D os aJ r h Q:=fQ rfl
theorem XW {k:IntKind} {x:aR} {j:Nat} {want:Bool}:bj P (.os D (⟨d,(.g' (.int k) x),some (j,want),rs⟩::os)::aJ) .normal r h Q=(eE (r.trim rs j)∧ef (took (r.trim rs j) want) ((xW k (x.aU (r.trim rs))).isSome=true)∧c0 P (some (V.opt (took (r.trim rs j) want) ((xW k (x.aU (r.trim rs))).getD .bad))) d D os aJ r h Q):=fP rfl
theorem Xg {x:aR}:bj P (.os D (⟨d,(.len .slice x),none,rs⟩::os)::aJ) .normal r h Q=c0 P (iO (x.aU (r.trim rs))) d D os aJ r h Q:=fQ rfl
theorem Yb {x:aR} {j:Nat} {want:Bool}:bj P (.os D (⟨d,(.len .slice x),some (j,want),rs⟩::os)::aJ) .normal r h Q=(eE (r.trim rs j)∧ef (took (r.trim rs j) want) ((iO (x.aU (r.trim rs))).isSome=true)∧c0 P (some (V.opt (took (r.trim rs j) want) ((iO (x.aU (r.trim rs))).getD .bad))) d D os aJ r h Q):=fP rfl
theorem Xh {x:aR}:bj P (.os D (⟨d,(.len .str x),none,rs⟩::os)::aJ) .normal r h Q=c0 P (y' (x.aU (r.trim rs))) d D os aJ r h Q:=fQ rfl
theorem Yc {x:aR} {j:Nat} {want:Bool}:bj P (.os D (⟨d,(.len .str x),some (j,want),rs⟩::os)::aJ) .normal r h Q=(eE (r.trim rs j)∧ef (took (r.trim rs j) want) ((y' (x.aU (r.trim rs))).isSome=true)∧c0 P (some (V.opt (took (r.trim rs j) want) ((y' (x.aU (r.trim rs))).getD .bad))) d D os aJ r h Q):=fP rfl
theorem Xe {n:Nat} {x:aR}:bj P (.os D (⟨d,(.len (.arr n) x),none,rs⟩::os)::aJ) .normal r h Q=c0 P (some (V.int .i64 n)) d D os aJ r h Q:=fQ rfl
theorem X_ {n:Nat} {x:aR} {j:Nat} {want:Bool}:bj P (.os D (⟨d,(.len (.arr n) x),some (j,want),rs⟩::os)::aJ) .normal r h Q=(eE (r.trim rs j)∧ef (took (r.trim rs j) want) ((some (V.int .i64 n)).isSome=true)∧c0 P (some (V.opt (took (r.trim rs j) want) ((some (V.int .i64 n)).getD .bad))) d D os aJ r h Q):=fP rfl
theorem Xt {z:List V}:bj P (.os D (⟨d,(.new z),none,rs⟩::os)::aJ) .normal r h Q=hO P (p5 (.ptr (aH h.next) 0) (e8 h z)) d D os aJ r h Q:=jV rfl rfl
theorem Yj {z:List V} {j:Nat} {want:Bool}:bj P (.os D (⟨d,(.new z),some (j,want),rs⟩::os)::aJ) .normal r h Q=e3 P (r.trim rs j) want d (.new z) rs D os aJ r h Q:=iM rfl
theorem WL {x:aR}:bj P (.os D (⟨d,(.box x),none,rs⟩::os)::aJ) .normal r h Q=hO P (GZ (x.aU (r.trim rs)).e_ (p5 (.ptr (aH h.next) 0) (e8 h (x.aU (r.trim rs)).cells))) d D os aJ r h Q:=jV rfl rfl
theorem XP {x:aR} {j:Nat} {want:Bool}:bj P (.os D (⟨d,(.box x),some (j,want),rs⟩::os)::aJ) .normal r h Q=e3 P (r.trim rs j) want d (.box x) rs D os aJ r h Q:=iM rfl
theorem WM {n m:Nat} {z:List V} {ba:List (Nat × Nat × aR)}:bj P (.os D (⟨d,(.gZ n m z ba),none,rs⟩::os)::aJ) .normal r h Q=hO P (xI n h (ha (gV z n) (h7 (r.trim rs) ba))) d D os aJ r h Q:=by rw [jV rfl rfl,abj]
theorem XQ {n m:Nat} {z:List V} {ba:List (Nat × Nat × aR)} {j:Nat} {want:Bool}:bj P (.os D (⟨d,(.gZ n m z ba),some (j,want),rs⟩::os)::aJ) .normal r h Q=e3 P (r.trim rs j) want d (.gZ n m z ba) rs D os aJ r h Q:=iM rfl
theorem XG {n:Nat} {x y:aR}:bj P (.os D (⟨d,(.st n x y),none,rs⟩::os)::aJ) .normal r h Q=hO P (p5 .bad (r4 n h (x.aU (r.trim rs)) (y.aU (r.trim rs)))) d D os aJ r h Q:=jV rfl rfl
theorem Yq {n:Nat} {x y:aR} {j:Nat} {want:Bool}:bj P (.os D (⟨d,(.st n x y),some (j,want),rs⟩::os)::aJ) .normal r h Q=e3 P (r.trim rs j) want d (.st n x y) rs D os aJ r h Q:=iM rfl
theorem Xn {n:Nat} {z:List V} {l c:aR}:bj P (.os D (⟨d,(.tI n z l c),none,rs⟩::os)::aJ) .normal r h Q=hO P (tG n z (l.aU (r.trim rs)) (c.aU (r.trim rs)) h) d D os aJ r h Q:=jV rfl rfl
theorem Yf {n:Nat} {z:List V} {l c:aR} {j:Nat} {want:Bool}:bj P (.os D (⟨d,(.tI n z l c),some (j,want),rs⟩::os)::aJ) .normal r h Q=e3 P (r.trim rs j) want d (.tI n z l c) rs D os aJ r h Q:=iM rfl
theorem XJ {k:la} {m i x:aR}:bj P (.os D (⟨d,(.wX k m i x),none,rs⟩::os)::aJ) .normal r h Q=hO P (p5 .bad (nI k.eq h (m.aU (r.trim rs)) (i.aU (r.trim rs)) (x.aU (r.trim rs)))) d D os aJ r h Q:=jV rfl rfl
theorem Ys {k:la} {m i x:aR} {j:Nat} {want:Bool}:bj P (.os D (⟨d,(.wX k m i x),some (j,want),rs⟩::os)::aJ) .normal r h Q=e3 P (r.trim rs j) want d (.wX k m i x) rs D os aJ r h Q:=iM rfl
theorem Xm {x:Option aR}:bj P (.os D (⟨d,(.wg x),none,rs⟩::os)::aJ) .normal r h Q=hO P (rM (aR.opt (r.trim rs) x) h) d D os aJ r h Q:=jV rfl rfl
theorem Ye {x:Option aR} {j:Nat} {want:Bool}:bj P (.os D (⟨d,(.wg x),some (j,want),rs⟩::os)::aJ) .normal r h Q=e3 P (r.trim rs j) want d (.wg x) rs D os aJ r h Q:=iM rfl
theorem XB {x:aR}:bj P (.os D (⟨d,(.ua x),none,rs⟩::os)::aJ) .normal r h Q=hO P (zV (x.aU (r.trim rs)) h) d D os aJ r h Q:=(jV rfl rfl).trans (by first | rfl | (unfold zV;simp only [G.run];cases x.aU (r.trim rs)<;>rfl) | (unfold zV;cases x.aU (r.trim rs)<;>rfl))
theorem Yn {x:aR} {j:Nat} {want:Bool}:bj P (.os D (⟨d,(.ua x),some (j,want),rs⟩::os)::aJ) .normal r h Q=e3 P (r.trim rs j) want d (.ua x) rs D os aJ r h Q:=iM rfl
theorem Xw {x:aR}:bj P (.os D (⟨d,(.tP x),none,rs⟩::os)::aJ) .normal r h Q=hO P (rO (x.aU (r.trim rs)) h) d D os aJ r h Q:=jV rfl rfl
theorem Yl {x:aR} {j:Nat} {want:Bool}:bj P (.os D (⟨d,(.tP x),some (j,want),rs⟩::os)::aJ) .normal r h Q=e3 P (r.trim rs j) want d (.tP x) rs D os aJ r h Q:=iM rfl
theorem WE {n:Nat} {s x:aR}:bj P (.os D (⟨d,(.app n s x),none,rs⟩::os)::aJ) .normal r h Q=hO P (lk n (s.aU (r.trim rs)) (x.aU (r.trim rs)) h) d D os aJ r h Q:=jV rfl rfl
theorem XN {n:Nat} {s x:aR} {j:Nat} {want:Bool}:bj P (.os D (⟨d,(.app n s x),some (j,want),rs⟩::os)::aJ) .normal r h Q=e3 P (r.trim rs j) want d (.app n s x) rs D os aJ r h Q:=iM rfl
theorem WS {n:Nat} {jC s:aR}:bj P (.os D (⟨d,(.copy n jC s),none,rs⟩::os)::aJ) .normal r h Q=hO P (copyV n (jC.aU (r.trim rs)) (s.aU (r.trim rs)) h) d D os aJ r h Q:=jV rfl rfl
theorem XU {n:Nat} {jC s:aR} {j:Nat} {want:Bool}:bj P (.os D (⟨d,(.copy n jC s),some (j,want),rs⟩::os)::aJ) .normal r h Q=e3 P (r.trim rs j) want d (.copy n jC s) rs D os aJ r h Q:=iM rfl
theorem Xf {x:aR}:bj P (.os D (⟨d,(.len .map x),none,rs⟩::os)::aJ) .normal r h Q=hO P (v' [x.aU (r.trim rs)] h) d D os aJ r h Q:=jV rfl rfl
theorem Ya {x:aR} {j:Nat} {want:Bool}:bj P (.os D (⟨d,(.len .map x),some (j,want),rs⟩::os)::aJ) .normal r h Q=e3 P (r.trim rs j) want d (.len .map x) rs D os aJ r h Q:=iM rfl
theorem WU {x:aR}:bj P (.os D (⟨d,(.g' .bytes x),none,rs⟩::os)::aJ) .normal r h Q=hO P (u6.run (x.aU (r.trim rs)) h) d D os aJ r h Q:=jV rfl rfl
theorem XV {x:aR} {j:Nat} {want:Bool}:bj P (.os D (⟨d,(.g' .bytes x),some (j,want),rs⟩::os)::aJ) .normal r h Q=e3 P (r.trim rs j) want d (.g' .bytes x) rs D os aJ r h Q:=iM rfl
theorem WX {x:aR}:bj P (.os D (⟨d,(.g' .str x),none,rs⟩::os)::aJ) .normal r h Q=hO P (pr.run (x.aU (r.trim rs)) h) d D os aJ r h Q:=jV rfl rfl
theorem XY {x:aR} {j:Nat} {want:Bool}:bj P (.os D (⟨d,(.g' .str x),some (j,want),rs⟩::os)::aJ) .normal r h Q=e3 P (r.trim rs j) want d (.g' .str x) rs D os aJ r h Q:=iM rfl
theorem WW {s jC:TypeId} {x:aR}:bj P (.os D (⟨d,(.g' (.other s jC) x),none,rs⟩::os)::aJ) .normal r h Q=hO P ((mV P s jC).run (x.aU (r.trim rs)) h) d D os aJ r h Q:=jV rfl rfl
theorem XX {s jC:TypeId} {x:aR} {j:Nat} {want:Bool}:bj P (.os D (⟨d,(.g' (.other s jC) x),some (j,want),rs⟩::os)::aJ) .normal r h Q=e3 P (r.trim rs j) want d (.g' (.other s jC) x) rs D os aJ r h Q:=iM rfl
theorem XS {f:FuncId} {args:List aR} {j:Nat} {want:Bool}:bj P (.os D (⟨d,(.call f args),some (j,want),rs⟩::os)::aJ) .normal r h Q=e3 P (r.trim rs j) want d (.call f args) rs D os aJ r h Q:=iM rfl
theorem XT {f:aR} {args:List aR} {j:Nat} {want:Bool}:bj P (.os D (⟨d,(.ll f args),some (j,want),rs⟩::os)::aJ) .normal r h Q=e3 P (r.trim rs j) want d (.ll f args) rs D os aJ r h Q:=iM rfl
end
end Go.Proofs.YtkehcalakofigaaGreatDoor.a1
namespace Go.Proofs.YtkehcalakofigaaGreatDoor.a1
variable [Lay]
open Go Go.RowKit
theorem Zr (h:ae) (ab:List V):e8 h ab=if ab.length≤top then some (h.new (.bk ab 0 false)) else none:=by
 by_cases ai:ab.length≤top
 · rw [if_pos ai,KW ai]
 · rw [if_neg ai]
   unfold e8
   rw [show Nat.ble ab.length top=false from by rw [←Bool.not_eq_true,Nat.ble_eq];exact ai]
   rfl
theorem Yy (h:ae) (n:Nat) (b:aO) (off:Nat) (y:V) (ab:List V) (cj:Nat) (st:Bool):
 v7 n h b off y (.bk ab cj st)=if y.cells.length=n∧eb y.cells=true∧off+n≤ab.length then some (h.set b (.bk (lS ab off y.cells) cj st)) else none:=by
 by_cases ar:y.cells.length=n∧eb y.cells=true∧off+n≤ab.length
 · rw [if_pos ar,YA ar.1 ar.2.1 ar.2.2]
 · rw [if_neg ar]
   unfold v7
   by_cases U:y.cells.length=n
   · rw [show Nat.beq y.cells.length n=true from by rw [Nat.beq_eq];exact U]
     simp only [cond_true,bV.bk,bV.on]
     by_cases ad:eb y.cells=true
     · have aI:¬off+y.cells.length≤ab.length:=fun q=>ar ⟨U,ad,by omega⟩
       rw [show Nat.ble (off+y.cells.length) ab.length=false from by rw [←Bool.not_eq_true,Nat.ble_eq];exact aI]
       rfl
     · rw [show eb y.cells=false from by simpa using ad,Bool.and_false]
       rfl
   · rw [show Nat.beq y.cells.length n=false from by rw [←Bool.not_eq_true,Nat.beq_eq];exact U]
     rfl
theorem Tc (cells:List V) (off size:Nat) (v:V) (rest:List (Nat × Nat × V)):
 ha cells ((off,size,v)::rest)=if v.e_=true∧v.cells.length=size∧off+size≤cells.length then ha (lS cells off v.cells) rest else none:=by
 by_cases ar:v.e_=true∧v.cells.length=size∧off+size≤cells.length
 · rw [if_pos ar,Tb ar.1 ar.2.1 ar.2.2]
 · rw [if_neg ar]
   simp only [ha]
   cases af:(v.e_&&(Nat.beq v.cells.length size&&Nat.ble (off+v.cells.length) cells.length)) with
   | false=>rfl
   | true=>
     simp only [Bool.and_eq_true,Nat.beq_eq,Nat.ble_eq] at af
     exact absurd ⟨af.1,af.2.1,by omega⟩ ar
theorem RO (b:Bool):V.cells (.bool b:V)=[.bool b]:=rfl
theorem ZY (b:Bool):V.one (.bool b:V)=true:=rfl
theorem TL (b:Bool):V.e_ (.bool b:V)=true:=rfl
theorem RS (k:IntKind) (n:Int):V.cells (.int k n:V)=[.int k n]:=rfl
theorem Z2 (k:IntKind) (n:Int):V.one (.int k n:V)=true:=rfl
theorem TP (k:IntKind) (n:Int):V.e_ (.int k n:V)=true:=rfl
theorem R2 (s:List UInt8):V.cells (.str s:V)=[.str s]:=rfl
theorem Z_ (s:List UInt8):V.one (.str s:V)=true:=rfl
theorem TY (s:List UInt8):V.e_ (.str s:V)=true:=rfl
theorem RX:V.cells (.ju:V)=[.ju]:=rfl
theorem Z7:V.one (.ju:V)=true:=rfl
theorem TU:V.e_ (.ju:V)=true:=rfl
theorem RZ (b:aO) (o:Nat):V.cells (.ptr b o:V)=[.ptr b o]:=rfl
theorem Z9 (b:aO) (o:Nat):V.one (.ptr b o:V)=true:=rfl
theorem TW (b:aO) (o:Nat):V.e_ (.ptr b o:V)=true:=rfl
theorem R1 (b:aO) (o l c:Nat):V.cells (.slice b o l c:V)=[.slice b o l c]:=rfl
theorem Z' (b:aO) (o l c:Nat):V.one (.slice b o l c:V)=true:=rfl
theorem TX (b:aO) (o l c:Nat):V.e_ (.slice b o l c:V)=true:=rfl
theorem RQ (b:aO) (o l c:Nat):V.cells (.dP b o l c:V)=[.dP b o l c]:=rfl
theorem Z0 (b:aO) (o l c:Nat):V.one (.dP b o l c:V)=true:=rfl
theorem TN (b:aO) (o l c:Nat):V.e_ (.dP b o l c:V)=true:=rfl
theorem R3 (b:aO) (o l c:Nat):V.cells (.fy b o l c:V)=[.fy b o l c]:=rfl
theorem aaa (b:aO) (o l c:Nat):V.one (.fy b o l c:V)=true:=rfl
theorem TZ (b:aO) (o l c:Nat):V.e_ (.fy b o l c:V)=true:=rfl
theorem RY:V.cells (.cq:V)=[.cq]:=rfl
theorem Z8:V.one (.cq:V)=true:=rfl
theorem TV:V.e_ (.cq:V)=true:=rfl
theorem RW:V.cells (.iR:V)=[.iR]:=rfl
theorem Z6:V.one (.iR:V)=true:=rfl
theorem TT:V.e_ (.iR:V)=true:=rfl
theorem RT (b:aO):V.cells (.map b:V)=[.map b]:=rfl
theorem Z3 (b:aO):V.one (.map b:V)=true:=rfl
theorem TQ (b:aO):V.e_ (.map b:V)=true:=rfl
theorem RP (f:FuncId) (cs:List V):V.cells (.func f cs:V)=[.func f cs]:=rfl
theorem ZZ (f:FuncId) (cs:List V):V.one (.func f cs:V)=true:=rfl
theorem TM (f:FuncId) (cs:List V):V.e_ (.func f cs:V)=true:=rfl
theorem RV:V.cells (.iQ:V)=[.iQ]:=rfl
theorem Z5:V.one (.iQ:V)=true:=rfl
theorem TS:V.e_ (.iQ:V)=true:=rfl
theorem RR (t:TypeId) (v:V):V.cells (.iface t v:V)=[.iface t v]:=rfl
theorem Z1 (t:TypeId) (v:V):V.one (.iface t v:V)=true:=rfl
theorem TO (t:TypeId) (v:V):V.e_ (.iface t v:V)=true:=rfl
theorem RU:V.cells (.nilIface:V)=[.nilIface]:=rfl
theorem Z4:V.one (.nilIface:V)=true:=rfl
theorem TR:V.e_ (.nilIface:V)=true:=rfl
theorem RN (cs:List V):V.cells (.agg cs)=cs:=rfl
theorem TK (cs:List V):V.e_ (.agg cs)=true:=rfl
theorem T0 (cs:List V):V.e_ (.tuple cs)=true:=rfl
theorem NV (n:Nat):n+1+1=n+2:=rfl
theorem N1 (n:Nat):n+2+1=n+3:=rfl
theorem N2 (n:Nat):n+3+1=n+4:=rfl
theorem N3 (n:Nat):n+4+1=n+5:=rfl
theorem N4 (n:Nat):n+5+1=n+6:=rfl
theorem N5 (n:Nat):n+6+1=n+7:=rfl
theorem N6 (n:Nat):n+7+1=n+8:=rfl
theorem N7 (n:Nat):n+8+1=n+9:=rfl
theorem N8 (n:Nat):n+9+1=n+10:=rfl
theorem NU (n:Nat):n+10+1=n+11:=rfl
theorem NW (n:Nat):n+11+1=n+12:=rfl
theorem NX (n:Nat):n+12+1=n+13:=rfl
theorem NY (n:Nat):n+13+1=n+14:=rfl
theorem NZ (n:Nat):n+14+1=n+15:=rfl
theorem N0 (n:Nat):n+15+1=n+16:=rfl
theorem K2 (n:Nat):(n+1=n)=False:=eq_false (by omega)
theorem ac5 (n:Nat):(n=n+1)=False:=eq_false (by omega)
theorem wm (n:Nat):(n+2=n)=False:=eq_false (by omega)
theorem ac6 (n:Nat):(n=n+2)=False:=eq_false (by omega)
theorem ZF (n:Nat):(n+3=n)=False:=eq_false (by omega)
theorem ac7 (n:Nat):(n=n+3)=False:=eq_false (by omega)
theorem ZG (n:Nat):(n+4=n)=False:=eq_false (by omega)
theorem ac8 (n:Nat):(n=n+4)=False:=eq_false (by omega)
theorem ZH (n:Nat):(n+5=n)=False:=eq_false (by omega)
theorem ac9 (n:Nat):(n=n+5)=False:=eq_false (by omega)
theorem ZI (n:Nat):(n+6=n)=False:=eq_false (by omega)
theorem ac' (n:Nat):(n=n+6)=False:=eq_false (by omega)
theorem ZJ (n:Nat):(n+7=n)=False:=eq_false (by omega)
theorem ac_ (n:Nat):(n=n+7)=False:=eq_false (by omega)
theorem ZK (n:Nat):(n+8=n)=False:=eq_false (by omega)
theorem ada (n:Nat):(n=n+8)=False:=eq_false (by omega)
theorem TH {P:Program} {r:aS} {h:ae} {Q:cY→aS→ae→Prop} {aJ:List gl} {os:List bs} {D:Option gM} {d:Option Nat} {g:G} {rs:List Nat}:e3 P (.bool true) true d g rs D os aJ r h Q=bj P (.os D (⟨d,g,none,rs⟩::os)::aJ) .normal r h Q:=by
 rw [IB];simp
theorem TE {P:Program} {r:aS} {h:ae} {Q:cY→aS→ae→Prop} {aJ:List gl} {os:List bs} {D:Option gM} {d:Option Nat} {g:G} {rs:List Nat}:e3 P (.bool false) false d g rs D os aJ r h Q=bj P (.os D (⟨d,g,none,rs⟩::os)::aJ) .normal r h Q:=by
 rw [IA];simp
theorem TG {P:Program} {r:aS} {h:ae} {Q:cY→aS→ae→Prop} {aJ:List gl} {os:List bs} {D:Option gM} {d:Option Nat} {g:G} {rs:List Nat}:e3 P (.bool true) false d g rs D os aJ r h Q=bj P (.os (hf D r h (.tuple [])) os::aJ) .normal (r.set d (.tuple [])) h Q:=by
 rw [IA];simp
theorem TF {P:Program} {r:aS} {h:ae} {Q:cY→aS→ae→Prop} {aJ:List gl} {os:List bs} {D:Option gM} {d:Option Nat} {g:G} {rs:List Nat}:e3 P (.bool false) true d g rs D os aJ r h Q=bj P (.os (hf D r h (.tuple [])) os::aJ) .normal (r.set d (.tuple [])) h Q:=by
 rw [IB];simp
theorem OG (c:Bool) (a b:V):V.bif (!c) a (V.opt c b)=V.bif (!c) a b:=by cases c<;>rfl
theorem Wj (A:Prop):(True→A)=A:=propext ⟨fun q=>q trivial,fun q _=>q⟩
theorem Wi (A:Prop):(False→A)=True:=propext ⟨fun _=>trivial,fun _ q=>q.elim⟩
section
variable {P:Program}
theorem gu {b:bB} {aJ:List gl} {r:aS} {h:ae} {Q:cY→aS→ae→Prop} (I:aS→ae→Prop) (μ:aS→ae→Nat) (bb:I r h)
 (step:∀r h,I r h→bj P [.c b] .normal r h fun e bn aa=>e.andThen (I bn aa∧μ bn aa<μ r h) (bj P aJ e bn aa Q)):zd P b aJ r h Q:=
 ⟨I,μ,bb,step⟩
theorem TD {b want:Bool} {d:Option Nat} {f:FuncId} {args:List aR} {rs:List Nat} {os:List bs} {D:Option gM} {aJ:List gl} {r:aS} {h:ae} {Q:cY→aS→ae→Prop} (v:V)
 (bx:(b == want)=true→eo P f (aR.eL (r.trim rs) args) h v h)
 (H:bj P (.os (hf D r h (V.opt (b == want) v)) os::aJ) .normal (r.set d (V.opt (b == want) v)) h Q):e3 P (.bool b) want d (.call f args) rs D os aJ r h Q:=by
 have:=TC (P:=P) (c:=true) (b:=b) (want:=want) (d:=d) (f:=f) (args:=args) (rs:=rs) (D:=D) (os:=os) (aJ:=aJ) (r:=r) (h:=h) (Q:=Q) v
 simp only [V.opt,cond_true,Bool.true_and] at this
 exact this bx H
theorem yh {b:Bool} {d:Option Nat} {f:FuncId} {args:List aR} {rs:List Nat} {os:List bs} {D:Option gM} {aJ:List gl} {r:aS} {h:ae} {Q:cY→aS→ae→Prop} (v:V)
 (bx:(!b)=true→eo P f (aR.eL (r.trim rs) args) h v h)
 (H:bj P (.os (hf D r h (V.opt (!b) v)) os::aJ) .normal (r.set d (V.opt (!b) v)) h Q):e3 P (.bool b) false d (.call f args) rs D os aJ r h Q:=by
 refine TD v ?_ ?_<;>rw [beq_false]<;>assumption
def V.toN:V→Nat
 | .int _ n=>n.toNat
 | _=>0
theorem acr (k:IntKind) (n:Int):V.toN (.int k n)=n.toNat:=rfl
theorem eR {f:FuncId} {args:List V} {d:Option Nat} {os:List bs} {D:Option gM} {aJ:List gl} {r:aS} {h:ae} {Q:cY→aS→ae→Prop} {v:V}
 (c:eo P f args h v h) (H:bj P (.os (hf D r h v) os::aJ) .normal (r.set d v) h Q):mU P f args d D os aJ r h Q:=⟨v,h,c,H⟩
theorem bT {f:FuncId} {args:List V} {d:Option Nat} {os:List bs} {D:Option gM} {aJ:List gl} {r:aS} {h:ae} {Q:cY→aS→ae→Prop} {K:V→ae→Prop}
 (c:bF P f args h K) (H:∀v aa,K v aa→bj P (.os (hf D r h v) os::aJ) .normal (r.set d v) aa Q):mU P f args d D os aJ r h Q:=c.mono H
structure Ext (h aa:ae):Prop where
 next:h.next≤aa.next
 get:∀b,Old h b→aa.get b=h.get b
theorem Ext.refl (h:ae):Ext h h:=⟨Nat.le_refl _,fun _ _=>rfl⟩
theorem Ext.b0 {h aa:ae} (e:Ext h aa) {b:aO} (af:Old h b):Old aa b:=Nat.lt_of_lt_of_le af e.next
theorem Ext.trans {h aa lv:ae} (e:Ext h aa) (cQ:Ext aa lv):Ext h lv:=
 ⟨Nat.le_trans e.next cQ.next,fun b af=>(cQ.get b (e.b0 af)).trans (e.get b af)⟩
theorem Ext.new {h aa:ae} (e:Ext h aa) (k:bV):Ext h (aa.new k):=
 ⟨Nat.le_succ_of_le e.next,fun b af=>by
   rw [gE,if_neg (fun q=>(ES (h:=h) af e.next) ▸ q)]
   exact e.get b af⟩
theorem Ext.set {h aa:ae} (e:Ext h aa) {i:Nat} (aB:h.next≤i) (k:bV):Ext h (aa.set (aH i) k):=
 ⟨e.next,fun b af=>by
   rw [dG,if_neg (fun q=>(ES (h:=h) af aB) ▸ q)]
   exact e.get b af⟩
theorem Ext.rd {h aa:ae} (e:Ext h aa) {b:aO} (af:Old h b) {ab:List V} (H:Rd h b ab):Rd aa b ab:=by
 unfold Rd at H ⊢
 rw [e.get b af]
 exact H
def h2 (h:ae) (b:aO) (off:Nat) (ab:List V):Prop:=Old h b∧∃us,Rd h b us∧off+ab.length≤us.length∧(us.drop off).take ab.length=ab
theorem h2.ext {h aa:ae} (e:Ext h aa) {b:aO} {off:Nat} {ab:List V} (H:h2 h b off ab):h2 aa b off ab:=by
 obtain ⟨bb,us,U,ad,aI⟩:=H
 exact ⟨e.b0 bb,us,e.rd bb U,ad,aI⟩
theorem h2.fS {h:ae} {b:aO} {off:Nat} {ab:List V} (H:h2 h b off ab) {i:Nat} (aB:i<ab.length):hc (h.get b) (off+i)=some ab[i]:=by
 obtain ⟨_,us,U,ad,aI⟩:=H
 rw [U.fS,List.getElem?_eq_getElem (by omega)]
 congr 1
 have:((us.drop off).take ab.length)[i]? =ab[i]? :=by rw [aI]
 rw [List.getElem?_take_of_lt aB,List.getElem?_drop,List.getElem?_eq_getElem (by omega),List.getElem?_eq_getElem aB] at this
 simpa using this
theorem h2.hY {h:ae} {b:aO} {off:Nat} {ab:List V} (H:h2 h b off ab) {i n:Nat} (aB:i+n≤ab.length):mA n (h.get b) (off+i)=some (.agg ((ab.drop i).take n)):=by
 obtain ⟨_,us,U,ad,aI⟩:=H
 rw [U.hY,if_pos (by omega)]
 congr 2
 have:(((us.drop off).take ab.length).drop i).take n=(ab.drop i).take n:=by rw [aI]
 rw [←this,List.drop_take,List.drop_drop,List.take_take]
 congr 1
 omega
def eZ (h:ae) (size:Nat) (v:V) (n:Nat) (ab:List V):Prop:=
 ab.length=n * size∧match v with
  | .cq=>n=0
  | .slice b off len _=>len=n∧h2 h b off ab
  | .dP b off len _=>len=n∧h2 h b off ab
  | .fy _ _ _ _=>n=0
  | _=>False
theorem eZ.ext {h aa:ae} (e:Ext h aa) {size:Nat} {v:V} {n:Nat} {ab:List V} (H:eZ h size v n ab):eZ aa size v n ab:=by
 refine ⟨H.1,?_⟩
 have cN:=H.2
 cases v<;>simp only at cN ⊢<;>first | exact cN | exact ⟨cN.1,cN.2.ext e⟩
theorem eZ.len {h:ae} {size:Nat} {v:V} {n:Nat} {ab:List V} (H:eZ h size v n ab):iO v=some (.int .i64 n):=by
 have cN:=H.2
 cases v<;>simp only at cN<;>first
  | (rw [←cN.1];rfl)
  | (subst cN;rfl)
  | (exact cN.elim)
theorem eZ.c4 {h:ae} {size:Nat} {v:V} {n:Nat} {ab:List V} (H:eZ h size v n ab) {k:IntKind} {i:Nat} (aB:i<n):
 ∃b off,jS size v (.int k i)=some (.ptr b (off+i * size))∧h2 h b off ab:=by
 have cN:=H.2
 cases v<;>simp only at cN<;>first
  | omega
  | (exact cN.elim)
  | skip
 · rename_i b off len cap
   obtain ⟨rfl,U⟩:=cN
   refine ⟨b,off,?_,U⟩
   rw [J0,if_pos (by omega)]
   simp
 · rename_i b off len cap
   obtain ⟨rfl,U⟩:=cN
   refine ⟨b,off,?_,U⟩
   rw [JZ,if_pos (by omega)]
   simp
end
end Go.Proofs.YtkehcalakofigaaGreatDoor.a1
namespace Go.Proofs.YtkehcalakofigaaGreatDoor.a1
variable [Lay]
open Go Go.RowKit
structure Mod (M:aO→Prop) (h aa:ae):Prop where
 next:h.next≤aa.next
 get:∀b,Old h b→¬M b→aa.get b=h.get b
theorem Mod.refl (M:aO→Prop) (h:ae):Mod M h h:=⟨Nat.le_refl _,fun _ _ _=>rfl⟩
theorem Mod.b0 {M:aO→Prop} {h aa:ae} (e:Mod M h aa) {b:aO} (af:Old h b):Old aa b:=Nat.lt_of_lt_of_le af e.next
theorem Mod.trans {M:aO→Prop} {h aa lv:ae} (e:Mod M h aa) (cQ:Mod M aa lv):Mod M h lv:=
 ⟨Nat.le_trans e.next cQ.next,fun b af hm=>(cQ.get b (e.b0 af) hm).trans (e.get b af hm)⟩
theorem Mod.new {M:aO→Prop} {h aa:ae} (e:Mod M h aa) (k:bV):Mod M h (aa.new k):=
 ⟨Nat.le_succ_of_le e.next,fun b af hm=>by
   rw [gE,if_neg (fun q=>(ES (h:=h) af e.next) ▸ q)]
   exact e.get b af hm⟩
theorem Mod.set {M:aO→Prop} {h aa:ae} (e:Mod M h aa) {b:aO} (af:Old h b→M b) (k:bV):Mod M h (aa.set b k):=
 ⟨e.next,fun bz fA hm=>by
   rw [dG]
   by_cases q:b=bz
   · subst q
     exact absurd (af fA) hm
   · rw [if_neg q]
     exact e.get bz fA hm⟩
theorem Ext.mod {h aa:ae} (e:Ext h aa) (M:aO→Prop):Mod M h aa:=⟨e.next,fun b af _=>e.get b af⟩
theorem Ext.nz {h aa lv:ae} (e:Ext h aa) {M:aO→Prop} (m:Mod M aa lv) (hm:∀b,M b→h.next≤cr b):Ext h lv:=
 ⟨Nat.le_trans e.next m.next,fun b af=>by
   have kl:¬M b:=fun q=>by have:=hm b q;unfold Old at af;omega
   exact (m.get b (e.b0 af) kl).trans (e.get b af)⟩
theorem Mod.at {M:aO→Prop} {h aa:ae} (e:Mod M h aa) {b:aO} {off:Nat} {ab:List V} (H:h2 h b off ab) (hm:¬M b):h2 aa b off ab:=by
 obtain ⟨bb,us,U,ad,aI⟩:=H
 refine ⟨e.b0 bb,us,?_,ad,aI⟩
 unfold Rd at U ⊢
 rw [e.get b bb hm]
 exact U
theorem gS {h:ae} {i:Nat} (aB:i<h.next):Old h (aH i):=by unfold Old;rw [dR];exact aB
theorem wj {h:ae} {b:aO} {i:Nat} (af:Old h b) (aB:h.next≤i):(b=aH i)=False:=by
 apply eq_false
 intro e
 unfold Old at af
 rw [e,dR] at af
 omega
def V.bd:V→aO→Prop
 | .slice b _ _ _,bz=>bz=b
 | .dP b _ _ _,bz=>bz=b
 | _,_=>False
theorem eZ.one {h:ae} {size:Nat} {v:V} {n:Nat} {ab:List V} (H:eZ h size v n ab):v.one=true∧v.cells=[v]∧v.e_=true:=by
 have q:=H.2
 cases v<;>simp only at q<;>first | exact ⟨rfl,rfl,rfl⟩ | exact q.elim
theorem eZ.mod {M:aO→Prop} {h aa:ae} (e:Mod M h aa) {size:Nat} {v:V} {n:Nat} {ab:List V} (H:eZ h size v n ab) (hm:∀b,v.bd b→¬M b):eZ aa size v n ab:=by
 refine ⟨H.1,?_⟩
 have cN:=H.2
 cases v<;>simp only at cN ⊢<;>first | exact cN | exact ⟨cN.1,e.at cN.2 (hm _ rfl)⟩
theorem eZ.b0 {h:ae} {size:Nat} {v:V} {n:Nat} {ab:List V} (H:eZ h size v n ab) {b:aO} (af:v.bd b):Old h b:=by
 have cN:=H.2
 cases v<;>simp only [V.bd] at cN af<;>first | (exact af.elim) | (subst af;exact cN.2.1)
def dy (B:Nat) (h:ae) (size:Nat) (v:V) (n:Nat) (ab:List V):Prop:=
 ab.length=n * size∧match v with
  | .cq=>n=0
  | .slice b off len cap=>len=n∧B≤cr b∧Old h b∧n≤cap∧cap≤top∧∃us cj st,h.get b=.bk us cj st∧off+cap * size≤us.length∧(us.drop off).take ab.length=ab
  | .dP b off len idx=>len=n∧B≤cr b∧Old h b∧off=0∧idx=0∧∃us st,h.get b=.bk us size st∧ab.length≤us.length∧us.take ab.length=ab
  | _=>False
theorem dy.v {B:Nat} {h:ae} {size:Nat} {v:V} {n:Nat} {ab:List V} (H:dy B h size v n ab):eZ h size v n ab:=by
 obtain ⟨U,ad⟩:=H
 refine ⟨U,?_⟩
 cases v<;>simp only at ad ⊢<;>first | exact ad | skip
 · obtain ⟨aj,_,ay,aK,_,us,cj,st,bE,dh,eW⟩:=ad
   refine ⟨aj,ay,us,.inr ⟨cj,st,bE⟩,?_,eW⟩
   rw [U]
   have:=Nat.mul_le_mul_right size aK
   omega
 · obtain ⟨aj,_,ay,aK,_,us,st,bE,dh,eW⟩:=ad
   subst aK
   exact ⟨aj,ay,us,.inr ⟨size,st,bE⟩,by omega,by simpa using eW⟩
theorem dy.base {B:Nat} {h:ae} {size:Nat} {v:V} {n:Nat} {ab:List V} (H:dy B h size v n ab) {b:aO} (af:v.bd b):B≤cr b:=by
 have cN:=H.2
 cases v<;>simp only [V.bd] at cN af<;>first | (exact af.elim) | (subst af;exact cN.2.1)
theorem dy.mono {B F4:Nat} {h:ae} {size:Nat} {v:V} {n:Nat} {ab:List V} (H:dy B h size v n ab) (cI:F4≤B):dy F4 h size v n ab:=by
 refine ⟨H.1,?_⟩
 have cN:=H.2
 cases v<;>simp only at cN ⊢<;>first | exact cN | exact ⟨cN.1,Nat.le_trans cI cN.2.1,cN.2.2⟩
theorem dy.mod {M:aO→Prop} {h aa:ae} (e:Mod M h aa) {B size:Nat} {v:V} {n:Nat} {ab:List V} (H:dy B h size v n ab) (hm:∀b,v.bd b→¬M b):dy B aa size v n ab:=by
 refine ⟨H.1,?_⟩
 have cN:=H.2
 cases v<;>simp only at cN ⊢<;>first | exact cN | skip
 · obtain ⟨aj,ay,aK,bE,dh,us,cj,st,eW,iV⟩:=cN
   exact ⟨aj,ay,e.b0 aK,bE,dh,us,cj,st,by rw [e.get _ aK (hm _ rfl)];exact eW,iV⟩
 · obtain ⟨aj,ay,aK,bE,dh,us,st,eW,iV⟩:=cN
   exact ⟨aj,ay,e.b0 aK,bE,dh,us,st,by rw [e.get _ aK (hm _ rfl)];exact eW,iV⟩
theorem dy.ext {h aa:ae} (e:Ext h aa) {B size:Nat} {v:V} {n:Nat} {ab:List V} (H:dy B h size v n ab):dy B aa size v n ab:=
 H.mod (e.mod fun _=>False) fun _ _ q=>q
theorem Ky {h:ae} {size:Nat} {v:V} {n:Nat} {ab:List V} (H:eZ h size v n ab):kZ v=some n:=by
 have cN:=H.2
 cases v<;>simp only at cN<;>first
  | (rw [←cN.1];rfl)
  | (subst cN;rfl)
  | (exact cN.elim)
theorem wS {h:ae} {b:aO} {off size n:Nat} {ab:List V} (H:h2 h b off ab) (ai:ab.length=n * size):lT h size b off n=some ab:=by
 obtain ⟨_,us,U,ad,aI⟩:=H
 unfold lT
 rw [U.lR,show Nat.ble (off+n * size) us.length=true from by rw [Nat.ble_eq];omega,yk us _ off (by omega),←ai,aI]
 rfl
theorem abX {h:ae} {size:Nat} {v:V} {n:Nat} {ab:List V} (H:eZ h size v n ab):qi h size v n=some ab:=by
 obtain ⟨U,ad⟩:=H
 cases v<;>simp only at ad<;>first
  | (exact ad.elim)
  | (obtain ⟨_,aI⟩:=ad;exact wS aI U)
  | (subst ad
     have:ab=[]:=List.eq_nil_of_length_eq_zero (by omega)
     subst this
     rfl)
theorem dy.grown {B:Nat} {h:ae} {size:Nat} {ab:List V} {n:Nat} {st:Bool} (ai:ab.length=n * size) (cI:B≤h.next):dy B (h.new (.bk ab size st)) size (.dP (aH h.next) 0 n 0) n ab:=
 ⟨ai,rfl,by rw [dR];exact cI,La,rfl,rfl,ab,st,l9 _,Nat.le_refl _,List.take_length⟩
theorem Ob {h:ae} {size:Nat} {s x:V} {m:Nat} {ab:List V} (cN:eZ h size x m ab) (hm:m≤top):lk size s x h=(match s with
 | .cq=>sz size m ab h
 | .slice b off len cap=>sx size b off len cap m ab h
 | .dP b off len idx=>sw size b off len idx m ab h
 | _=>.fail):=by
 unfold lk
 rw [Ky cN]
 simp only
 rw [abX cN]
 simp only
 rw [show Nat.ble m top=true from by rw [Nat.ble_eq];exact hm]
 rfl
theorem abV (A:List V) (o:Nat) (W:List V) (h:o+W.length≤A.length) (q:Nat):(hh A o W)[q]? =if q<o then A[q]? else if q<o+W.length then W[q-o]? else A[q]? :=by
 have ai:(A.take o).length=o:=by rw [List.length_take];omega
 unfold hh
 rw [List.append_assoc]
 by_cases bC:q<o
 · rw [if_pos bC,List.getElem?_append_left (by omega),List.getElem?_take_of_lt bC]
 · rw [if_neg bC,List.getElem?_append_right (by omega),ai]
   by_cases bY:q<o+W.length
   · rw [if_pos bY,List.getElem?_append_left (by omega)]
   · rw [if_neg bY,List.getElem?_append_right (by omega),List.getElem?_drop]
     congr 1
     omega
theorem xA {B:Nat} {h:ae} {size:Nat} {s x:V} {n m:Nat} {us ab:List V} (bZ:1≤size) (H1:dy B h size s n us) (cN:eZ h size x m ab) (cI:B≤h.next) (hlen:(n+m) * size≤top) (aP:eb ab=true):
 ∃v aa,lk size s x h=.val v aa∧dy B aa size v (n+m) (us++ab)∧Mod s.bd h aa∧∀b,v.bd b→s.bd b∨h.next≤cr b:=by
 have kl:n+m≤top:=Nat.le_trans (Nat.le_mul_of_pos_right _ bZ) hlen
 have jK:=H1.1
 have kj:=cN.1
 have h':(us++ab).length=(n+m) * size:=by rw [List.length_append,jK,kj,Nat.add_mul]
 rw [Ob cN (by omega)]
 have ad:=H1.2
 cases s<;>simp only at ad ⊢<;>try (exact ad.elim)
 case cq=>
  subst ad
  have:us=[]:=List.eq_nil_of_length_eq_zero (by omega)
  subst this
  unfold sz
  by_cases hm:m=0
  · subst hm
    have:ab=[]:=List.eq_nil_of_length_eq_zero (by omega)
    subst this
    exact ⟨.cq,h,rfl,⟨by simp,rfl⟩,Mod.refl _ _,fun b af=>.inl af⟩
  · rw [show Nat.beq m 0=false from by rw [←Bool.not_eq_true,Nat.beq_eq];exact hm]
    simp only [cond_false]
    rw [EF (by rw [kj];simpa using hlen) bZ]
    refine ⟨_,_,rfl,?_,(Mod.refl _ _).new _,fun b af=>.inr (by rw [show b=aH h.next from af,dR];exact Nat.le_refl _)⟩
    have:=dy.grown (B:=B) (h:=h) (size:=size) (ab:=ab) (n:=m) (st:=false) kj cI
    simpa using this
 case slice b off len cap=>
  obtain ⟨rfl,ay,aK,bE,dh,nJ,cj,st,eW,iV,mI⟩:=ad
  unfold sx
  by_cases ar:len+m≤cap
  · rw [show Nat.ble (len+m) cap=true from by rw [Nat.ble_eq];exact ar]
    simp only [cond_true]
    have e6:off+len * size+ab.length≤nJ.length:=by
     have:=Nat.mul_le_mul_right size ar
     rw [Nat.add_mul] at this
     rw [kj]
     omega
    rw [Own.lay (ab:=nJ) (cj:=cj) (st:=st) eW e6 aP]
    refine ⟨_,_,rfl,⟨h',rfl,ay,aK,ar,dh,_,cj,st,dG _ _ _ |>.trans (if_pos rfl),?_,?_⟩,(Mod.refl (V.bd (.slice b off len cap)) h).set (fun _=>rfl) _,fun bz af=>.inl af⟩
    · rw [Ad _ _ _ e6];exact iV
    · rw [List.length_append]
      unfold hh
      have dL:off+us.length≤nJ.length:=by rw [jK];omega
      have aE:nJ.take (off+len * size)=nJ.take off++us:=by
       rw [←jK,List.take_add,mI]
      rw [aE,List.append_assoc,List.append_assoc,List.drop_append,List.drop_eq_nil_of_le (by rw [List.length_take];omega),List.nil_append]
      rw [show off - (nJ.take off).length=0 from by rw [List.length_take];omega,List.drop_zero]
      rw [←List.append_assoc,List.take_left' (by rw [List.length_append])]
  · rw [show Nat.ble (len+m) cap=false from by rw [←Bool.not_eq_true,Nat.ble_eq];exact ar]
    simp only [cond_false]
    rw [show (Nat.ble (len+m) top&&Nat.ble cap top)=true from by simp only [Bool.and_eq_true,Nat.ble_eq];exact ⟨kl,dh⟩]
    simp only [cond_true]
    have CS:h2 h b off us:=⟨aK,nJ,.inr ⟨cj,st,eW⟩,by rw [jK];have:=Nat.mul_le_mul_right size bE;omega,mI⟩
    rw [wS CS jK]
    simp only
    rw [EF (by rw [h'];exact hlen) bZ]
    exact ⟨_,_,rfl,dy.grown h' cI,(Mod.refl _ _).new _,fun b af=>.inr (by rw [show b=aH h.next from af,dR];exact Nat.le_refl _)⟩
 case dP b off len idx=>
  obtain ⟨rfl,ay,aK,rfl,rfl,nJ,st,eW,iV,mI⟩:=ad
  unfold sw
  by_cases hm:m=0
  · subst hm
    have:ab=[]:=List.eq_nil_of_length_eq_zero (by omega)
    subst this
    exact ⟨_,h,rfl,⟨h',rfl,ay,aK,rfl,rfl,nJ,st,eW,by simpa using iV,by simpa using mI⟩,Mod.refl _ _,fun b af=>.inl af⟩
  · rw [show Nat.beq m 0=false from by rw [←Bool.not_eq_true,Nat.beq_eq];exact hm]
    simp only [cond_false]
    rw [eW]
    simp only [bV.bk,bV.on]
    rw [show (Nat.beq size size&&(Nat.ble (len+m) top&&eb ab)&&Nat.beq 0 (0 * size))=true from by
     simp only [Bool.and_eq_true,Nat.beq_eq,Nat.ble_eq]
     exact ⟨⟨trivial,kl,aP⟩,by omega⟩]
    simp only [cond_true]
    have CS:h2 h b 0 us:=⟨aK,nJ,.inr ⟨size,st,eW⟩,by omega,by simpa using mI⟩
    rw [wS CS jK]
    simp only
    rw [EF (by rw [h'];exact hlen) bZ]
    exact ⟨_,_,rfl,dy.grown (h:=h.set b .dead) h' cI,((Mod.refl (V.bd (.dP b 0 len 0)) h).set (fun _=>rfl) _).new _,fun bz af=>.inr (by rw [show bz=aH h.next from af,dR];exact Nat.le_refl _)⟩
theorem aag (r:aS):aR.opt r none=none:=(rfl)
theorem aah (r:aS) (x:aR):aR.opt r (some x)=some (x.aU r):=(rfl)
theorem GY {k:IntKind} {m d y:Nat} (h:m≤y):bound (some (.int k (m:Int))) d y=some m:=by
 simp only [bound,V.dB,lI]
 rw [show (decide ((0:Int)≤(m:Int))&&decide ((m:Int)≤(y:Int)))=true from by simp;omega]
 simp
theorem xH (d y:Nat):bound none d y=some d:=rfl
theorem Zy (b:aO) (o:Nat):p1 (.ptr b o)=some (.ptr b o):=rfl
theorem Zj (k bl:IntKind) (a b:Int):ij (fun b a=>!Int.leB a b) [.int k a,.int bl b]=some (.int k (if b<a then b else a)):=by
 simp only [ij,rS,V.dB,lI]
 by_cases h:b<a
 · rw [if_pos h]
   have:¬a≤b:=by omega
   simp [this]
 · rw [if_neg h]
   have:a≤b:=by omega
   simp [this]
theorem EA (k bl:IntKind) (a b:Int):ij (fun b a=>!Int.leB b a) [.int k a,.int bl b]=some (.int k (if a<b then b else a)):=by
 simp only [ij,rS,V.dB,lI]
 by_cases h:a<b
 · rw [if_pos h]
   have:¬b≤a:=by omega
   simp [this]
 · rw [if_neg h]
   have:b≤a:=by omega
   simp [this]
end Go.Proofs.YtkehcalakofigaaGreatDoor.a1
namespace Go.Proofs.YtkehcalakofigaaGreatDoor.a1
variable [Lay]
open Go Go.RowKit
set_option linter.defProp false
end Go.Proofs.YtkehcalakofigaaGreatDoor.a1
namespace Go.Proofs.YtkehcalakofigaaGreatDoor.a1
variable [Lay]
open Go Go.RowKit
theorem Se {P:Program} {aJ:List gl} {r:aS} {h:ae} {Q:cY→aS→ae→Prop} {a b:bB}:sF P (.bool true) a b aJ r h Q=bj P (.c a::aJ) .normal r h Q:=by
 rw [Hw];simp
theorem Sd {P:Program} {aJ:List gl} {r:aS} {h:ae} {Q:cY→aS→ae→Prop} {a b:bB}:sF P (.bool false) a b aJ r h Q=bj P (.c b::aJ) .normal r h Q:=by
 rw [Hw];simp
theorem GS (a b:List UInt8):l3 a b=decide (a=b):=by
 rw [qH,Bool.eq_iff_iff]
 simp
theorem Bb (k:IntKind) (b:Int) (d y:Nat):bound (some (.int k b)) d y=if 0≤b∧b≤(y:Int) then some b.toNat else none:=by
 simp only [bound,V.dB,lI]
 by_cases U:0≤b<;>by_cases ad:b≤(y:Int)<;>simp [U,ad]
theorem abJ (s:List UInt8) (k:IntKind) (b:Int):j0 (.str s) none (some (.int k b)) none=if 0≤b∧b≤(s.length:Int) then some (.str (s.take b.toNat)) else none:=by
 simp only [j0,Bb]
 by_cases h:0≤b∧b≤(s.length:Int)
 · simp only [h,and_self,if_true,bound,List.drop_zero,Nat.sub_zero]
 · simp only [h,if_false]
theorem abK (s:List UInt8) (k:IntKind) (a:Int):j0 (.str s) (some (.int k a)) none none=if 0≤a∧a≤(s.length:Int) then some (.str (s.drop a.toNat)) else none:=by
 simp only [j0,xH,Bb]
 by_cases h:0≤a∧a≤(s.length:Int)
 · simp only [h,and_self,if_true]
   rw [List.take_of_length_le (by rw [List.length_drop];omega)]
 · simp only [h,if_false]
theorem abL (s:List UInt8) (k bl:IntKind) (a b:Int):j0 (.str s) (some (.int k a)) (some (.int bl b)) none=if 0≤a∧a≤b∧b≤(s.length:Int) then some (.str ((s.drop a.toNat).take (b.toNat-a.toNat))) else none:=by
 simp only [j0,Bb]
 by_cases h:0≤b∧b≤(s.length:Int)
 · simp only [h,and_self,if_true]
   by_cases ad:0≤a∧a≤b
   · have:0≤a∧a≤((b.toNat:Nat):Int):=by omega
     simp only [this,and_self,if_true,ad,h]
   · have aI:¬(0≤a∧a≤((b.toNat:Nat):Int)):=by omega
     have br:¬(0≤a∧a≤b∧b≤(s.length:Int)):=by omega
     have cp:¬(0≤a∧a≤b∧True):=fun q=>ad ⟨q.1,q.2.1⟩
     rw [if_neg cp,if_neg aI]
 · have br:¬(0≤a∧a≤b∧b≤(s.length:Int)):=by omega
   simp only [h,br,if_false]
theorem abI (s:List UInt8):j0 (.str s) none none none=some (.str s):=by
 simp only [j0,xH,List.drop_zero,Nat.sub_zero,List.take_length]
section
variable {P:Program}
theorem abq (a b:List UInt8):(dV.str .eql).run P (.str a) (.str b)=some (.bool (decide (a=b))):=by simp only [dV.run,o0,nG,GS]
theorem abp (a b:List UInt8):(dV.str .add).run P (.str a) (.str b)=if a.length+b.length≤top then some (.str (a++b)) else none:=by
 simp only [dV.run,o0,Ah]
 by_cases h:a.length+b.length≤top
 · rw [if_pos h,show Nat.ble (a.length+b.length) top=true from by rw [Nat.ble_eq];exact h]
   rfl
 · rw [if_neg h,show Nat.ble (a.length+b.length) top=false from by rw [←Bool.not_eq_true,Nat.ble_eq];exact h]
   rfl
theorem abr (s:List UInt8) (k:IntKind) (i:Int):oI.run (.str s) (.int k i)=if 0≤i∧i < (s.length:Int) then some (.int .u8 (((s[i.toNat]?).getD 0).toNat:Int)) else none:=by
 simp only [oI,V.dB,lI]
 by_cases U:0≤i
 · simp only [U,decide_true,cond_true,true_and]
   by_cases ad:i < (s.length:Int)
   · rw [if_pos ad,List.getElem?_eq_getElem (by omega)]
     rfl
   · rw [if_neg ad,List.getElem?_eq_none (by omega)]
 · simp only [U,decide_false,cond_false,false_and,if_false]
theorem abt (a b:List UInt8):(dV.str .neq).run P (.str a) (.str b)=some (.bool (!decide (a=b))):=by simp only [dV.run,o0,nG,GS]
end
end Go.Proofs.YtkehcalakofigaaGreatDoor.a1
namespace Go.Proofs.YtkehcalakofigaaGreatDoor.a1
open Go Go.RowKit
set_option linter.defProp false
def acT:=
 And.intro @Xu<|And.intro @WI<|And.intro @XC<|And.intro @WJ<|And.intro @Xz<|And.intro @XD<|And.intro @XA<|And.intro @W1<|And.intro @WT<|And.intro @WQ<|And.intro @WR<|And.intro @Xk<|And.intro @WZ<|And.intro @Xx<|And.intro @Xq<|And.intro @Yh<|And.intro @Xy<|And.intro @Ym<|And.intro @WN<|And.intro @XR<|And.intro @Xc<|And.intro @X9<|And.intro @Xd<|And.intro @X'<|And.intro @Xv<|And.intro @Yk<|And.intro @WH<|And.intro @XO<|And.intro @XI<|And.intro @Yr<|And.intro @W6<|And.intro @X3<|And.intro @W_<|And.intro @X6<|And.intro @XF<|And.intro @Yp<|And.intro @XE<|And.intro @Yo<|And.intro @W3<|@X0
def acU:=
 And.intro @W4<|And.intro @X1<|And.intro @W5<|And.intro @X2<|And.intro @W9<|And.intro @X4<|And.intro @W'<|And.intro @X5<|And.intro @Xb<|And.intro @X8<|And.intro @Xa<|And.intro @X7<|And.intro @Xj<|And.intro @Yd<|And.intro @W2<|And.intro @XZ<|And.intro @Xo<|And.intro @Yg<|And.intro @Xr<|And.intro @Yi<|And.intro @WV<|And.intro @XW<|And.intro @Xg<|And.intro @Yb<|And.intro @Xh<|And.intro @Yc<|And.intro @Xe<|And.intro @X_<|And.intro @Xt<|And.intro @Yj<|And.intro @WL<|And.intro @XP<|And.intro @WM<|And.intro @XQ<|And.intro @XG<|And.intro @Yq<|And.intro @Xn<|And.intro @Yf<|And.intro @XJ<|@Ys
def acV:=
 And.intro @Xm<|And.intro @Ye<|And.intro @XB<|And.intro @Yn<|And.intro @Xw<|And.intro @Yl<|And.intro @WE<|And.intro @XN<|And.intro @WS<|And.intro @XU<|And.intro @Xf<|And.intro @Ya<|And.intro @WU<|And.intro @XV<|And.intro @WX<|And.intro @XY<|And.intro @WW<|And.intro @XX<|And.intro @XS<|And.intro @XT<|And.intro @Kf<|And.intro @WO<|@WY
def acW:=
 And.intro @ab8<|And.intro @abO<|And.intro @Se<|And.intro @Sd<|And.intro @xQ<|And.intro @aa_<|And.intro @OP<|And.intro @OO<|And.intro @aaj<|And.intro @Td<|And.intro @Tc<|And.intro @OR<|And.intro @S3<|And.intro @S2<|And.intro @aaw<|And.intro @S'<|And.intro @ZW<|And.intro @ZV<|And.intro @YS<|And.intro @YQ<|And.intro @YT<|And.intro @YR<|And.intro @YU<|And.intro @J0<|And.intro @JZ<|And.intro @Su<|And.intro @S5<|And.intro @S4<|And.intro @acw<|And.intro @abv<|And.intro @abw<|And.intro @ZN<|And.intro @ZO<|And.intro @aai<|And.intro @aaf<|And.intro @acK<|And.intro @acJ<|And.intro @OE<|And.intro @OF<|@OG
def acX:=
 And.intro @OH<|And.intro @OD<|And.intro @Nu<|And.intro @Nw<|And.intro @Nv<|And.intro @acs<|And.intro @acv<|And.intro @acu<|And.intro @Wv<|And.intro @Wx<|And.intro @Ww<|And.intro @WD<|And.intro @XH<|And.intro @Xp<|And.intro @W0<|And.intro @Xs<|And.intro @Xl<|And.intro @Xi<|And.intro @W8<|And.intro @W7<|And.intro @WG<|And.intro @WK<|And.intro @acG<|And.intro @acF<|And.intro @Y3<|And.intro @Y5<|And.intro @Ko<|And.intro @Kp<|And.intro @En<|And.intro @Ks<|And.intro @ab3<|And.intro @Yy<|And.intro @l9<|And.intro @gE<|And.intro @dG<|And.intro @oP<|And.intro @gw<|And.intro @lL<|And.intro @Zr<|@RO
def acY:=
 And.intro @ZY<|And.intro @TL<|And.intro @RS<|And.intro @Z2<|And.intro @TP<|And.intro @R2<|And.intro @Z_<|And.intro @TY<|And.intro @RX<|And.intro @Z7<|And.intro @TU<|And.intro @RZ<|And.intro @Z9<|And.intro @TW<|And.intro @R1<|And.intro @Z'<|And.intro @TX<|And.intro @RQ<|And.intro @Z0<|And.intro @TN<|And.intro @R3<|And.intro @aaa<|And.intro @TZ<|And.intro @RY<|And.intro @Z8<|And.intro @TV<|And.intro @RW<|And.intro @Z6<|And.intro @TT<|And.intro @RT<|And.intro @Z3<|And.intro @TQ<|And.intro @RP<|And.intro @ZZ<|And.intro @TM<|And.intro @RV<|And.intro @Z5<|And.intro @TS<|And.intro @RR<|@Z1
def acZ:=
 And.intro @TO<|And.intro @RU<|And.intro @Z4<|And.intro @TR<|And.intro @RN<|And.intro @TK<|And.intro @T0<|And.intro @YM<|And.intro @YN<|And.intro @YL<|And.intro @beq_true<|And.intro @beq_false<|And.intro @Bool.not_true<|And.intro @Bool.not_false<|And.intro @Bool.true_and<|And.intro @Bool.and_true<|And.intro @Bool.false_and<|And.intro @Bool.and_false<|And.intro @Bool.not_not<|And.intro @V.bool.injEq<|And.intro @Nat.zero_add<|And.intro @Nat.add_zero<|And.intro @aco<|And.intro @acp<|And.intro @acm<|And.intro @Bool.true_eq_false<|And.intro @Bool.false_eq_true<|And.intro @acr<|And.intro @aaE<|And.intro @aaF<|And.intro @Oq<|And.intro @Oo<|And.intro @Ol<|And.intro @Oh<|And.intro @UJ<|And.intro @UL<|And.intro @UK<|And.intro @Oi<|And.intro @Oj<|@Om
def ac0:=
 And.intro @On<|And.intro @K2<|And.intro @ac5<|And.intro @wm<|And.intro @ac6<|And.intro @ZF<|And.intro @ac7<|And.intro @ZG<|And.intro @ac8<|And.intro @ZH<|And.intro @ac9<|And.intro @ZI<|And.intro @ac'<|And.intro @ZJ<|And.intro @ac_<|And.intro @ZK<|And.intro @ada<|And.intro @TH<|And.intro @TE<|And.intro @TG<|And.intro @TF<|And.intro @TI<|And.intro @Bool.or_false<|And.intro @Bool.false_or<|And.intro @Bool.or_true<|And.intro @Bool.true_or<|And.intro @Zy<|And.intro @Zj<|And.intro @EA<|And.intro @aag<|And.intro @aah<|And.intro @NV<|And.intro @N1<|And.intro @N2<|And.intro @N3<|And.intro @N4<|And.intro @N5<|And.intro @N6<|And.intro @N7<|@N8
def ac1:=
 And.intro @NU<|And.intro @NW<|And.intro @NX<|And.intro @NY<|And.intro @NZ<|And.intro @N0<|And.intro @abJ<|And.intro @abK<|And.intro @abL<|And.intro @abI<|And.intro @abq<|And.intro @abt<|And.intro @abp<|@abr
end Go.Proofs.YtkehcalakofigaaGreatDoor.a1
namespace Go.Proofs.YtkehcalakofigaaGreatDoor.a1
variable [Lay]
open Go Go.RowKit
theorem uN {B:Nat} {h:ae} {size:Nat} {s:V} {n:Nat} {us cs:List V} (bZ:1≤size) (H1:dy B h size s n us) (cI:B≤h.next) (hlen:(n+1) * size≤top) (gp:cs.length=size) (aP:eb cs=true):
 ∃v aa,lk size s (.slice (aH h.next) 0 1 1) (h.new (.bk cs 0 false))=.val v aa∧dy B aa size v (n+1) (us++cs)∧Mod s.bd h aa∧h.next+1≤aa.next∧∀b,v.bd b→s.bd b∨h.next<cr b:=by
 have ao:Ext h (h.new (.bk cs 0 false)):=(Ext.refl h).new _
 have bx:eZ (h.new (.bk cs 0 false)) size (.slice (aH h.next) 0 1 1) 1 cs:=by
  refine ⟨by rw [gp];omega,rfl,gS (by rw [gw];omega),cs,.inr ⟨0,false,by rw [l9]⟩,by omega,by simp⟩
 obtain ⟨v,aa,aj,ay,aK,bE⟩:=xA bZ (H1.ext ao) bx (by rw [gw];omega) hlen aP
 refine ⟨v,aa,aj,ay,(ao.mod _).trans aK,by have:=aK.next;rw [gw] at this;exact this,fun b af=>?_⟩
 rcases bE b af with q | q
 · exact .inl q
 · exact .inr (by rw [gw] at q;omega)
theorem MR:∀l:List UInt8,k7 (gC l)=some l
 | []=>rfl
 | c::l=>by
   have bh:=MR l
   simp only [gC,k7,bh]
   simp
theorem xO:∀l:List UInt8,(gC l).length=l.length
 | []=>rfl
 | c::l=>by simp only [gC,List.length_cons,xO l]
theorem G1:∀l m:List UInt8,gC (l++m)=gC l++gC m
 | [],m=>rfl
 | c::l,m=>by simp only [gC,List.cons_append,G1 l m]
theorem MC {h:ae} {b:aO} {us:List V} {cj:Nat} {st:Bool} {off:Nat} {l:List UInt8} (aD:h.get b=.bk us cj st) (ai:off+l.length≤us.length) (hu:(us.drop off).take l.length=gC l):qk b off l.length h=.val (.str l) h:=by
 unfold qk
 rw [aD]
 simp only [bV.lR,bV.bk]
 rw [show Nat.ble (off+l.length) us.length=true from by rw [Nat.ble_eq];exact ai]
 simp only [cond_true]
 rw [yk us l.length off ai,hu,MR]
theorem Hy {B:Nat} {h:ae} {v:V} {n:Nat} {l:List UInt8} (H:dy B h 1 v n (gC l)):pr.run v h=.val (.str l) h:=by
 have U:=H.1
 rw [xO,Nat.mul_one] at U
 have ad:=H.2
 cases v<;>simp only at ad<;>try (exact ad.elim)
 case cq=>
  subst ad
  rw [List.length_eq_zero_iff] at U
  subst U
  rfl
 case slice=>
  obtain ⟨aj,ay,aK,bE,dh,us,cj,st,eW,iV,mI⟩:=ad
  rw [xO] at mI
  simp only [pr]
  rw [aj,←U]
  exact MC eW (by omega) mI
 case dP=>
  obtain ⟨aj,ay,aK,bE,dh,us,st,eW,iV,mI⟩:=ad
  rw [xO] at mI iV
  simp only [pr]
  rw [aj,bE,←U]
  exact MC eW (by omega) (by simpa using mI)
theorem Mod.self {b:aO} {h aa:ae} (e:Mod (fun q=>q=b) h aa) (k:bV):Mod (fun q=>q=b) h (aa.set b k):=e.set (fun _=>rfl) k
theorem Mod.fresh {M:aO→Prop} {h aa:ae} (e:Mod M h aa) {i:Nat} (aB:h.next≤i) (k:bV):Mod M h (aa.set (aH i) k):=
 e.set (fun q=>absurd (show cr (aH i)<h.next from q) (by rw [dR];omega)) k
theorem Mod.acn {M N:aO→Prop} {h ad aI:ae} (e:Mod M h ad) (q:Mod N ad aI) (a7:∀b,N b→h.next≤cr b):Mod M h aI:=
 ⟨Nat.le_trans e.next q.next,fun b aP af=>by
   rw [q.get b (e.b0 aP) (fun k=>absurd (show cr b<h.next from aP) (by have:=a7 b k;omega)),e.get b aP af]⟩
end Go.Proofs.YtkehcalakofigaaGreatDoor.a1
namespace Go.Proofs.YtkehcalakofigaaGreatDoor.a1
variable [Lay]
set_option linter.defProp false
open Go Go.RowKit
def ak:=And.intro @acT<|And.intro @acU @acV
def acL:=And.intro @acW<|And.intro @acX<|And.intro @acY<|And.intro @acZ<|And.intro @ac0 @ac1
def acM:=And.intro @Option.isSome_some.{0}<|And.intro @Option.getD_some.{0}<|And.intro @if_true.{1}<|And.intro @if_false.{1}<|And.intro @true_and<|And.intro @and_true<|And.intro @List.getElem?_cons_zero.{0}<|And.intro @List.getElem?_cons_succ.{0}<|And.intro @List.length_cons.{0}<|And.intro @List.length_nil.{0}<|
 And.intro @List.drop_zero.{0}<|And.intro @List.drop_succ_cons.{0}<|And.intro @List.take_succ_cons.{0}<|And.intro @List.take_zero.{0}<|And.intro @List.cons_append.{0}<|And.intro @List.nil_append.{0}<|And.intro @Option.some.injEq.{0}<|And.intro @exists_eq_left'.{1}<|And.intro @List.cons.injEq.{0}<|
 And.intro @Nat.succ_ne_zero<|And.intro @Wj<|And.intro @Wi<|And.intro @List.getElem?_nil.{0}<|And.intro @decide_true<|And.intro @decide_false<|And.intro @eq_self.{1}<|And.intro @not_true_eq_false<|And.intro @not_false_eq_true<|And.intro @ite_true.{1} @ite_false.{1}
def c1:=And.intro acL (And.intro acM (And.intro @gV.eq_1 (And.intro @gV.eq_2 (And.intro @aR.eL.eq_1 (And.intro @aR.eL.eq_2 (And.intro @lS.eq_1 (And.intro @lS.eq_2 (And.intro @lS.eq_3 (And.intro @over.eq_1 (And.intro @over.eq_2 (And.intro @over.eq_3 (And.intro @eb.eq_1 (@eb.eq_2)))))))))))))
def au:=And.intro c1 (And.intro @cY.ends.eq_1 (And.intro @cY.ends.eq_2 (And.intro @cB.eq_1 (And.intro @cB.eq_2 (And.intro @cB.eq_3 (And.intro @cB.eq_4 (And.intro @oneOf.eq_1 (And.intro @oneOf.eq_2 top.eq_1))))))))
end Go.Proofs.YtkehcalakofigaaGreatDoor.a1
namespace Go.Proofs.YtkehcalakofigaaGreatDoor.a1
variable [Lay]
open Go Go.RowKit
theorem R8 {P:Program} {f:FuncId} (aZ:Nat.beq f cM=false) {v:V} (bx:∀E x,x=.bool true→Rel E v x) (gq:∃fn,P.funcs[f]? =some fn∧fn.body.isSome=true) (H:∀w,Lay.ok w→Calls P f #[] w fun e al=>e=.returned (.bool true)∧Below w.heap.size w al) (h:ae):
 eo P f [] h v h:=by
 refine ⟨fun e=>by subst e;simp at aZ,.inl ⟨gq,fun aw E w xs ao s=>?_⟩⟩
 simp only [aY] at ao
 subst ao
 refine (H w (Lay.fc s.laid s.frame)).mono fun e al q=>?_
 obtain ⟨rfl,af⟩:=q
 exact ⟨E,_,rfl,fun _ _ q=>q,bx E _ rfl,s.below af⟩
noncomputable def nK (E:Env) (h:ae) (p:gY):Env:=fun b=>if b=aH h.next then some p else E b
theorem MZ (E:Env) (h:ae) (p:gY):nK E h p (aH h.next)=some p:=if_pos rfl
theorem FU {aw:Fr} {E:Env} {h:ae} {w:World} (s:aW aw E h w) (p:gY):E.le (nK E h p):=fun b q aF=>by
 unfold nK
 rw [if_neg (fun e=>by rw [e,s.fresh _ (Nat.le_refl _)] at aF;cases aF)]
 exact aF
theorem abF {W:World} {E:Env} {h:ae} (s:aW ⟨W,fun _=>none⟩ E h W) (p:gY) (k:bV) (aP:k.own=false) (aA:e' W.heap.size (nK E h p) W (aH h.next) k):
 aW ⟨W,fun _=>none⟩ (nK E h p) (h.new k) W:=by
 refine ⟨fun b _=>?_,fun _ _ h=>(by cases h),fun b bz q dK U ad aE aM aF=>?_,fun i aB=>?_,s.frame,s.laid,fun b q n cs st U aE=>by
  rw [gE] at U
  by_cases bC:aH h.next=b
  · rw [if_pos bC] at U;rw [U] at aP;cases aP
  · rw [if_neg bC] at U
    unfold nK at aE
    rw [if_neg (fun e=>bC e.symm)] at aE
    exact s.base _ _ _ _ _ U aE⟩
 · rw [gE]
   by_cases e:aH h.next=b
   · subst e
     rw [if_pos rfl]
     exact aA
   · rw [if_neg e]
     exact (s.bd b rfl).mono (FU s p)
 · rw [gE] at U ad
   by_cases bC:aH h.next=b
   · rw [if_pos bC,aP] at U;cases U
   · by_cases bY:aH h.next=bz
     · rw [if_pos bY,aP] at ad;cases ad
     · rw [if_neg bC] at U
       rw [if_neg bY] at ad
       unfold nK at aE aM
       rw [if_neg (fun e=>bC e.symm)] at aE
       rw [if_neg (fun e=>bY e.symm)] at aM
       exact s.inj b bz q dK U ad aE aM aF
 · rw [gw] at aB
   unfold nK
   rw [if_neg (fun e=>by have:=gT e;omega)]
   exact s.fresh i (by omega)
theorem abG {W:World} {E:Env} {h:ae} (s:aW ⟨W,fun _=>none⟩ E h W) {k base cap:Nat} {c:Array Value} {el:TypeId} {bG:Nat × Nat} (aA:W.heap[k]? =some (.cells c el bG)) {ab:List V}
 (ar:base+ab.length≤c.size) (aG:∀i v y,ab[i]? =some v→c[base+i]? =some y→Rel E v y):
 aW ⟨W,fun _=>none⟩ (nK E h ⟨k,base,cap⟩) (h.new (.ro ab)) W:=by
 refine abF s _ _ rfl ?_
 have aN:k<W.heap.size:=by
  by_cases aN:k<W.heap.size
  · exact aN
  · rw [Array.getElem?_eq_none (by omega)] at aA
    cases aA
 refine ⟨trivial,⟨k,base,cap⟩,c,el,bG,MZ _ _ _,aN,aA,ar,fun i y aB aZ=>?_⟩
 have:T.get .bad (aH i) (eN .e 0 ab)=ab[i]:=by
  have:=yi ab 0 i .e
  rw [Nat.zero_add] at this
  rw [this,if_pos aB,List.getElem?_eq_getElem aB]
  rfl
 rw [this]
 exact Rel.mono (FU s _) _ _ (aG i _ y (List.getElem?_eq_getElem aB) aZ)
end Go.Proofs.YtkehcalakofigaaGreatDoor.a1
