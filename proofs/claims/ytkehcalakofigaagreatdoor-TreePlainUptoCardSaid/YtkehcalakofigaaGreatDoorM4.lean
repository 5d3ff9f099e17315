/- The abstract machine and its walks (a verified interpreter of the model's code: plain definitions and lemmas, no condition). Printed by a program from longer texts: names made short. -/
import Derived.Test.YtkehcalakofigaaGreatDoorM3
import Derived.IntWalk
import Derived.ChangeArms
import Derived.DataReads
set_option linter.unusedSectionVars false
set_option linter.unusedSimpArgs false
set_option linter.unusedVariables false
namespace Go.Proofs.YtkehcalakofigaaGreatDoor.aS
variable [Lay]
open Go Go.RowKit
inductive aU where
 | t (n:Nat)
 | c (v:V)
abbrev aT:=Nat→V
def aU.aW (r:aT):aU→V
 | .t n=>r n
 | .c v=>v
def aU.eV (r:aT):List aU→List V
 | []=>[]
 | x::xs=>x.aW r::aU.eV r xs
def rx:Operand→aU
 | .tmp t=>bif Nat.ble t top then .t t else .c .bad
 | .const v=>.c (fT v)
 | .func f=>bif Nat.beq f cR then .c .bad else .c (.func f [])
 | .global _=>.c .bad
def lX:List Operand→List aU
 | []=>[]
 | x::xs=>rx x::lX xs
def aU.opt (r:aT):Option aU→Option V
 | none=>none
 | some x=>some (x.aW r)
def p8:Option Operand→Option aU
 | none=>none
 | some x=>some (rx x)
inductive d' where
 | int (op:BinOp)
 | str (op:BinOp)
 | shl
 | shr
 | uk (neg:Bool)
 | jc (neg:Bool) (k:Nat)
 | other (op:BinOp) (t:TypeId)
noncomputable def d'.run (P:Program):d'→V→V→Option V
 | .int op=>(jT op).run
 | .str op=>(qb op).run
 | .shl=>(tk true).run
 | .shr=>(tk false).run
 | .uk neg=>(hG neg nZ).run
 | .jc neg k=>(hG neg (fH k)).run
 | .other op t=>(o' P op t).run
inductive qn where
 | int (k:IntKind)
 | bytes
 | str
 | other (s d:TypeId)
noncomputable def qn.run (P:Program):qn→V→af→aV
 | .int k=>fun x h=>x.dJ .fail fun _ n=>.val (.int k (k.wrap n)) h
 | .bytes=>wO.run
 | .str=>qB.run
 | .other s d=>(nX P s d).run
inductive j9 where
 | int | str | bool
def j9.eq:j9→db
 | .int=>ki
 | .str=>kR
 | .bool=>nZ
inductive zl where
 | arr (n:Nat)
 | str
 | slice
 | map
inductive G where
 | bad
 | dp (x:aU)
 | pick (c a b:aU)
 | new (z:List V)
 | box (x:aU)
 | build (z:List V) (bc:List (Nat × Nat × aU))
 | iC (len size:Nat) (z:List V) (bc:List (Nat × Nat × aU))
 | fS (x:aU)
 | im (size:Nat) (x:aU)
 | st (size:Nat) (x y:aU)
 | q8 (x:aU)
 | bin (k:d') (x y:aU)
 | un (op:UnOp) (x:aU)
 | ho (k:qn) (x:aU)
 | fn (f:FuncId) (dY:List aU)
 | x_ (f:FuncId) (first:List aU)
 | zE (t:TypeId) (z:Option V) (ok:Bool) (x:aU)
 | pQ (t:TypeId) (x:aU)
 | vi (size:Nat) (z:List V) (l c:aU)
 | oM (x:aU) (bG az dF:Option aU)
 | e8 (size:Nat) (x:aU) (bG az dF:Option aU)
 | fw (off:Nat) (x:aU)
 | sb (off:Nat) (x:aU)
 | sc (off size:Nat) (x:aU)
 | c0 (size:Nat) (x i:aU)
 | qU (n size:Nat) (x i:aU)
 | jU (x i:aU)
 | h7 (t:TypeId) (x i:aU)
 | look (k:j9) (z:V) (ok:Bool) (x i:aU)
 | oQ (k:j9) (m i x:aU)
 | s3 (x:Option aU)
 | vB (x:aU)
 | vq (x:aU)
 | ext (x:aU) (i:Nat)
 | call (f:FuncId) (args:List aU)
 | kO (f:aU) (args:List aU)
 | len (k:zl) (x:aU)
 | app (size:Nat) (s x:aU)
 | copy (size:Nat) (d s:aU)
 | vj (args:List aU)
 | dF (args:List aU)
 | Ks (z:List V) (x:aU)
def iG (r:aT):List (Nat × Nat × aU)→List (Nat × Nat × V)
 | []=>[]
 | (o,s,x)::bc=>(o,s,x.aW r)::iG r bc
def hq:List V→List (Nat × Nat × V)→Option (List V)
 | cells,[]=>some cells
 | cells,(off,size,v)::rest=>bif v.eW&&(Nat.beq v.cells.length size&&Nat.ble (off+v.cells.length) cells.length) then hq (pn cells off v.cells) rest else none
noncomputable def zl.run:zl→V→af→aV
 | .arr n=>fun _ h=>.val (.int .i64 n) h
 | .str=>fun x h=>aV.of h ((mu .string).run x)
 | .slice=>fun x h=>aV.of h ((mu (.slice 0)).run x)
 | .map=>fun x h=>x5 [x] h
noncomputable def G.run (P:Program) (g:G) (call:dc) (r:aT) (h:af):aV:=
 match g with
 | .bad=>.fail
 | .dp x=>.val (x.aW r) h
 | .pick c a b=>match c.aW r with
   | .bool t=>.val (bif t then a.aW r else b.aW r) h
   | _=>.fail
 | .new z=>gj (.ptr (ay h.next) 0) (fg h z)
 | .box x=>bif (x.aW r).eW then gj (.ptr (ay h.next) 0) (fg h (x.aW r).cells) else .fail
 | .build z bc=>(match hq z (iG r bc) with
   | some cs=>.val (.agg cs) h
   | none=>.fail)
 | .iC n _ z bc=>match hq (hh z n) (iG r bc) with
   | some cs=>(match fg h cs with
     | some ab=>.val (.slice (ay h.next) 0 n n) ab
     | none=>.fail)
   | none=>.fail
 | .fS x=>aV.of h (lf h (x.aW r))
 | .im n x=>aV.of h (lb n h (x.aW r))
 | .st n x y=>gj .bad (tl n h (x.aW r) (y.aW r))
 | .q8 x=>aV.of h (q7 (x.aW r))
 | .bin k x y=>aV.of h (k.run P (x.aW r) (y.aW r))
 | .un op x=>aV.of h (oP op (x.aW r))
 | .ho k x=>k.run P (x.aW r) h
 | .fn f dY=>.val (.func f (aU.eV r dY)) h
 | .x_ f first=>.val (.kz f (aU.eV r first)) h
 | .zE t z ok x=>aV.of h (wC t z ok (x.aW r))
 | .pQ t x=>.val (.iface t (x.aW r)) h
 | .vi n z l c=>vg n z (l.aW r) (c.aW r) h
 | .oM x bG az m3=>aV.of h (kD (x.aW r) (aU.opt r bG) (aU.opt r az) (aU.opt r m3))
 | .e8 n x bG az m3=>aV.of h (match x.aW r with
   | .b4=>Ch (aU.opt r bG) (aU.opt r az) (aU.opt r m3)
   | .slice b off s0 cap=>rr n b off s0 cap (aU.opt r bG) (aU.opt r az) (aU.opt r m3)
   | .dV b off s0 idx=>vJ n b off s0 idx (aU.opt r bG) (aU.opt r az) (aU.opt r m3)
   | .fO b off lT idx=>Ci b off lT idx (aU.opt r bG) (aU.opt r az) (aU.opt r m3)
   | _=>none)
 | .fw off x=>aV.of h ((x.aW r).hQ none fun b o=>some (.ptr b (o+off)))
 | .sb off x=>aV.of h (match x.aW r with
   | .agg cs=>cs[off]?
   | _=>none)
 | .sc off n x=>aV.of h (match x.aW r with
   | .agg cs=>some (.agg ((cs.drop off).take n))
   | _=>none)
 | .c0 n x i=>aV.of h ((sS n).run (x.aW r) (i.aW r))
 | .qU n s x i=>aV.of h ((pS n s).run (x.aW r) (i.aW r))
 | .jU x i=>aV.of h (pU.run (x.aW r) (i.aW r))
 | .h7 t x i=>aV.of h ((pT P t).run (x.aW r) (i.aW r))
 | .look k z ok x i=>aV.of h (iq k.eq z ok h (x.aW r) (i.aW r))
 | .oQ k m i x=>gj .bad (mI k.eq h (m.aW r) (i.aW r) (x.aW r))
 | .s3 x=>q2 (aU.opt r x) h
 | .vB x=>(match x.aW r with
   | .str s=>.val (.ptr (ay h.next) 0) (h.new (.iter s 0))
   | _=>.fail)
 | .vq x=>s6 (x.aW r) h
 | .ext x i=>(match x.aW r with
   | .tuple ad=>aV.of h ad[i]?
   | _=>.fail)
 | .call f args=>call f (aU.eV r args) h
 | .kO f args=>(f.aW r).vr (aU.eV r args) fun g xs=>call g xs h
 | .len k x=>k.run (x.aW r) h
 | .app n s x=>lz n (s.aW r) (x.aW r) h
 | .copy n d s=>copyV n (d.aW r) (s.aW r) h
 | .vj args=>aV.of h (iQ (fun b a=>!Int.leB a b) (aU.eV r args))
 | .dF args=>aV.of h (iQ (fun b a=>!Int.leB b a) (aU.eV r args))
 | .Ks z x=>zY z (x.aW r) h
def HV (P:Program) (op:BinOp) (t:TypeId):d':=
 match op with
 | .shl=>.shl
 | .shr=>.shr
 | op=>match a7 P t with
   | none=>.other op t
   | some aM=>match aM.bb with
     | .int _=>.int op
     | .string=>.str op
     | .bool=>(match op with
       | .eql=>.uk false
       | .neq=>.uk true
       | _=>.other op t)
     | .pointer _=>(match op with
       | .eql=>.jc false 1
       | .neq=>.jc true 1
       | _=>.other op t)
     | .slice _=>(match op with
       | .eql=>.jc false 2
       | .neq=>.jc true 2
       | _=>.other op t)
     | .map _ _=>(match op with
       | .eql=>.jc false 3
       | .neq=>.jc true 3
       | _=>.other op t)
     | .func _ _ _=>(match op with
       | .eql=>.jc false 4
       | .neq=>.jc true 4
       | _=>.other op t)
     | _=>.other op t
def H0 (P:Program) (op:BinOp) (t:TypeId) (lit:Bool):d':=
 bif lit then (match a7 P t with
  | some aM=>match aM.bb with
    | .interface _=>match op with
      | .eql=>.jc false 5
      | .neq=>.jc true 5
      | _=>.jc false 99
    | _=>.jc false 99
  | none=>.jc false 99) else HV P op t
def HY (P:Program) (s d:TypeId):qn:=
 match a7 P s,a7 P d with
 | some rq,some l'=>match l'.bb with
   | .int k=>.int k
   | .string=>match rq.bb with
     | .slice e=>match a7 P e with
       | some bd=>match bd.bb with
         | .int .u8=>.str
         | _=>.other s d
       | none=>.other s d
     | _=>.other s d
   | .slice e=>match a7 P e with
     | some bd=>match bd.bb with
       | .int .u8=>.bytes
       | _=>.other s d
     | none=>.other s d
   | _=>.other s d
 | _,_=>.other s d
def nC (place:Nat→Option (Nat × Nat)):List (Nat × Operand)→Option (List (Nat × Nat × aU))
 | []=>some []
 | (i,x)::bc=>match place i with
   | none=>none
   | some (off,size)=>match nC place bc with
     | none=>none
     | some l=>some ((off,size,rx x)::l)
def PA (P:Program) (t:TypeId) (bc:List (Nat × Operand)):G:=
 match a7 P t with
 | some aM=>match aM.zero with
   | some z=>match aM.bb with
     | .struct bP=>bif Ap P bP.toList then (match nC (uq P bP) bc with
       | some l=>.build z.cells l
       | none=>.bad) else .bad
     | .array _ e=>match a7 P e with
       | some bd=>(match nC (fun i=>some (i * bd.size,bd.size)) bc with
         | some l=>.build z.cells l
         | none=>.bad)
       | none=>.bad
     | _=>.bad
   | none=>.bad
 | none=>.bad
def PD (P:Program) (t:TypeId) (len:Nat) (bc:List (Nat × Operand)):G:=
 match a7 P t with
 | some aM=>match aM.bb with
   | .slice e=>match a7 P e with
     | some bd=>match bd.zero with
       | some z=>bif Nat.ble (len * bd.size) 1000000&&Nat.beq z.cells.length bd.size then
          (match nC (fun i=>some (i * bd.size,bd.size)) bc with
          | some l=>.iC len bd.size z.cells l
          | none=>.bad) else .bad
       | none=>.bad
     | none=>.bad
   | _=>.bad
 | none=>.bad
def sY:TypeDesc→Option j9
 | .int _=>some .int
 | .string=>some .str
 | .bool=>some .bool
 | _=>none
def Ev (P:Program) (t:TypeId):Option (List V):=
 match a7 P t with
 | some aM=>match aM.bb with
   | .slice e=>match a7 P e with
     | some bd=>match bd.zero with
       | some z=>some z.cells
       | none=>none
     | none=>none
   | _=>none
 | none=>none
theorem VW (P:Program) (t:TypeId):wM P t=Ev P t:=rfl
def HX (P:Program) (c:Call):G:=
 match c.callee with
 | .value (.func f)=>bif Nat.beq f cR then .bad else .call f (lX c.args.toList)
 | .value x=>.kO (rx x) (lX c.args.toList)
 | .invoke _ _=>.bad
 | .builtin b=>match b with
   | .len=>match c.argTypes.toList,c.args.toList with
     | [t],[x]=>(match a7 P t with
       | some aM=>(match aM.bb with
         | .map _ _=>.len .map (rx x)
         | .array n _=>.len (.arr n) (rx x)
         | .string=>.len .str (rx x)
         | .slice _=>.len .slice (rx x)
         | _=>.bad)
       | none=>.bad)
     | _,_=>.bad
   | .append=>match c.argTypes.toList,c.args.toList with
     | [t,u],[s,x]=>(match a7 P t,a7 P u with
       | some aM,some qg=>(match qg.bb with
         | .int _=>.bad
         | _=>match aM.bb with
           | .slice e=>(match a7 P e with
             | none=>.bad
             | some bd=>match bd.zero with
               | none=>.bad
               | some z=>bif Nat.ble 1 bd.size&&Nat.ble bd.bytes 4096&&Nat.beq z.cells.length bd.size then .app bd.size (rx s) (rx x) else .bad)
           | _=>.bad)
       | _,_=>.bad)
     | _,_=>.bad
   | .copy=>match c.argTypes.toList,c.args.toList with
     | t::_,[d,s]=>(match a7 P t with
       | some aM=>(match aM.bb with
         | .slice e=>(match a7 P e with
           | some bd=>.copy bd.size (rx d) (rx s)
           | none=>.bad)
         | _=>.bad)
       | none=>.bad)
     | _,_=>.bad
   | .min=>.vj (lX c.args.toList)
   | .max=>.dF (lX c.args.toList)
   | .clear=>match c.argTypes.toList,c.args.toList with
     | [t],[x]=>(match Ev P t with
       | some z=>.Ks z (rx x)
       | none=>.bad)
     | _,_=>.bad
   | _=>.bad
def B8 (P:Program) (op:Op):G:=
 match op with
 | .move x=>.dp (rx x)
 | .assign x=>.dp (rx x)
 | .pick c a b=>.pick (rx c) (rx a) (rx b)
 | .alloc t=>(match a7 P t with
   | some aM=>(match aM.zero with
     | some z=>.new z.cells
     | none=>.bad)
   | none=>.bad)
 | .box _ x=>.box (rx x)
 | .build t bc=>PA P t bc.toList
 | .buildSlice t n bc=>PD P t n bc.toList
 | .load t x=>(match a7 P t with
   | none=>.bad
   | some aM=>bif aM.agg then .im aM.size (rx x) else bif Nat.beq aM.size 1 then .fS (rx x) else .bad)
 | .store t x y=>(match a7 P t with
   | none=>.bad
   | some aM=>.st aM.size (rx x) (rx y))
 | .nilCheck x=>.q8 (rx x)
 | .binOp op t x y _=>.bin (H0 P op t (oD x||oD y)) (rx x) (rx y)
 | .unOp op _ x=>.un op (rx x)
 | .convert s d x=>.ho (HY P s d) (rx x)
 | .makeFunc (.func f) first dY=>bif first.isEmpty&&!Nat.beq f cR then .fn f (lX dY.toList) else bif dY.isEmpty&&!Nat.beq f cR then .x_ f (lX first.toList) else .bad
 | .makeInterface t x=>(match a7 P t with
   | some aM=>bif Nat.beq (ef aM.bb) 5 then .bad else .pQ t (rx x)
   | none=>.bad)
 | .makeSlice t l c=>(match a7 P t with
   | some aM=>(match aM.bb with
     | .slice e=>(match a7 P e with
       | some bd=>(match bd.zero with
         | some z=>bif Nat.ble bd.bytes 4096 then .vi bd.size z.cells (rx l) (rx c) else .bad
         | none=>.bad)
       | none=>.bad)
     | _=>.bad)
   | none=>.bad)
 | .slice t x bG az dF=>(match a7 P t with
   | none=>.bad
   | some aM=>match aM.bb with
     | .string=>.oM (rx x) (p8 bG) (p8 az) (p8 dF)
     | .slice e=>(match a7 P e with
       | none=>.bad
       | some bd=>.e8 bd.size (rx x) (p8 bG) (p8 az) (p8 dF))
     | _=>.bad)
 | .fieldAddr t x i=>(match ob P t i with
   | none=>.bad
   | some f=>match a7 P f.type with
     | none=>.bad
     | some iH=>bif Nat.beq iH.size 0 then .bad else .fw f.offset (rx x))
 | .field t x i=>(match ob P t i with
   | none=>.bad
   | some f=>match a7 P f.type with
     | none=>.bad
     | some aM=>bif aM.agg then .sc f.offset aM.size (rx x) else .sb f.offset (rx x))
 | .indexAddr t x i=>(match a7 P t with
   | none=>.bad
   | some aM=>match aM.bb with
     | .slice e=>(match a7 P e with
       | none=>.bad
       | some bd=>.c0 bd.size (rx x) (rx i))
     | .array n e=>(match a7 P e with
       | none=>.bad
       | some bd=>.qU n bd.size (rx x) (rx i))
     | _=>.bad)
 | .index t x i=>(match a7 P t with
   | none=>.bad
   | some aM=>match aM.bb with
     | .string=>.jU (rx x) (rx i)
     | _=>.h7 t (rx x) (rx i))
 | .range t x=>(match a7 P t with
   | some aM=>(match aM.bb with
     | .string=>.vB (rx x)
     | _=>.bad)
   | none=>.bad)
 | .next it true=>.vq (rx it)
 | .lookup t x k ok=>(match a7 P t with
   | some aM=>(match aM.bb with
     | .map bl e=>(match a7 P bl with
       | some gg=>(match a7 P e with
         | some bd=>(match bd.zero with
           | some z=>(match sY gg.bb with
             | some cJ=>.look cJ z ok (rx x) (rx k)
             | none=>.bad)
           | none=>.bad)
         | none=>.bad)
       | none=>.bad)
     | _=>.bad)
   | none=>.bad)
 | .mapUpdate t m k x | .insert t m k x=>(match a7 P t with
   | some aM=>(match aM.bb with
     | .map bl _=>(match a7 P bl with
       | some gg=>(match sY gg.bb with
         | some cJ=>.oQ cJ (rx m) (rx k) (rx x)
         | none=>.bad)
       | none=>.bad)
     | _=>.bad)
   | none=>.bad)
 | .makeMap t x=>(match a7 P t with
   | some aM=>bif Nat.beq (ef aM.bb) 3 then .s3 (p8 x) else .bad
   | none=>.bad)
 | .extract x i=>.ext (rx x) i
 | .typeAssert x _ t ok=>(match a7 P t with
   | some aM=>bif Nat.beq (ef aM.bb) 5 then .bad else .zE t aM.zero ok (rx x)
   | none=>.bad)
 | .call c=>HX P c
 | _=>.bad
noncomputable def dC (cw:br):aT:=fun t=>T.get .bad (ay t) cw
theorem fb (cw:br) (x:Operand):(bE x).run cw=(rx x).aW (dC cw):=by
 cases x with
 | tmp t=>
   simp only [bE,rx]
   cases Nat.ble t top<;>rfl
 | const v=>rfl
 | func f=>
   simp only [bE,rx]
   cases Nat.beq f cR<;>rfl
 | global g=>rfl
theorem uo (cw:br):∀xs:List Operand,(n' xs).run cw=aU.eV (dC cw) (lX xs)
 | []=>rfl
 | x::xs=>by simp only [n',lX,aU.eV,fb,uo cw xs]
theorem Hw (cw:br) (x:Option Operand):(oG x).run cw=aU.opt (dC cw) (p8 x):=by
 cases x with
 | none=>rfl
 | some x=>simp only [oG,p8,aU.opt,fb]
theorem Aq (cw:br) {place:Nat→Option (Nat × Nat)}:∀{bc:List (Nat × Operand)} {l:List (Nat × Nat × aU)},nC place bc=some l→∀cells,kS place cells ((re bc).run cw)=hq cells (iG (dC cw) l)
 | [],l,h,cells=>by
   simp only [nC,Option.some.injEq] at h
   subst h
   rfl
 | (i,x)::bc,l,h,cells=>by
   simp only [nC] at h
   cases ah:place i with
   | none=>rw [ah] at h;cases h
   | some os=>
     obtain ⟨off,size⟩:=os
     rw [ah] at h
     simp only at h
     cases ai:nC place bc with
     | none=>rw [ai] at h;cases h
     | some ec=>
       rw [ai] at h
       simp only [Option.some.injEq] at h
       subst h
       simp only [re,kS,ah,iG,hq,fb]
       cases ((rx x).aW (dC cw)).eW&&(Nat.beq ((rx x).aW (dC cw)).cells.length size&&Nat.ble (off + ((rx x).aW (dC cw)).cells.length) cells.length) with
       | false=>rfl
       | true=>exact Aq cw ai _
section
variable {P:Program}
theorem afg (op:BinOp) (t:TypeId):(HV P op t).run P=(o' P op t).run:=by
 unfold HV o'
 cases op<;>first | rfl | skip
 all_goals
  cases aD:a7 P t with
  | none=>simp only [d'.run];unfold o';rw [aD]
  | some aM=>
    simp only
    cases hu:aM.bb<;>first | rfl | (simp only [d'.run];unfold o';rw [aD];simp only [hu];done) | (simp only [d'.run];unfold mS fZ;simp only [aD,hu];first | done | rfl)
theorem afj (op:BinOp) (t:TypeId) (lit:Bool):(H0 P op t lit).run P=(wD P op t lit).run:=by
 unfold H0 wD
 cases lit with
 | false=>simp only [cond_false];exact afg op t
 | true=>
   simp only [cond_true]
   cases a7 P t with
   | none=>rfl
   | some aM=>
     simp only
     cases aM.bb<;>first | rfl | (cases op<;>rfl)
theorem afi (s d:TypeId):(HY P s d).run P=(nX P s d).run:=by
 unfold HY
 split
 · rename_i rq l' aQ aX
   split
   · rename_i k hu
     simp only [qn.run];unfold nX;rw [aQ,aX];simp only [hu]
   · rename_i hu
     split
     · rename_i e bp
       split
       · rename_i bd he
         split
         · rename_i hw
           simp only [qn.run];unfold nX;rw [aQ,aX];simp only [hu,bp,he,hw]
         · rfl
       · rfl
     · rfl
   · rename_i e hu
     split
     · rename_i bd he
       split
       · rename_i hw
         simp only [qn.run];unfold nX;rw [aQ,aX];simp only [hu,he,hw]
       · rfl
     · rfl
   · rfl
 · rfl
theorem GQ {d:TypeDesc} {cJ:j9} (h:sY d=some cJ):lM d=true∧jm d=cJ.eq:=by
 cases d<;>simp only [sY] at h<;>first | (cases h;done) | (cases h;exact ⟨rfl,rfl⟩)
theorem afh {c:Call} {call:dc} {cw:br} {h ab:af} {v:V} (he:(HX P c).run P call (dC cw) h=.val v ab):(pc P c).run call cw h=.val v ab:=by
 unfold HX at he
 unfold pc
 split at he
 · rename_i f ao
   rw [ao]
   cases a6:Nat.beq f cR with
   | true=>rw [a6] at he;cases he
   | false=>
     rw [a6] at he
     simp only [cond_false,G.run] at he
     simpa only [bE,a6,cond_false,n2,V.vr,uo,List.append_nil] using he
 · rename_i x ak ao
   rw [ao]
   simp only [G.run] at he
   simpa only [fb,uo] using he
 · cases he
 · rename_i b ao
   rw [ao]
   simp only [uo]
   cases b<;>simp only at he<;>try (cases he;done)
   case len=>
    split at he
    · rename_i t x aD ak
      cases lL:a7 P t with
      | none=>rw [lL] at he;cases he
      | some aM=>
        rw [lL] at he
        simp only at he
        simp only [o_,aD,lL,ak,lX,aU.eV]
        cases hu:aM.bb<;>rw [hu] at he<;>first | (cases he;done) | (simpa only [qY,cond_true,cond_false,G.run,zl.run,mu,aV.of] using he)
    · cases he
   case append=>
    split at he
    · rename_i t u s x aD ak
      split at he
      · rename_i aM qg lL u3
        simp only [o_,aD,ak,lX,aU.eV,zB,lL,u3]
        split at he
        · cases he
        · rename_i cZ
          split at he
          · rename_i e cf
            cases eC:a7 P e with
            | none=>rw [eC] at he;cases he
            | some bd=>
              rw [eC] at he
              simp only at he
              cases bh:bd.zero with
              | none=>rw [bh] at he;cases he
              | some z=>
                rw [bh] at he
                simp only at he
                cases ag:(Nat.ble 1 bd.size&&Nat.ble bd.bytes 4096&&Nat.beq z.cells.length bd.size) with
                | false=>rw [ag] at he;cases he
                | true=>
                  rw [ag] at he
                  simp only [cond_true,G.run] at he
                  cases Gs:qg.bb<;>first
                   | (exact absurd Gs (cZ _))
                   | (simp only [cf,eC,bh,ag,cond_true];exact he)
          · cases he
      · cases he
    · cases he
   case copy=>
    split at he
    · rename_i t cl d s aD ak
      cases lL:a7 P t with
      | none=>rw [lL] at he;cases he
      | some aM=>
        rw [lL] at he
        simp only at he
        split at he
        · rename_i e cf
          cases eC:a7 P e with
          | none=>rw [eC] at he;cases he
          | some bd=>
            rw [eC] at he
            simp only [G.run] at he
            simp only [o_,aD,ak,lX,aU.eV,zZ,lL,cf,eC]
            exact he
        · cases he
    · cases he
   case min=>exact he
   case max=>exact he
   case clear=>
    split at he
    · rename_i t x aD ak
      cases ao:Ev P t with
      | none=>rw [ao] at he;cases he
      | some z=>
        rw [ao] at he
        simp only [G.run] at he
        simp only [o_,aD,ak,lX,aU.eV,VW,ao]
        exact he
    · cases he
theorem PB {o:Oper} {call:dc} {cw:br} {h ab:af} {v:V} (he:(B8 P o.op).run P call (dC cw) h=.val v ab):(et P o).run call cw h=.val v ab:=by
 obtain ⟨dst,op,type,pos,after,guard⟩:=o
 cases op<;>simp only [B8] at he<;>try (cases he;done)
 all_goals simp only [et]
 case move x=>simpa only [fb,G.run] using he
 case assign x=>simpa only [fb,G.run] using he
 case pick c a b=>
  simp only [fb,G.run] at he ⊢
  generalize (rx c).aW (dC cw)=q at he ⊢
  cases q<;>exact he
 case alloc t=>
  cases aD:a7 P t with
  | none=>rw [aD] at he;cases he
  | some aM=>
    rw [aD] at he
    simp only at he ⊢
    cases bh:aM.zero with
    | none=>rw [bh] at he;cases he
    | some z=>rw [bh] at he;exact he
 case box t x=>simpa only [fb,G.run] using he
 case build t bc=>
  unfold PA at he
  unfold zL
  cases aD:a7 P t with
  | none=>rw [aD] at he;cases he
  | some aM=>
    rw [aD] at he
    simp only at he ⊢
    cases bh:aM.zero with
    | none=>rw [bh] at he;cases he
    | some z=>
      rw [bh] at he
      simp only at he ⊢
      cases hu:aM.bb<;>rw [hu] at he<;>simp only at he ⊢<;>try (cases he;done)
      · rename_i n e
        cases eC:a7 P e with
        | none=>rw [eC] at he;cases he
        | some bd=>
          rw [eC] at he
          simp only at he ⊢
          cases ah:nC (fun i=>some (i * bd.size,bd.size)) bc.toList with
          | none=>rw [ah] at he;cases he
          | some l=>
            rw [ah] at he
            simp only [G.run] at he
            rw [Aq cw ah]
            cases ax:hq z.cells (iG (dC cw) l) with
            | none=>rw [ax] at he;cases he
            | some cs=>rw [ax] at he;exact he
      · rename_i bP
        cases aA:Ap P bP.toList with
        | false=>rw [aA] at he;cases he
        | true=>
          rw [aA] at he
          simp only [cond_true] at he ⊢
          cases ah:nC (uq P bP) bc.toList with
          | none=>rw [ah] at he;cases he
          | some l=>
            rw [ah] at he
            simp only [G.run] at he
            rw [Aq cw ah]
            cases ax:hq z.cells (iG (dC cw) l) with
            | none=>rw [ax] at he;cases he
            | some cs=>rw [ax] at he;exact he
 case buildSlice t n bc=>
  unfold PD at he
  unfold r2
  cases aD:a7 P t with
  | none=>rw [aD] at he;cases he
  | some aM=>
    rw [aD] at he
    simp only at he ⊢
    cases hu:aM.bb<;>rw [hu] at he<;>simp only at he ⊢<;>try (cases he;done)
    rename_i e
    cases eC:a7 P e with
    | none=>rw [eC] at he;cases he
    | some bd=>
      rw [eC] at he
      simp only at he ⊢
      cases bh:bd.zero with
      | none=>rw [bh] at he;cases he
      | some z=>
        rw [bh] at he
        simp only at he ⊢
        cases ag:(Nat.ble (n * bd.size) 1000000&&Nat.beq z.cells.length bd.size) with
        | false=>rw [ag] at he;cases he
        | true=>
          rw [ag] at he
          simp only [cond_true] at he ⊢
          cases ah:nC (fun i=>some (i * bd.size,bd.size)) bc.toList with
          | none=>rw [ah] at he;cases he
          | some l=>
            rw [ah] at he
            simp only [G.run] at he
            rw [Aq cw ah]
            exact he
 case load t x=>
  unfold nv
  cases aD:a7 P t with
  | none=>rw [aD] at he;cases he
  | some aM=>
    rw [aD] at he
    simp only at he ⊢
    cases bn:aM.agg with
    | true=>rw [bn] at he;simpa only [cond_true,fb,G.run] using he
    | false=>
      rw [bn] at he
      simp only [cond_false] at he ⊢
      cases aQ:Nat.beq aM.size 1 with
      | true=>rw [aQ] at he;simpa only [cond_true,fb,G.run] using he
      | false=>rw [aQ] at he;cases he
 case store t x y=>
  unfold p_
  cases aD:a7 P t with
  | none=>rw [aD] at he;cases he
  | some aM=>rw [aD] at he;simpa only [fb,G.run] using he
 case nilCheck x=>simpa only [fb,G.run] using he
 case binOp op t x y t2=>simpa only [fb,G.run,afj] using he
 case unOp op t x=>simpa only [fb,G.run] using he
 case convert s d x=>simpa only [fb,G.run,afi] using he
 case makeFunc fn first dY=>
  cases fn<;>simp only at he<;>try (cases he;done)
  simp only
  cases ax:(first.isEmpty&&!Nat.beq _ cR) with
  | true=>rw [ax] at he;simpa only [cond_true,uo,G.run] using he
  | false=>
    rw [ax] at he
    simp only [cond_false] at he ⊢
    cases hK:(dY.isEmpty&&!Nat.beq _ cR) with
    | true=>rw [hK] at he;simpa only [cond_true,uo,G.run] using he
    | false=>rw [hK] at he;cases he
 case typeAssert x rC t ok=>
  cases aD:a7 P t with
  | none=>rw [aD] at he;cases he
  | some aM=>
    rw [aD] at he
    simp only at he ⊢
    cases ag:Nat.beq (ef aM.bb) 5 with
    | true=>rw [ag] at he;cases he
    | false=>rw [ag] at he;simpa only [cond_false,fb,G.run] using he
 case makeInterface t x=>
  cases aD:a7 P t with
  | none=>rw [aD] at he;cases he
  | some aM=>
    rw [aD] at he
    simp only at he ⊢
    cases ag:Nat.beq (ef aM.bb) 5 with
    | true=>rw [ag] at he;cases he
    | false=>rw [ag] at he;simpa only [cond_false,fb,G.run] using he
 case makeSlice t l c=>
  unfold Bl
  cases aD:a7 P t with
  | none=>rw [aD] at he;cases he
  | some aM=>
    rw [aD] at he
    simp only at he ⊢
    cases hu:aM.bb<;>rw [hu] at he<;>simp only at he ⊢<;>try (cases he;done)
    rename_i e
    cases eC:a7 P e with
    | none=>rw [eC] at he;cases he
    | some bd=>
      rw [eC] at he
      simp only at he ⊢
      cases bh:bd.zero with
      | none=>rw [bh] at he;cases he
      | some z=>
        rw [bh] at he
        simp only at he ⊢
        cases ag:Nat.ble bd.bytes 4096 with
        | false=>rw [ag] at he;cases he
        | true=>rw [ag] at he;simpa only [cond_true,fb,G.run] using he
 case slice t x bG az m3=>
  unfold Cg
  cases aD:a7 P t with
  | none=>rw [aD] at he;cases he
  | some aM=>
    rw [aD] at he
    simp only at he ⊢
    cases hu:aM.bb<;>rw [hu] at he<;>simp only at he ⊢<;>try (cases he;done)
    · simpa only [fb,Hw,G.run] using he
    · rename_i e
      cases eC:a7 P e with
      | none=>rw [eC] at he;cases he
      | some bd=>
        rw [eC] at he
        simp only [fb,Hw,G.run] at he ⊢
        generalize (rx x).aW (dC cw)=q at he ⊢
        cases q<;>exact he
 case fieldAddr t x i=>
  unfold Am
  cases ax:ob P t i with
  | none=>rw [ax] at he;cases he
  | some f=>
    rw [ax] at he
    simp only at he ⊢
    cases aD:a7 P f.type with
    | none=>rw [aD] at he;cases he
    | some iH=>
      rw [aD] at he
      simp only at he ⊢
      cases ag:Nat.beq iH.size 0 with
      | true=>rw [ag] at he;cases he
      | false=>rw [ag] at he;simpa only [cond_false,fb,G.run] using he
 case field t x i=>
  unfold An
  cases ax:ob P t i with
  | none=>rw [ax] at he;cases he
  | some f=>
    rw [ax] at he
    simp only [nB] at he ⊢
    cases aD:a7 P f.type with
    | none=>rw [aD] at he;cases he
    | some iH=>
      rw [aD] at he
      simp only at he ⊢
      cases ag:iH.agg with
      | true=>
        rw [ag] at he
        simp only [cond_true,fb,G.run] at he ⊢
        generalize (rx x).aW (dC cw)=q at he ⊢
        cases q<;>exact he
      | false=>
        rw [ag] at he
        simp only [cond_false,fb,G.run] at he ⊢
        generalize (rx x).aW (dC cw)=q at he ⊢
        cases q<;>exact he
 case indexAddr t x i=>
  unfold A8
  cases aD:a7 P t with
  | none=>rw [aD] at he;cases he
  | some aM=>
    rw [aD] at he
    simp only at he ⊢
    cases hu:aM.bb<;>rw [hu] at he<;>simp only at he ⊢<;>try (cases he;done)
    all_goals
     rename_i e
     cases eC:a7 P e with
     | none=>rw [eC] at he;cases he
     | some bd=>rw [eC] at he;simpa only [fb,G.run] using he
 case index t x i=>
  cases aD:a7 P t with
  | none=>rw [aD] at he;cases he
  | some aM=>
    rw [aD] at he
    simp only at he
    cases hu:aM.bb<;>rw [hu] at he<;>simp only [G.run] at he
    case string=>
     unfold pT
     rw [aD]
     simp only [hu]
     simpa only [fb] using he
    all_goals simpa only [fb] using he
 case range t x=>
  unfold B4
  cases aD:a7 P t with
  | none=>rw [aD] at he;cases he
  | some aM=>
    rw [aD] at he
    simp only at he ⊢
    cases hu:aM.bb<;>rw [hu] at he<;>simp only at he ⊢<;>try (cases he;done)
    simp only [fb,G.run] at he ⊢
    generalize (rx x).aW (dC cw)=q at he ⊢
    cases q<;>exact he
 case next it b=>
  cases b<;>simp only at he<;>try (cases he;done)
  simpa only [cond_true,fb,G.run] using he
 case lookup t x k ok=>
  unfold Bk
  cases aD:a7 P t with
  | none=>rw [aD] at he;cases he
  | some aM=>
    rw [aD] at he
    simp only at he ⊢
    cases hu:aM.bb<;>rw [hu] at he<;>simp only at he ⊢<;>try (cases he;done)
    rename_i bl e
    cases aA:a7 P bl with
    | none=>rw [aA] at he;cases he
    | some gg=>
      rw [aA] at he
      simp only at he ⊢
      cases eC:a7 P e with
      | none=>rw [eC] at he;cases he
      | some bd=>
        rw [eC] at he
        simp only at he ⊢
        cases bh:bd.zero with
        | none=>rw [bh] at he;cases he
        | some z=>
          rw [bh] at he
          simp only at he ⊢
          cases h3:sY gg.bb with
          | none=>rw [h3] at he;cases he
          | some cJ=>
            rw [h3] at he
            obtain ⟨aq,av⟩:=GQ h3
            simp only [aq,av,cond_true]
            simpa only [fb,G.run] using he
 case mapUpdate t m k x=>
  unfold mH
  cases aD:a7 P t with
  | none=>rw [aD] at he;cases he
  | some aM=>
    rw [aD] at he
    simp only at he ⊢
    cases hu:aM.bb<;>rw [hu] at he<;>simp only at he ⊢<;>try (cases he;done)
    rename_i bl e
    cases aA:a7 P bl with
    | none=>rw [aA] at he;cases he
    | some gg=>
      rw [aA] at he
      simp only at he ⊢
      cases h3:sY gg.bb with
      | none=>rw [h3] at he;cases he
      | some cJ=>
        rw [h3] at he
        obtain ⟨aq,av⟩:=GQ h3
        simp only [aq,av,cond_true]
        simpa only [fb,G.run] using he
 case insert t m k x=>
  unfold mH
  cases aD:a7 P t with
  | none=>rw [aD] at he;cases he
  | some aM=>
    rw [aD] at he
    simp only at he ⊢
    cases hu:aM.bb<;>rw [hu] at he<;>simp only at he ⊢<;>try (cases he;done)
    rename_i bl e
    cases aA:a7 P bl with
    | none=>rw [aA] at he;cases he
    | some gg=>
      rw [aA] at he
      simp only at he ⊢
      cases h3:sY gg.bb with
      | none=>rw [h3] at he;cases he
      | some cJ=>
        rw [h3] at he
        obtain ⟨aq,av⟩:=GQ h3
        simp only [aq,av,cond_true]
        simpa only [fb,G.run] using he
 case makeMap t x=>
  unfold vf
  cases aD:a7 P t with
  | none=>rw [aD] at he;cases he
  | some aM=>
    rw [aD] at he
    simp only at he ⊢
    cases ag:Nat.beq (ef aM.bb) 3 with
    | false=>rw [ag] at he;cases he
    | true=>rw [ag] at he;simpa only [cond_true,Hw,G.run] using he
 case extract x i=>
  simp only [fb,G.run] at he ⊢
  generalize (rx x).aW (dC cw)=q at he ⊢
  cases q<;>exact he
 case call c=>exact afh he
end
end Go.Proofs.YtkehcalakofigaaGreatDoor.aS
namespace Go.Proofs.YtkehcalakofigaaGreatDoor.aS
variable [Lay]
open Go Go.RowKit
def eS (P:Program) (f:FuncId) (args:List V) (h:af) (v:V) (ab:af):Prop:=
 f≠cR∧(((∃fn,P.funcs[f]? =some fn∧fn.body.isSome=true)∧∀(au:Fr) E w xs,a8 E args xs→a1 au E h w→
  Calls P f xs.toArray w fun e aj=>∃ar x,e=.returned x∧E.le ar∧Rel ar v x∧a1 au ar ab aj)∨
 ∀(au:Fr) E w xs,a8 E args xs→a1 au E h w→∃ar x aj,(callFunc f xs.toArray).run P w=.ok (.value x) aj∧E.le ar∧Rel ar v x∧a1 au ar ab aj)
def Jx (P:Program) (args:List V) (b:aO) (h:af) (v:V) (ab:af):Prop:=
 ∀(au:Fr) E w xs p,a8 E args xs→a1 au E h w→E b=some p→
  ∃f tmps assign body,(Instr.yield p.a_ xs.toArray).run P w=.ok (.round p.a_ f tmps assign body) w∧
   RoundIn (bU none) 0 P p.a_ f tmps assign body w fun e aj=>∃ar x,e=.returned x∧E.le ar∧Rel ar v x∧a1 au ar ab aj
theorem eS.calls {P:Program} (bx:dU P) {f:FuncId} {args:List V} {h ab:af} {v:V} (H:eS P f args h v ab) (ag:∃fn,P.funcs[f]? =some fn∧fn.body.isSome=true) (au:Fr) (E:Env) (w:World) (xs:List Value) (ak:a8 E args xs) (s:a1 au E h w):
 Calls P f xs.toArray w fun e aj=>∃ar x,e=.returned x∧E.le ar∧Rel ar v x∧a1 au ar ab aj:=by
 rcases H.2 with ⟨_,H⟩ | H
 · exact H au E w xs ak s
 · obtain ⟨ar,x,aj,aH,_⟩:=H au E w xs ak s
   obtain ⟨fn,aa,ae⟩:=ag
   rw [rp bx aa ae] at aH
   cases aH
def bM (P:Program) (f:FuncId) (args:List V) (h:af) (K:V→af→Prop):Prop:=∃v ab,eS P f args h v ab∧K v ab
def wx (P:Program) (args:List V) (b:aO) (h:af) (K:V→af→Prop):Prop:=∃v ab,Jx P args b h v ab∧K v ab
def Jy (P:Program) (xs:List V) (h:af) (K:V→af→Prop):Prop:=∃b' b,xs=b'++[.ptr b 0]∧wx P b' b h K
def IQ (P:Program) (g:FuncId) (xs:List V) (h:af) (K:V→af→Prop):Prop:=if g=cR then Jy P xs h K else bM P g xs h K
def V.target (v:V) (args:List V):Option (FuncId × List V):=
 match v with
 | .func g cs=>some (g,args++cs)
 | .kz g cs=>some (g,cs++args)
 | _=>none
theorem Ou {v:V} {args xs:List V} {g:FuncId} (h:v.target args=some (g,xs)) (F:FuncId→List V→aV):v.vr args F=F g xs:=by
 cases v<;>simp only [V.target] at h<;>try (cases h;done)
 all_goals (simp only [Option.some.injEq,Prod.mk.injEq] at h;obtain ⟨rfl,rfl⟩:=h;rfl)
theorem bM.mono {P:Program} {f:FuncId} {args:List V} {h:af} {K lr:V→af→Prop} (c:bM P f args h K) (aA:∀v ab,K v ab→lr v ab):bM P f args h lr:=by
 obtain ⟨v,ab,aq,av⟩:=c
 exact ⟨v,ab,aq,aA v ab av⟩
def js:dc:=fun _ _ _=>.fail
theorem Br (P:Program):fv P js∧fF P js:=
 ⟨⟨fun _ f args h v ab _ he=>by simp [js] at he,fun _ f args h v ab _ he=>by simp [js] at he,fun _ args b h v ab he=>by simp [js] at he,fun args h v ab he=>by simp [js] at he⟩,fun f args h v ab he=>by simp [js] at he⟩
open Classical in
noncomputable def lk (f:FuncId) (args:List V) (h:af) (v:V) (ab:af):dc:=
 fun f1 bH aa=>if f1=f∧bH=args∧aa=h then .val v ab else .fail
theorem OB {P:Program} {f:FuncId} {args:List V} {h ab:af} {v:V} (H:eS P f args h v ab):fv P (lk f args h v ab)∧fF P (lk f args h v ab):=by
 refine ⟨⟨fun au f1 bH aa v1 hJ _ he=>?_,fun au f1 bH aa v1 hJ _ he=>?_,fun au bH b aa v1 hJ he=>?_,fun bH aa v1 hJ he=>?_⟩,fun f1 bH aa v1 hJ he=>?_⟩
 · unfold lk at he
   split at he
   · rename_i ao
     obtain ⟨rfl,rfl,rfl⟩:=ao
     simp only [aV.val.injEq] at he
     obtain ⟨rfl,rfl⟩:=he
     intro E w xs ak s
     rcases H.2 with H | H
     · exact .inl ⟨H.1,H.2 au E w xs ak s⟩
     · exact .inr (H au E w xs ak s)
   · cases he
 · unfold lk at he
   split at he<;>cases he
 · unfold lk at he
   split at he
   · rename_i ao
     exact absurd ao.1.symm H.1
   · cases he
 · unfold lk at he
   split at he<;>cases he
 · trivial
theorem af1 {xs b':List V} {x y:V} (h:xs++[x]=b'++[y]):xs=b'∧x=y:=by
 have:=List.append_inj' h rfl
 exact ⟨this.1,by simpa using this.2⟩
theorem aew {P:Program} {args:List V} {b:aO} {h ab:af} {v:V} (H:Jx P args b h v ab):fv P (lk cR (args++[.ptr b 0]) h v ab)∧fF P (lk cR (args++[.ptr b 0]) h v ab):=by
 refine ⟨⟨fun au f1 bH aa v1 hJ cZ he=>?_,fun au f1 bH aa v1 hJ _ he=>?_,fun au bH b7 aa v1 hJ he=>?_,fun bH aa v1 hJ he=>?_⟩,fun f1 bH aa v1 hJ he=>?_⟩
 · unfold lk at he
   split at he
   · rename_i ao
     exact absurd ao.1 cZ
   · cases he
 · unfold lk at he
   split at he<;>cases he
 · unfold lk at he
   split at he
   · rename_i ao
     obtain ⟨_,ao,rfl⟩:=ao
     obtain ⟨rfl,ag⟩:=af1 ao
     simp only [V.ptr.injEq,and_true] at ag
     subst ag
     simp only [aV.val.injEq] at he
     obtain ⟨rfl,rfl⟩:=he
     exact fun E w xs p ak s ah=>H au E w xs p ak s ah
   · cases he
 · unfold lk at he
   split at he<;>cases he
 · trivial
theorem Hx {f:FuncId} {args:List V} {h ab:af} {v:V}:lk f args h v ab f args h=.val v ab:=by
 unfold lk
 rw [if_pos ⟨rfl,rfl,rfl⟩]
def aT.set (r:aT) (d:Option Nat) (v:V):aT:=
 match d with
 | none=>r
 | some d=>fun t=>if t=d then v else r t
def aT.trim (r:aT):List Nat→aT
 | [],_=>.bad
 | u::us,t=>if t=u then r t else aT.trim r us t
def aT.bq:List V→aT
 | [],_=>.bad
 | v::ad,t=>if t=0 then v else aT.bq ad (t-1)
noncomputable def yM (r:aT):List Nat→br
 | []=>.e
 | t::cl=>T.put .bad (r t) (ay t) (yM r cl)
theorem Qn (r:aT):∀cl:List Nat,dC (yM r cl)=aT.trim r cl
 | []=>by funext t;simp [dC,yM,aT.trim]
 | u::cl=>by
   funext t
   have bf:=congrFun (Qn r cl) t
   simp only [dC] at bf
   simp only [dC,yM,aT.trim,T.gF]
   by_cases h:t=u
   · subst h;simp
   · rw [if_neg (fun e=>h (fB e).symm),if_neg h]
     exact bf
theorem Ct (cw:br):∀cl:List Nat,dC (c8 cw cl)=aT.trim (dC cw) cl
 | []=>by funext t;simp [dC,c8,aT.trim]
 | u::cl=>by
   funext t
   have bf:=congrFun (Ct cw cl) t
   simp only [dC] at bf
   simp only [dC,c8,aT.trim,T.gF]
   by_cases h:t=u
   · subst h;simp
   · rw [if_neg (fun e=>h (fB e).symm),if_neg h]
     exact bf
theorem Iw {r:aT}:∀{cl:List Nat} {t:Nat},t ∈ cl→aT.trim r cl t=r t
 | [],t,h=>by simp at h
 | u::cl,t,h=>by
   simp only [aT.trim]
   by_cases hu:t=u
   · rw [if_pos hu]
   · rw [if_neg hu]
     simp only [List.mem_cons] at h
     exact Iw (h.resolve_left hu)
theorem Qp {r:aT}:∀{cl:List Nat} {t:Nat},t ∉ cl→aT.trim r cl t=.bad
 | [],t,_=>rfl
 | u::cl,t,h=>by
   simp only [List.mem_cons,not_or] at h
   simp only [aT.trim]
   rw [if_neg h.1]
   exact Qp h.2
theorem BV (d:Option Nat) (cw:br) (v:V):dC ((eJ d).run cw v)=(dC cw).set d v:=by
 cases d with
 | none=>rfl
 | some d=>
   funext t
   simp only [dC,eJ,aT.set,T.gF]
   by_cases h:t=d
   · subst h;simp
   · rw [if_neg (fun e=>h (fB e).symm),if_neg h]
abbrev dX:Nat:=17179869185
def Out (an:Nat) (r:aT):Prop:=∀t,an≤t→t≠dX→r t=.bad
theorem Ak {an:Nat} {r:aT} (aR:Out an r):∃cw,dC cw=r:=by
 refine ⟨yM r (dX::List.range an),?_⟩
 rw [Qn]
 funext t
 by_cases h:t<an
 · exact Iw (List.mem_cons_of_mem _ (List.mem_range.2 h))
 · by_cases ae:t=dX
   · exact Iw (by rw [ae];exact List.mem_cons_self)
   · rw [Qp (by simp only [List.mem_cons,List.mem_range,not_or];exact ⟨ae,h⟩),aR t (by omega) ae]
theorem Out.set {an:Nat} {r:aT} (aR:Out an r) {d:Option Nat} (aX:ew an d=true) (v:V):Out an (r.set d v):=by
 intro t aD aQ
 cases d with
 | none=>exact aR t aD aQ
 | some d=>
   simp only [ew,Bool.and_eq_true,Nat.blt_eq] at aX
   simp only [aT.set]
   rw [if_neg (by omega)]
   exact aR t aD aQ
theorem Ib {an:Nat} {r:aT} {d:Option Nat} (aX:ew an d=true) (v:V):r.set d v dX=r dX:=by
 cases d with
 | none=>rfl
 | some d=>
   simp only [ew,Bool.and_eq_true,Nat.blt_eq,Nat.ble_eq] at aX
   simp only [aT.set]
   rw [if_neg (by have:=aX.2;unfold top at this;unfold dX;omega)]
structure iA (E:Env) (an:Nat) (r:aT) (a:Act):Prop where
 size:a.tmps.size=an
 defers:jy E (r dX) a.defers
 aE:∀t,t≠dX→Rel E (r t) (a.tmps.getD t undef)
theorem vl {t:Nat} (h:t≤top):t≠dX:=by unfold top at h;unfold dX;omega
theorem iA.mono {E ar:Env} (h:E.le ar) {an:Nat} {r:aT} {a:Act} (k:iA E an r a):iA ar an r a:=
 ⟨k.size,k.defers.mono h,fun t aD=>Rel.mono h _ _ (k.aE t aD)⟩
theorem iA.put {E ar:Env} (h:E.le ar) {an:Nat} {r:aT} {a:Act} (k:iA E an r a) {d:Option Nat} (aX:ew an d=true) {v:V} {x:Value} (ak:Rel ar v x):iA ar an (r.set d v) (a.put d x):=by
 cases d with
 | none=>exact k.mono h
 | some d=>
   have aQ:=Ib (r:=r) aX v
   simp only [ew,Bool.and_eq_true,Nat.blt_eq] at aX
   refine ⟨by simp [Act.put,k.size],by rw [aQ];exact k.defers.mono h,fun t eE=>?_⟩
   simp only [aT.set,Act.put]
   rw [Array.getD_eq_getD_getElem?,Array.getElem?_setIfInBounds]
   by_cases aD:t=d
   · subst aD
     rw [if_pos rfl,if_pos rfl,if_pos (by rw [k.size];exact aX.1)]
     exact ak
   · rw [if_neg aD,if_neg (fun e=>aD e.symm),←Array.getD_eq_getD_getElem?]
     exact Rel.mono h _ _ (k.aE t eE)
noncomputable def G.wp (P:Program) (g:G) (r:aT) (h:af) (K:V→af→Prop):Prop:=
 match g with
 | .call f args=>bM P f (aU.eV r args) h K
 | .kO f args=>∃g xs,(f.aW r).target (aU.eV r args)=some (g,xs)∧IQ P g xs h K
 | g=>∃v ab,g.run P js r h=.val v ab∧K v ab
theorem G.vO {P:Program} {g:G} {r:aT} {h:af} {K:V→af→Prop} (H:g.wp P r h K):∃call v ab,(fv P call∧fF P call)∧g.run P call r h=.val v ab∧K v ab:=by
 cases g
 case call f args=>
  obtain ⟨v,ab,aq,av⟩:=H
  exact ⟨_,v,ab,OB aq,Hx,av⟩
 case kO f args=>
  obtain ⟨g,xs,ax,H⟩:=H
  unfold IQ at H
  split at H
  rotate_left
  · obtain ⟨v,ab,aq,av⟩:=H
    refine ⟨_,v,ab,OB aq,?_,av⟩
    simp only [G.run]
    rw [Ou ax]
    exact Hx
  · rename_i aG
    subst aG
    obtain ⟨b',b,rfl,v,ab,aq,av⟩:=H
    refine ⟨_,v,ab,aew aq,?_,av⟩
    simp only [G.run]
    rw [Ou ax]
    exact Hx
 all_goals
  obtain ⟨v,ab,aq,av⟩:=H
  exact ⟨js,v,ab,Br P,aq,av⟩
structure bA where
 dst:Option Nat
 g:G
 qF:Option (Nat × Bool)
 rs:List Nat
def bA.bad:bA:=⟨none,.bad,none,[]⟩
def gate (v:V) (want:Bool) (A B:Prop):Prop:=
 match v with
 | .bool b=>(b=want→A)∧(b=!want→B)
 | .tuple _=>B
 | _=>False
noncomputable def bA.wp (P:Program) (o:bA) (r:aT) (h:af) (K:aT→V→af→Prop):Prop:=
 match o.qF with
 | none=>o.g.wp P (r.trim o.rs) h fun v ab=>K (r.set o.dst v) v ab
 | some (d,want)=>gate (r.trim o.rs d) want (o.g.wp P (r.trim o.rs) h fun v ab=>K (r.set o.dst v) v ab) (K (r.set o.dst (.tuple [])) (.tuple []) h)
def B9 (P:Program) (an:Nat) (all:Array Oper) (o:Oper):bA:=
 bif ew an o.dst&&iV (bS all o) then
  match o.guard with
  | none=>⟨o.dst,B8 P o.op,none,bS all o⟩
  | some (j,want)=>match all[j]? with
    | some g=>match g.dst with
      | some d=>bif Nat.blt d an&&Nat.ble d top then ⟨o.dst,B8 P o.op,some (d,want),bS all o⟩ else bA.bad
      | none=>bA.bad
    | none=>bA.bad
 else bA.bad
def p5 (P:Program) (an:Nat) (all:Array Oper):List Oper→List bA
 | []=>[]
 | o::os=>B9 P an all o::p5 P an all os
theorem PC (P:Program) (an:Nat) (all:Array Oper):∀l:List Oper,p5 P an all l=l.map (B9 P an all)
 | []=>rfl
 | o::os=>by simp [p5,PC P an all os]
theorem bA.zG {P:Program} {r:aT} {h:af} {K:aT→V→af→Prop}:¬bA.bad.wp P r h K:=by
 rintro ⟨v,ab,q,_⟩
 cases q
theorem bA.vO {P:Program} {an:Nat} {all:Array Oper} {o:Oper} {r:aT} {h:af} {K:aT→V→af→Prop} (H:(B9 P an all o).wp P r h K):
 ∃call v ab,(fv P call∧fF P call)∧ew an o.dst=true∧K (r.set o.dst v) v ab∧∀cw,dC cw=r→(cg P an all o).run call cw h=.val v ab:=by
 unfold B9 at H
 cases ao:(ew an o.dst&&iV (bS all o)) with
 | false=>rw [ao] at H;exact absurd H bA.zG
 | true=>
   have aX:ew an o.dst=true:=by simp only [Bool.and_eq_true] at ao;exact ao.1
   rw [ao] at H
   simp only [cond_true] at H
   cases aG:o.guard with
   | none=>
     rw [aG] at H
     obtain ⟨call,v,ab,aq,av,aK⟩:=G.vO H
     refine ⟨call,v,ab,aq,aX,aK,fun cw dI=>?_⟩
     unfold cg
     rw [ao]
     simp only [cond_true,aG,hp]
     refine PB ?_
     rw [Ct,dI]
     exact av
   | some np=>
     obtain ⟨j,want⟩:=np
     rw [aG] at H
     simp only at H
     cases bI:all[j]? with
     | none=>rw [bI] at H;exact absurd H bA.zG
     | some g=>
       rw [bI] at H
       simp only at H
       cases iI:g.dst with
       | none=>rw [iI] at H;exact absurd H bA.zG
       | some d=>
         rw [iI] at H
         simp only at H
         cases ag:(Nat.blt d an&&Nat.ble d top) with
         | false=>rw [ag] at H;exact absurd H bA.zG
         | true=>
           rw [ag] at H
           simp only [cond_true,bA.wp] at H
           have key:cg P an all o=⟨hp (some (mb (ay d),want)) (et P o) (bS all o)⟩:=by
            unfold cg
            rw [ao]
            simp only [cond_true,aG,bI,iI,ag]
           have FB:∀cw,dC cw=r→(mb (ay d)).run (c8 cw (bS all o))=r.trim (bS all o) d:=by
            intro cw dI
            rw [←dI,←Ct]
            rfl
           cases bp:r.trim (bS all o) d<;>rw [bp] at H<;>simp only [gate] at H
           case bool b=>
            by_cases L5:b=want
            · obtain ⟨call,v,ab,aq,av,aK⟩:=G.vO (H.1 L5)
              refine ⟨call,v,ab,aq,aX,aK,fun cw dI=>?_⟩
              rw [key]
              simp only [hp,FB cw dI,bp]
              rw [show (bif want then b else !b)=true from by subst L5;cases b<;>rfl]
              simp only [cond_true]
              refine PB ?_
              rw [Ct,dI]
              exact av
            · have L3:b=!want:=by cases b<;>cases want<;>simp_all
              refine ⟨js,.tuple [],h,Br P,aX,H.2 L3,fun cw dI=>?_⟩
              rw [key]
              simp only [hp,FB cw dI,bp]
              rw [show (bif want then b else !b)=false from by subst L3;cases want<;>rfl]
              rfl
           case tuple ad=>
            refine ⟨js,.tuple [],h,Br P,aX,H,fun cw dI=>?_⟩
            rw [key]
            simp only [hp,FB cw dI,bp]
noncomputable def qj (P:Program):List bA→aT→af→(aT→af→Prop)→Prop
 | [],r,h,K=>K r h
 | o::os,r,h,K=>o.wp P r h fun bo _ ab=>qj P os bo ab K
structure e' where
 r:aT
 h:af
 v:V
noncomputable def jx (P:Program):List bA→aT→af→(List e'→aT→af→Prop)→Prop
 | [],r,h,K=>K [] r h
 | o::os,r,h,K=>o.wp P r h fun bo v ab=>jx P os bo ab fun es cC ax=>K (⟨r,h,v⟩::es) cC ax
def uI (es:List e') (ax:af) (i:Nat):af:=
 match es[i]? with
 | some e=>e.h
 | none=>ax
noncomputable def o7 (P:Program) (o:Option bA) (e:Option e') (es:List e') (ax:af):List Nat→Prop
 | []=>True
 | s::ez=>(match o,e with
   | some o,some e=>o.wp P e.r (uI es ax s) fun _ eh _=>eh=e.v
   | _,_=>False)∧o7 P o e es ax ez
noncomputable def mO (P:Program) (ops:List bA) (es:List e') (ax:af):List (Nat × List Nat)→Prop
 | []=>True
 | (p,ez)::rest=>o7 P ops[p]? es[p]? es ax ez∧mO P ops es ax rest
inductive bF where
 | bad
 | skip
 | aE (ops:List bA)
 | draw (ops:List bA) (asks:List (Nat × List Nat))
 | seq (a b:bF)
 | cond (c:aU) (a b:bF)
 | block (id:Nat) (b:bF)
 | loop (b:bF)
 | exit (id:Nat)
 | ret
 | range (f:aU) (bc:List Nat) (an:Nat) (a b:bF)
def tV (P:Program) (ops:List Oper) (dn aB dN:List Nat):Nat→List Oper→List (Nat × List Nat)
 | _,[]=>[]
 | i,o::os=>bif looks o.op&&!eb P o.op then
    (posOf aB i,dN.filter (pY P dn ops aB i ((dn[i]?).getD 0)))::tV P ops dn aB dN (i+1) os
   else tV P ops dn aB dN (i+1) os
def HZ (P:Program) (an:Nat) (ops:Array Oper) (order aB:List Nat):bF:=
 bif j0 ops.size order aB&&uc P ops aB then
  .draw (p5 P an ops (fU ops order)) (bif o4 P ops.toList then tV P ops.toList (dW [] ops.toList) aB (gh P aB 0 ops.toList) 0 ops.toList else [])
 else .bad
def cu (P:Program) (an:Nat):Code→bF
 | .skip=>.skip
 | .label _=>.skip
 | .region _ ops draw=>bif draw then HZ P an ops (yn P ops) (BQ (yn P ops) 0 ops.toList) else .aE (p5 P an ops ops.toList)
 | .seq a b=>.seq (cu P an a) (cu P an b)
 | .cond c a b=>.cond (rx c) (cu P an a) (cu P an b)
 | .block id b=>.block id (cu P an b)
 | .loop b=>.loop (cu P an b)
 | .exit id=>.exit id
 | .ret=>.ret
 | .scope b=>cu P an b
 | .rangeFunc f bc a b=>bif mB an bc.toList&&(noMark a&&noMark b) then .range (rx f) bc.toList an (cu P an a) (cu P an b) else .bad
 | _=>.bad
structure wk (P:Program) (l:lu) (an:Nat) (r:aT) (bc:List Nat) (yA B5:bF):Prop where
 aZ:l.an=an
 aH:dC l.r=r
 ah:l.bc=bc
 bn:cu P an l.assign=yA
 ag:cu P an l.body=B5
 kU:mB an bc=true
 ais:noMark l.assign=true
 ait:noMark l.body=true
 out:Out an r
def lu.go (l:lu) (st:Nat) (dK:Option c6):lu:=⟨st,dK,l.d,l.an,l.r,l.bc,l.assign,l.body⟩
def aT.rb:List Nat→List V→aT→aT
 | p::bc,v::ad,r=>aT.rb bc ad (r.set (some p) v)
 | _,_,r=>r
def mD (bc:List Nat) (ad:List V) (r:aT):aT:=(aT.rb bc ad r).set (some dX) .bad
def c6.andThen:c6→Prop→Prop→Prop
 | .normal,A,_=>A
 | _,_,B=>B
def c6.leave (id:Nat):c6→c6
 | .exit i=>if i=id then .normal else .exit i
 | e=>e
noncomputable def cr (P:Program):bF→aT→af→(c6→aT→af→Prop)→Prop
 | .bad,_,_,_=>False
 | .skip,r,h,Q=>Q .normal r h
 | .aE ops,r,h,Q=>qj P ops r h (Q .normal)
 | .draw ops asks,r,h,Q=>jx P ops r h fun es cC ax=>mO P ops es ax asks∧Q .normal cC ax
 | .seq a b,r,h,Q=>cr P a r h fun e bo ab=>e.andThen (cr P b bo ab Q) (Q e bo ab)
 | .cond c a b,r,h,Q=>match c.aW r with
   | .bool t=>(t=true→cr P a r h Q)∧(t=false→cr P b r h Q)
   | _=>False
 | .block id b,r,h,Q=>cr P b r h fun e bo ab=>Q (e.leave id) bo ab
 | .loop b,r,h,Q=>∃(I:aT→af→Prop) (μ:aT→af→Nat),I r h∧∀r h,I r h→cr P b r h fun e bo ab=>e.andThen (I bo ab∧μ bo ab<μ r h) (Q e bo ab)
 | .exit id,r,h,Q=>Q (.exit id) r h
 | .ret,r,h,Q=>Q .ret r h
 | .range f bc an a b,r,h,Q=>∃g cs,f.aW r=.func g cs∧g≠cR∧(∃fn,P.funcs[g]? =some fn∧fn.body.isSome=true)∧∀l,wk P l an r bc a b→l.st=0→l.dK=none→
    bM P g (.func cR [.ptr (ay (h.next+1)) 0]::cs) ((h.new .eu).new (.cY l)) fun _ ab=>
     ∃ec,ab.get (ay (h.next+1))=.cY ec∧ec.st≠1∧Q (ec.dK.getD .normal) (r.set (some dX) (.tuple (.ptr (ay h.next) 0::(r dX).list))) (ab.set (ay (h.next+1)) .dead)
def bF.plain:bF→Bool
 | .seq a b=>a.plain&&b.plain
 | .cond _ a b=>a.plain&&b.plain
 | .block _ b=>b.plain
 | .loop b=>b.plain
 | .range _ _ _ _ _=>false
 | _=>true
def y' (P:Program) (an:Nat) (c:Code) (r:aT) (h:af) (e:c6) (bo:aT) (ab:af):Prop:=
 ∀(rd:Option Nat) (au:Fr) E a w,(rd=none∨noMark c=true)→iA E an r a→a1 au E h w→∀Q:Exit→Act→World→Prop,
  (∀ar bg aj,E.le ar→iA ar an bo bg→a1 au ar ab aj→Q (toExit e) bg aj)→Cu rd P c Q a w
section
variable {P:Program} {an:Nat}
theorem QM (bx:dU P) {all:Array Oper}:∀(l:List Oper) (i:Nat),(∀j,l[j]? =all[i+j]?)→∀(r:aT) (h:af) (K:aT→af→Prop),Out an r→qj P (p5 P an all l) r h K→
 ∃bo ab,K bo ab∧(Out an bo∧bo dX=r dX)∧∀(rd:Option Nat) (au:Fr) E a w,iA E an r a→a1 au E h w→∀Q:Exit→Act→World→Prop,
  (∀ar bg aj,E.le ar→iA ar an bo bg→a1 au ar ab aj→Q .normal bg aj)→wpOpsIn (bU rd) 0 P all Q (List.range' i l.length) a w
 | [],i,_,r,h,K,aR,H=>by
   refine ⟨r,h,H,⟨aR,rfl⟩,fun rd au E a w k s Q cP=>?_⟩
   simp only [List.length_nil,List.range'_zero,wpOpsIn]
   exact cP E a w (Env.le.refl E) k s
 | o::os,i,ai,r,h,K,aR,H=>by
   have az:all[i]? =some o:=by have:=ai 0;simpa using this.symm
   simp only [p5,qj] at H
   obtain ⟨call,v,aa,ao,aX,H1,cA⟩:=bA.vO H
   obtain ⟨bZ,ae,aq,av,aK⟩:=QM bx os (i+1) (fun j=>by
    have:=ai (j+1)
    simp only [List.getElem?_cons_succ] at this
    rw [this]
    congr 1
    omega) _ aa K (aR.set aX v) H1
   refine ⟨bZ,ae,aq,⟨av.1,av.2.trans (Ib aX v)⟩,fun rd au E a w k s Q cP=>?_⟩
   obtain ⟨cw,dI⟩:=Ak aR
   rw [List.length_cons,List.range'_succ,wpOpsIn_cons]
   refine nY bx ao.1 ao.2 az (cA cw dI) k.size (fun t aD=>?_) s fun ar x aj b2 cq dR=>?_
   · have:=congrFun dI t
     simp only [dC] at this
     rw [this]
     exact k.aE t (vl (Nat.le_of_ble_eq_true (List.all_eq_true.1 (iE (cA cw dI)).2 t aD)))
   · exact aK rd au ar _ aj (k.put b2 aX cq) dR Q fun bQ a2 bK cm z2 z3=>cP bQ a2 bK (b2.trans cm) z2 z3
noncomputable def toF (e:d_):e':=⟨dC e.r,e.h,e.v⟩
theorem YE (es:List d_) (ax:af) (i:Nat):uI (es.map toF) ax i=b0 es ax i:=by
 unfold uI b0
 rw [List.getElem?_map]
 cases es[i]? <;>rfl
theorem QL {all:Array Oper}:∀(l:List Oper) (kK:br) (h:af) (K:List e'→aT→af→Prop),jx P (p5 P an all l) (dC kK) h K→Out an (dC kK)→
 ∃es l5 ax,K (es.map toF) (dC l5) ax∧(Out an (dC l5)∧dC l5 dX=dC kK dX)∧es.length=l.length∧b0 es ax 0=h∧dG es l5 0=kK∧
  ∀j o,l[j]? =some o→∃e call,es[j]? =some e∧(fv P call∧fF P call)∧(cg P an all o).run call e.r e.h=.val e.v (b0 es ax (j+1))∧dG es l5 (j+1)=(eJ o.dst).run e.r e.v
 | [],kK,h,K,H,aR=>⟨[],kK,h,H,⟨aR,rfl⟩,rfl,rfl,rfl,fun j o bI=>by simp at bI⟩
 | o::os,kK,h,K,H,aR=>by
   simp only [p5,jx] at H
   obtain ⟨call,v,aa,ao,aX,H1,cA⟩:=bA.vO H
   rw [←BV] at H1
   obtain ⟨es,l5,ax,aq,av,aK,bD,dr,fi⟩:=QL os _ aa _ H1 (by rw [BV];exact aR.set aX v)
   refine ⟨⟨kK,h,v⟩::es,l5,ax,aq,⟨av.1,av.2.trans (by rw [BV];exact Ib aX v)⟩,by simp [aK],by simp [b0],by simp [dG],fun j bX bI=>?_⟩
   cases j with
   | zero=>
     simp only [List.getElem?_cons_zero,Option.some.injEq] at bI
     subst bI
     exact ⟨⟨kK,h,v⟩,call,rfl,ao,by rw [uH,bD];exact cA kK rfl,by rw [vA,dr]⟩
   | succ j=>
     obtain ⟨e,c,b2,cq,dR,ju⟩:=fi j bX (by simpa using bI)
     exact ⟨e,c,by simpa using b2,cq,by rw [uH];exact dR,by rw [vA];exact ju⟩
theorem JM {o:Option bA} {e:Option e'} {es:List e'} {ax:af}:∀{ez:List Nat},o7 P o e es ax ez→∀s ∈ ez,∃bX cU,o=some bX∧e=some cU∧bX.wp P cU.r (uI es ax s) fun _ eh _=>eh=cU.v
 | [],_,s,h=>by simp at h
 | fC::ez,H,s,hm=>by
   simp only [o7] at H
   simp only [List.mem_cons] at hm
   rcases hm with rfl | hm
   · cases o with
     | none=>exact H.1.elim
     | some o=>
       cases e with
       | none=>exact H.1.elim
       | some e=>exact ⟨o,e,rfl,rfl,H.1⟩
   · exact JM H.2 s hm
theorem JP {ops:List Oper} {dn aB dN:List Nat} {gs:List bA} {es:List e'} {ax:af}:∀{l:List Oper} {i:Nat},mO P gs es ax (tV P ops dn aB dN i l)→∀j o,l[j]? =some o→looks o.op=true→eb P o.op=false→
 o7 P gs[posOf aB (i+j)]? es[posOf aB (i+j)]? es ax (dN.filter (pY P dn ops aB (i+j) ((dn[i+j]?).getD 0)))
 | [],i,_,j,o,h,_,_=>by simp at h
 | bX::os,i,H,j,o,h,aa,ae=>by
   simp only [tV] at H
   cases j with
   | zero=>
     simp only [List.getElem?_cons_zero,Option.some.injEq] at h
     subst h
     rw [aa,ae] at H
     simp only [Bool.not_false,Bool.and_true,cond_true,mO] at H
     exact H.1
   | succ j=>
     have jz:mO P gs es ax (tV P ops dn aB dN (i+1) os):=by
      cases ao:(looks bX.op&&!eb P bX.op) with
      | true=>rw [ao] at H;simp only [cond_true,mO] at H;exact H.2
      | false=>rw [ao] at H;exact H
     have:=JP jz j o (by simpa using h) aa ae
     rw [show i+1+j=i + (j+1) from by omega] at this
     exact this
theorem Wt (fI:an≤top) (cO:P.follows .mixedOrders=true) (bx:dU P) {id:Nat} {ops:Array Oper} {order aB:List Nat} {r:aT} {h:af} {Q:c6→aT→af→Prop} (aR:Out an r)
 (H:cr P (HZ P an ops order aB) r h Q):∃bo ab,Q .normal bo ab∧(Out an bo∧bo dX=r dX)∧y' P an (.region id ops true) r h .normal bo ab:=by
 unfold HZ at H
 cases ax:(j0 ops.size order aB&&uc P ops aB) with
 | false=>rw [ax] at H;exact H.elim
 | true=>
   rw [ax] at H
   simp only [cond_true,cr] at H
   simp only [Bool.and_eq_true] at ax
   obtain ⟨e0,fQ⟩:=ax
   unfold j0 at e0
   simp only [Bool.and_eq_true,Nat.beq_eq] at e0
   obtain ⟨mg,uR,xv,xw⟩:=e0
   have gI:∀k,k<ops.size→posOf aB k<ops.size∧order[posOf aB k]? =some k:=by
    intro k aA
    have aG:aB[k]? =some (posOf aB k):=by
     unfold posOf
     rw [List.getElem?_eq_getElem (by omega)]
     rfl
    have:=rf xv aG
    rw [Nat.zero_add] at this
    exact ⟨by have:=(List.getElem?_eq_some_iff.1 this).1;omega,this⟩
   have jt:∀p,p<ops.size→∃i,i<ops.size∧posOf aB i=p:=by
    intro p ah
    have aG:order[p]? =some (order[p]'(by omega)):=List.getElem?_eq_getElem (by omega)
    have:=rf xw aG
    rw [Nat.zero_add] at this
    refine ⟨order[p]'(by omega),by have:=(List.getElem?_eq_some_iff.1 this).1;omega,?_⟩
    unfold posOf
    rw [this]
    rfl
   obtain ⟨kK,uD⟩:=Ak aR
   rw [←uD] at H aR
   obtain ⟨es,l5,a',⟨w_,cP⟩,⟨pI,MH⟩,aq,av,aK,bD⟩:=QL _ kK h _ H aR
   refine ⟨_,a',cP,⟨pI,by rw [←uD];exact MH⟩,fun rd au E a w aH k s gL Fh=>?_⟩
   have step:∀i:Nat,∃call,(fv P call∧fF P call)∧∀o,ops[i]? =some o→∃e,es[posOf aB i]? =some e∧(cg P an ops o).run call e.r e.h=.val e.v (b0 es a' (posOf aB i+1))∧dG es l5 (posOf aB i+1)=(eJ o.dst).run e.r e.v:=by
    intro i
    cases az:ops[i]? with
    | none=>exact ⟨js,Br P,fun o h=>by cases h⟩
    | some o=>
      obtain ⟨e,call,b2,cq,dR,ju⟩:=bD _ o (lj (gI i (Array.getElem?_eq_some_iff.1 az).1).2 az)
      exact ⟨call,cq,fun bX fJ=>by cases fJ;exact ⟨e,b2,dR,ju⟩⟩
   obtain ⟨calls,uF⟩:=Classical.axiomOfChoice step
   have qL:∀j o,ops[j]? =some o→looks o.op=true→eb P o.op=false→∃e,es[posOf aB j]? =some e∧∀s ∈ gh P aB 0 ops.toList,
    pY P (dW [] ops.toList) ops.toList aB j (((dW [] ops.toList)[j]?).getD 0) s=true→∃c ab,(fv P c∧fF P c)∧(cg P an ops o).run c e.r (b0 es a' s)=.val e.v ab:=by
    intro j o oi ek YJ
    have bI:=(Array.getElem?_eq_some_iff.1 oi).1
    obtain ⟨e,b2,cq,dR⟩:=(uF j).2 o oi
    refine ⟨e,b2,fun s aQ hm=>?_⟩
    cases ai:o4 P ops.toList with
    | true=>
      rw [ai] at w_
      simp only [cond_true] at w_
      have:=JP w_ j o (by simpa using oi) ek YJ
      rw [Nat.zero_add] at this
      obtain ⟨bX,cU,cm,z2,z3⟩:=JM this s (List.mem_filter.2 ⟨aQ,hm⟩)
      rw [PC,List.getElem?_map,lj (gI j bI).2 oi] at cm
      simp only [Option.map_some,Option.some.injEq] at cm
      rw [List.getElem?_map,b2] at z2
      simp only [Option.map_some,Option.some.injEq] at z2
      subst cm;subst z2
      rw [YE] at z3
      obtain ⟨c,v,ab,dH,_,y3,y4⟩:=bA.vO z3
      have QO:=y4 e.r rfl
      rw [show v=e.v from y3] at QO
      exact ⟨c,ab,dH,QO⟩
    | false=>
      have none:∀(l:List Oper),o4 P l=false→∀(j:Nat) (o:Oper),l[j]? =some o→eb P o.op=false:=by
       intro l
       induction l with
       | nil=>intro _ j o h;simp at h
       | cons x l bf=>
         intro h j o aR
         simp only [o4,Bool.or_eq_false_iff] at h
         cases j with
         | zero=>simp only [List.getElem?_cons_zero,Option.some.injEq] at aR;subst aR;exact h.1
         | succ j=>exact bf h.2 j o (by simpa using aR)
      have hM:s=ops.size:=by
       rcases q1 aQ with h | ⟨Bb,bX,aa,ae,aF⟩
       · simpa using h
       · have:=none _ ai Bb bX aa
         unfold dB at ae
         rw [this] at ae
         cases ae
      have flat:∀d,d≤ops.size→b0 es a' d=b0 es a' 0:=by
       intro d
       induction d with
       | zero=>intro _;rfl
       | succ d bf=>
         intro aX
         obtain ⟨i,sx,lE⟩:=jt d (by omega)
         have cc:ops[i]? =some ops[i]:=Array.getElem?_eq_getElem sx
         obtain ⟨Wv,bY,bK,_⟩:=(uF i).2 ops[i] cc
         rw [lE] at bY bK
         have cZ:eb P ops[i].op=false:=none _ ai i _ (by simp)
         rw [(r5 cZ bK).1,←bf (by omega)]
         simp [b0,bY]
      have aic:=(gI j bI).1
      have:e.h=b0 es a' s:=by rw [hM,flat ops.size (Nat.le_refl _),←flat (posOf aB j) (by omega)];simp [b0,b2]
      rw [←this]
      exact ⟨_,_,(uF j).1,cq⟩
   have hlen:es.length=ops.size:=by rw [aq,nz,mg]
   have C:Cert P an ops calls es kK h l5 a' (gh P aB 0 ops.toList) order aB ops.size ops.size false:=
    ⟨hlen,Nat.le_refl _,Nat.le_refl _,gI,jt,av,aK,fun i o cc _=>(uF i).2 o cc,
      fun i o cc=>by
       obtain ⟨ct,cm,z2,z3⟩:=KR fQ i o cc
       exact ⟨ct,cm,z2,fun _ k ok aA _=>by
        obtain ⟨mk,dH,fW,y3⟩:=z3 k ok aA
        exact ⟨mk,dH,fW,fun aN aY cz=>.inl (y3 aN aY cz)⟩⟩,
      by simpa using Bh (P:=P) (aB:=aB) (l:=ops.toList) (i:=0),
      fun j o aa ae=>by simpa using vd (aB:=aB) (i:=0) (j:=j) (l:=ops.toList) (by simpa using aa) ae,
      fun s aQ=>by
       rcases q1 aQ with h | ⟨j,o,aa,ae,aF⟩
       · exact .inl (.inl (by simpa using h))
       · exact .inr ⟨j,o,by simpa using aa,ae,by simpa using aF⟩,
      fun j o aa ae aF _=>qL j o aa ae aF,fun h=>absurd h (Nat.lt_irrefl _),fun h=>absurd h (Nat.lt_irrefl _)⟩
   have aA:RegRel0 E an kK a:=⟨k.size,fun t aD=>by
    have:=congrFun uD t
    simp only [dC] at this
    rw [this]
    exact k.aE t (vl aD)⟩
   have c7:∀k,¬(Array.replicate ops.size false).getD k false=true:=by
    intro k
    rw [qG,Array.getElem?_replicate]
    split<;>simp
   have il:Holds au au es a' aB (ic ops es a' aB (Array.replicate ops.size false) 0):=
    ⟨rfl,fun _ _=>rfl,fun k aA=>(by obtain ⟨_,_,_,_,ba⟩:=aA;omega),fun k bl aA=>(by obtain ⟨_,_,_,_,ba⟩:=aA;omega)⟩
   obtain ⟨fC,dx,g1,g2,g3,g4,g5,g6⟩:=C.advance ops.size 0 (by omega) (fun k o _ _ _=>c7 k) au il (E:=E) (w:={w with drawn:=w.drawn}) (by rw [av];exact s.same rfl rfl rfl rfl)
   have k6:dC l5 dX=r dX:=by rw [←uD];exact MH
   have fin:∀ar bg aj,E.le ar→RegRel0 ar an l5 bg→bg.defers=a.defers→a1 au ar a' aj→gL .normal bg aj:=by
    intro ar bg aj cm z2 ahu z3
    refine Fh ar bg aj cm ⟨z2.size,by rw [k6,ahu];exact k.defers.mono cm,fun t eE=>?_⟩ z3
    by_cases aD:t≤top
    · exact z2.aE t aD
    · have b5:=z2.size
      rw [pI t (by omega) eE]
      simp [Rel]
   refine QJ cO (KT bx (fun i=>(uF i).1.1) (fun i=>(uF i).1.2) C (gA:=E) (D:=a.defers) (fun _=>fin)
    (fun _ _ _ _ _ _ _ h=>absurd h (Nat.lt_irrefl _)) (fun h=>absurd h (Nat.lt_irrefl _)) ops.size _ a _ ?_ ?_)
   · exact Nat.le_trans List.countP_le_length (by simp)
   · refine ⟨by simp,aA.size,rfl,fun bl aA=>absurd aA (c7 bl),fun bl o e aA=>absurd aA (c7 bl),E,fC,dx,Env.le.refl E,g1,g3,fun bl o aa ae=>⟨fun h=>absurd h (c7 bl),fun h=>by have:=g4 bl o aa ae (Nat.zero_le _);omega⟩,
      fun bl o _ _ h=>absurd h (c7 bl),g5,?_,fun t aD=>.inr ⟨fun bl o aA=>absurd aA (c7 bl),aA.aE t aD⟩⟩
     exact g6.same rfl rfl rfl rfl
theorem WQ {rd:Option Nat} {e:c6} {Q:Exit→Act→World→Prop} {a:Act} {w:World} (h:Q (toExit e) a w):(ET e).wpIn (bU rd) 0 P Q a w:=by
 cases e with
 | normal=>exact wpIn_skip h
 | exit id=>exact wpIn_exit h
 | ret=>exact wpIn_ret h
theorem afb (fI:an≤top) (cO:P.follows .mixedOrders=true) (bx:dU P) {f:Operand} {bc:Array Tmp} {x y:Code} {r:aT} {h:af} {Q:c6→aT→af→Prop} (aR:Out an r)
 (H:cr P (cu P an (.rangeFunc f bc x y)) r h Q):∃e bo ab,Q e bo ab∧(Out an bo∧((cu P an (.rangeFunc f bc x y)).plain=true→bo dX=r dX))∧y' P an (.rangeFunc f bc x y) r h e bo ab:=by
 simp only [cu] at H ⊢
 cases fQ:(mB an bc.toList&&(noMark x&&noMark y)) with
 | false=>rw [fQ] at H;exact H.elim
 | true=>
   rw [fQ] at H
   simp only [cond_true,cr] at H ⊢
   simp only [Bool.and_eq_true] at fQ
   obtain ⟨g,cs,bp,aG,pz,H⟩:=H
   obtain ⟨cw,dI⟩:=Ak aR
   obtain ⟨v,ab,cy,ec,aN,aY,cP⟩:=H ⟨0,none,ay h.next,an,cw,bc.toList,x,y⟩ ⟨rfl,dI,rfl,rfl,rfl,fQ.1,fQ.2.1,fQ.2.2,aR⟩ rfl rfl
   refine ⟨_,_,_,cP,⟨fun t aa ae=>by simp only [aT.set];rw [if_neg ae];exact aR t aa ae,fun z=>by cases z⟩,fun rd au E a w aH k s gL Fh=>?_⟩
   have pL:rd=none:=aH.resolve_right (by simp [noMark])
   subst pL
   have ax:Rel E (.func g cs) (a.eval f):=by
    rw [←bp]
    cases f with
    | tmp t=>
      simp only [rx]
      cases ag:Nat.ble t top with
      | false=>simp [aU.aW,Rel]
      | true=>
        simp only [cond_true,aU.aW]
        exact k.aE t (vl (Nat.le_of_ble_eq_true ag))
    | const v=>exact q9 E v
    | func f=>
      simp only [rx]
      cases ag:Nat.beq f cR with
      | true=>simp [aU.aW,Rel]
      | false=>
        simp only [cond_false,aU.aW,Rel]
        exact .inl ⟨fun e=>by subst e;simp at ag,_,rfl,by simp [a8]⟩
    | global g=>simp [rx,aU.aW,Rel]
   simp only [Rel] at ax
   rcases ax with ⟨_,dY,cQ,ai⟩ | ⟨FI,_⟩
   case inr=>exact absurd FI aG
   refine (wpIn_rangeFunc fun fn _=>?_:(Code.rangeFunc f bc x y).wpIn (bU none) 0 P gL a w)
   have f0:=s.fresh h.next (Nat.le_refl _)
   obtain ⟨e9,se⟩:∃e9,e9=E.put (ay h.next) ⟨w.heap.size,0,0⟩:=⟨_,rfl⟩
   obtain ⟨bY,nn⟩:∃bY:World,bY={w with heap:=w.heap.push (.deferred (some []))}:=⟨_,rfl⟩
   have xB:e9 (ay h.next)=some ⟨w.heap.size,0,0⟩:=by rw [se];unfold Env.put;rw [if_pos rfl]
   have s1:a1 au e9 (h.new .eu) bY:=by
    rw [se,nn]
    refine s.alloc 0 ⟨⟨w.heap.size,0,0⟩,by unfold Env.put;rw [if_pos rfl],s.frame.size,by simp⟩
   have mq:E.le e9:=by rw [se];exact Env.jn f0
   have sN:bY.heap.size=w.heap.size+1:=by rw [nn];simp
   obtain ⟨o,fJ⟩:∃o:Loop,o={state:=.ready,pending:=none,fn,tmps:=a.tmps,params:=bc,assign:=x,body:=y,defers:=w.heap.size}:=⟨_,rfl⟩
   obtain ⟨bQ,pq⟩:∃bQ,bQ=e9.put (ay (h.next+1)) ⟨bY.heap.size,0,0⟩:=⟨_,rfl⟩
   obtain ⟨bK,qS⟩:∃bK:World,bK={bY with heap:=bY.heap.push (.loop o)}:=⟨_,rfl⟩
   have f1:e9 (ay (h.next+1))=none:=s1.fresh (h.next+1) (Nat.le_refl _)
   have jW:e9.le bQ:=by rw [pq];exact Env.jn f1
   have xC:bQ (ay (h.next+1))=some ⟨bY.heap.size,0,0⟩:=by rw [pq];unfold Env.put;rw [if_pos rfl]
   have cY:rR bQ ⟨0,none,ay h.next,an,cw,bc.toList,x,y⟩ o:=by
    subst fJ
    refine ⟨rfl,rfl,rfl,rfl,rfl,k.size,fun t aD=>?_,_,jW _ _ xB,rfl⟩
    have:=congrFun dI t
    simp only [dC] at this
    simp only [this]
    exact Rel.mono (mq.trans jW) _ _ (k.aE t (vl aD))
   have s2:a1 au bQ ((h.new .eu).new (.cY ⟨0,none,ay h.next,an,cw,bc.toList,x,y⟩)) bK:=by
    rw [pq,qS]
    refine s1.alloc 0 ⟨⟨bY.heap.size,0,0⟩,o,by show e9.put (ay (h.next+1)) _ (ay (h.next+1))=_;unfold Env.put;rw [if_pos rfl],by show au.w.heap.size≤bY.heap.size;rw [sN];have:=s.frame.size;omega,by simp,?_⟩
    have:=cY
    rw [pq] at this
    exact this
   obtain ⟨gw,ng⟩:∃gw,gw=bY.heap.size:=⟨_,rfl⟩
   have a6:Rel bQ (.func cR [.ptr (ay (h.next+1)) 0]) (.func (.yield gw) #[] #[]):=by
    simp only [Rel]
    exact .inr ⟨trivial,_,_,rfl,xC,by rw [ng]⟩
   have mZ:a8 bQ (.func cR [.ptr (ay (h.next+1)) 0]::cs) (.func (.yield gw) #[] #[]::dY.toList):=by
    simp only [a8]
    exact ⟨_,_,rfl,a6,a8.mono (mq.trans jW) _ _ ai⟩
   have ao:Calls P g (Value.func (Fn.yield gw) #[] #[]::dY.toList).toArray bK (rangePost (bU none) 0 P gw gL {a with defers:=[{target:=.collected w.heap.size,args:=#[]}]++a.defers}):=(cy.calls bx pz au bQ bK _ mZ s2).mono fun e aj aC=>by
    obtain ⟨ar,ai1,rfl,aq,_,aK⟩:=aC
    simp only [rangePost]
    have h5:=aq _ _ xC
    have ag:=aK.at h5
    rw [aN] at ag
    obtain ⟨p',bX,fK,cN,a',FV⟩:=ag
    rw [h5] at fK;cases fK
    obtain ⟨t1,t2,t3,t4,t5,t6,t7,t8⟩:=FV
    simp only at a'
    rw [←ng] at a'
    have F4:(bX.state == LoopState.busy)=false:=by
     rw [t1]
     match lG:ec.st with
     | 0=>rfl
     | 1=>exact absurd lG aY
     | n+2=>rfl
    have jN:=(Array.getElem?_eq_some_iff.1 a').1
    let hT:World:={aj with heap:=aj.heap.setIfInBounds gw (.loop {bX with state:=.exhausted})}
    have e2:(Instr.endLoop gw).run P aj=.ok bX.pending hT:=by
     have pN:(setObj gw (.loop {bX with state:=.exhausted})).run P aj=.ok () hT:=by simp only [setObj,Sem.run,a'];rfl
     simp only [Instr.endLoop,Sem.run_bind,run_getLoop a',Result.andThen_ok,F4,Bool.false_eq_true,if_false,pN,Sem.run_pure]
    have vG:a1 au ar (ab.set (ay (h.next+1)) .dead) hT:=by
     refine aK.gone (p:=⟨bY.heap.size,0,0⟩) (by rw [aN];rfl) h5 cN (by simp [hT]) (fun j bI=>?_) rfl rfl rfl
     simp only at bI
     simp only [hT,Array.getElem?_setIfInBounds]
     rw [if_neg (fun e=>bI (by rw [←e,ng]))]
    have fR:iA ar an (r.set (some dX) (.tuple (.ptr (ay h.next) 0::(r dX).list))) {a with defers:=[{target:=.collected w.heap.size,args:=#[]}]++a.defers}:=by
     refine ⟨k.size,?_,fun t aD=>?_⟩
     · simp only [aT.set,if_true,jy,lo,List.cons_append,List.nil_append]
       exact ⟨_,_,rfl,⟨_,aq _ _ (jW _ _ xB),rfl⟩,(k.defers.mono (mq.trans (jW.trans aq))).list⟩
     · simp only [aT.set]
       rw [if_neg aD]
       exact Rel.mono (mq.trans (jW.trans aq)) _ _ (k.aE t aD)
    refine ⟨bX.pending,hT,e2,?_⟩
    rw [t2]
    have fin:=Fh ar _ hT (mq.trans (jW.trans aq)) fR vG
    cases iK:ec.dK with
    | none=>rw [iK] at fin;exact fin
    | some e=>rw [iK] at fin;exact WQ fin
   obtain ⟨LJ,YP,pz⟩:=pz
   refine ⟨gw,[{target:=.collected w.heap.size,args:=#[]}],bK,{target:=.fn (.func g) dY,args:=#[]++#[.func (.yield gw) #[] #[]]},bK,g,_,bK,?_,?_,fun _ _=>trivial,?_,fun h=>by simp at h,qA.2 ao⟩
   · subst fJ qS nn
     have he:=run_enterLoop_outer (P:=P) (w:=w) fn a.tmps bc x y
     rw [World.alloc,World.alloc] at he
     simp only [Array.size_push] at ng ⊢
     rw [ng]
     exact he
   · simp only [resolve,cQ,Deferred.ofValue,Sem.run_pure]
     simp [Act.eval]
   · simp only [invoke]
     have e:(#[]++#[Value.func (.yield gw) #[] #[]]:Array Value)++dY=(Value.func (.yield gw) #[] #[]::dY.toList).toArray:=by apply Array.ext';simp
     rw [e]
     exact rp bx YP pz _ bK
theorem IF (fI:an≤top) (cO:P.follows .mixedOrders=true) (bx:dU P):∀(c:Code) (r:aT) (h:af) (Q:c6→aT→af→Prop),Out an r→cr P (cu P an c) r h Q→
 ∃e bo ab,Q e bo ab∧(Out an bo∧((cu P an c).plain=true→bo dX=r dX))∧y' P an c r h e bo ab:=by
 intro c
 induction c with
 | skip=>
   intro r h Q aR H
   exact ⟨.normal,r,h,H,⟨aR,fun _=>rfl⟩,fun rd au E a w aH k s gL cP=>wpIn_skip (cP E a w (Env.le.refl E) k s)⟩
 | label l=>
   intro r h Q aR H
   exact ⟨.normal,r,h,H,⟨aR,fun _=>rfl⟩,fun rd au E a w aH k s gL cP=>wpIn_label (cP E a w (Env.le.refl E) k s)⟩
 | exit id=>
   intro r h Q aR H
   exact ⟨.exit id,r,h,H,⟨aR,fun _=>rfl⟩,fun rd au E a w aH k s gL cP=>wpIn_exit (cP E a w (Env.le.refl E) k s)⟩
 | ret=>
   intro r h Q aR H
   exact ⟨.ret,r,h,H,⟨aR,fun _=>rfl⟩,fun rd au E a w aH k s gL cP=>wpIn_ret (cP E a w (Env.le.refl E) k s)⟩
 | region id ops draw=>
   intro r h Q aR H
   cases draw with
   | true=>
     simp only [cu,cond_true] at H
     obtain ⟨bo,ab,aq,av,aK⟩:=Wt fI cO bx (id:=id) aR H
     exact ⟨.normal,bo,ab,aq,⟨av.1,fun _=>av.2⟩,aK⟩
   | false=>
     simp only [cu,cond_false,cr] at H
     obtain ⟨bo,ab,aq,av,aK⟩:=QM bx ops.toList 0 (fun j=>by simp) r h _ aR H
     refine ⟨.normal,bo,ab,aq,⟨av.1,fun _=>av.2⟩,fun rd au E a w aH k s gL cP=>?_⟩
     refine wpIn_region ?_
     have:=aK rd au E a w k s gL cP
     rw [List.range_eq_range']
     simpa using this
 | seq x y sQ sR=>
   intro r h Q aR H
   simp only [cu,cr] at H
   obtain ⟨e,bz,aa,aq,av,aK⟩:=sQ r h _ aR H
   cases e with
   | normal=>
     obtain ⟨e,bZ,ae,b2,cq,dR⟩:=sR bz aa Q av.1 aq
     refine ⟨e,bZ,ae,b2,⟨cq.1,fun z=>by simp only [cu,bF.plain,Bool.and_eq_true] at z;exact (cq.2 z.2).trans (av.2 z.1)⟩,fun rd au E a w aH k s gL cP=>?_⟩
     refine wpIn_seq (aK rd au E a w (aH.imp (fun h=>h) fun h=>by simp only [noMark,Bool.and_eq_true] at h;exact h.1) k s _ fun ar bg aj cm z2 z3=>?_).wp
     exact (dR rd au ar bg aj (aH.imp (fun h=>h) fun h=>by simp only [noMark,Bool.and_eq_true] at h;exact h.2) z2 z3 gL fun bQ a2 bK dH fW y3=>cP bQ a2 bK (cm.trans dH) fW y3).wp
   | exit i=>
     refine ⟨.exit i,bz,aa,aq,⟨av.1,fun z=>by simp only [cu,bF.plain,Bool.and_eq_true] at z;exact av.2 z.1⟩,fun rd au E a w aH k s gL cP=>?_⟩
     refine wpIn_seq (aK rd au E a w (aH.imp (fun h=>h) fun h=>by simp only [noMark,Bool.and_eq_true] at h;exact h.1) k s _ fun ar bg aj cm z2 z3=>?_).wp
     exact cP ar bg aj cm z2 z3
   | ret=>
     refine ⟨.ret,bz,aa,aq,⟨av.1,fun z=>by simp only [cu,bF.plain,Bool.and_eq_true] at z;exact av.2 z.1⟩,fun rd au E a w aH k s gL cP=>?_⟩
     refine wpIn_seq (aK rd au E a w (aH.imp (fun h=>h) fun h=>by simp only [noMark,Bool.and_eq_true] at h;exact h.1) k s _ fun ar bg aj cm z2 z3=>?_).wp
     exact cP ar bg aj cm z2 z3
 | cond c x y sQ sR=>
   intro r h Q aR H
   simp only [cu,cr] at H
   cases bp:(rx c).aW r<;>rw [bp] at H<;>simp only at H<;>try (exact H.elim)
   rename_i t
   have ao:∀E a,iA E an r a→a.eval c=.bool t:=by
    intro E a k
    cases c with
    | tmp d=>
      simp only [rx] at bp
      cases ag:Nat.ble d top with
      | false=>rw [ag] at bp;simp [aU.aW] at bp
      | true=>
        rw [ag] at bp
        simp only [cond_true,aU.aW] at bp
        have:=k.aE d (vl (Nat.le_of_ble_eq_true ag))
        rw [bp] at this
        simp only [Rel] at this
        exact this
    | const v=>
      simp only [rx,aU.aW] at bp
      have:=q9 E v
      rw [bp] at this
      simp only [Rel] at this
      exact this
    | func f=>
      simp only [rx] at bp
      cases ag:Nat.beq f cR<;>rw [ag] at bp<;>simp [aU.aW] at bp
    | global g=>simp [rx,aU.aW] at bp
   cases t with
   | true=>
     obtain ⟨e,bz,aa,aq,av,aK⟩:=sQ r h Q aR (H.1 rfl)
     exact ⟨e,bz,aa,aq,⟨av.1,fun z=>by simp only [cu,bF.plain,Bool.and_eq_true] at z;exact av.2 z.1⟩,fun rd au E a w aH k s gL cP=>wpIn_cond_true (ao E a k) (aK rd au E a w (aH.imp (fun h=>h) fun h=>by simp only [noMark,Bool.and_eq_true] at h;exact h.1) k s gL cP).wp⟩
   | false=>
     obtain ⟨e,bz,aa,aq,av,aK⟩:=sR r h Q aR (H.2 rfl)
     exact ⟨e,bz,aa,aq,⟨av.1,fun z=>by simp only [cu,bF.plain,Bool.and_eq_true] at z;exact av.2 z.2⟩,fun rd au E a w aH k s gL cP=>wpIn_cond_false (ao E a k) (aK rd au E a w (aH.imp (fun h=>h) fun h=>by simp only [noMark,Bool.and_eq_true] at h;exact h.2) k s gL cP).wp⟩
 | block id x bf=>
   intro r h Q aR H
   simp only [cu,cr] at H
   obtain ⟨e,bz,aa,aq,av,aK⟩:=bf r h _ aR H
   refine ⟨e.leave id,bz,aa,aq,av,fun rd au E a w aH k s gL cP=>?_⟩
   refine wpIn_block (aK rd au E a w (aH.imp (fun h=>h) fun h=>h) k s _ fun ar bg aj cm z2 z3=>?_).wp
   cases e with
   | normal=>exact cP ar bg aj cm z2 z3
   | ret=>exact cP ar bg aj cm z2 z3
   | exit i=>
     have:=cP ar bg aj cm z2 z3
     simp only [toExit,Exit.inBlock]
     simp only [c6.leave] at this
     by_cases az:i=id
     · rw [if_pos az] at this ⊢;exact this
     · rw [if_neg az] at this ⊢;exact this
 | loop x bf=>
   intro r h Q aR H
   simp only [cu,cr] at H
   obtain ⟨I,μ,pr,ZC⟩:=H
   have key:∀n r h,μ r h=n→I r h→Out an r→∃e bo ab,Q e bo ab∧(Out an bo∧((cu P an (.loop x)).plain=true→bo dX=r dX))∧y' P an (.loop x) r h e bo ab:=by
    intro n
    induction n using Nat.strongRecOn with
    | _ n aae=>
      intro r h aZ pr aR
      obtain ⟨e,bz,aa,aq,av,aK⟩:=bf r h _ aR (ZC r h pr)
      have body:∀(rd:Option Nat) (au:Fr) E a w,(rd=none∨noMark x=true)→iA E an r a→a1 au E h w→∀(b:Frame) (cJ:List Item) (cs:List Frame),b.roundOf=rd→∃bg aj ar,E.le ar∧iA ar an bz bg∧a1 au ar aa aj∧ArrivesIn (Machine.fenced P (bU rd)) P (lone (b.atR a (.code x::.inLoop x::cJ)) cs w) b (.inLoop x::cJ) cs (toExit e) bg aj:=by
       intro rd au E a w aH k s b cJ cs jQ
       have:=(aK rd au E a w aH k s (fun cU bg aj=>cU=toExit e∧∃ar,E.le ar∧iA ar an bz bg∧a1 au ar aa aj) (fun ar bg aj aq av aK=>⟨rfl,ar,aq,av,aK⟩)).wp b (.inLoop x::cJ) cs jQ trivial (H5 _)
       obtain ⟨aY,a2,bK,⟨rfl,bQ,cm,z2,z3⟩,hY⟩:=this
       exact ⟨a2,bK,bQ,cm,z2,z3,hY⟩
      cases e with
      | normal=>
        obtain ⟨Yd,aP⟩:=aq
        obtain ⟨aY,bZ,ae,b2,cq,dR⟩:=aae (μ bz aa) (aZ ▸ aP) bz aa rfl Yd av.1
        refine ⟨aY,bZ,ae,b2,⟨cq.1,fun z=>(cq.2 z).trans (av.2 z)⟩,fun rd au E a w aH k s gL cP b cJ cs jQ=>?_⟩
        obtain ⟨a2,bK,bQ,cm,z2,z3,hY⟩:=body rd au E a w (aH.imp (fun h=>h) fun h=>h) k s b cJ cs jQ
        obtain ⟨cz,a3,mJ,dH,fW⟩:=dR rd au bQ a2 bK aH z2 z3 gL (fun rL a4 hT t1 t2 t3=>cP rL a4 hT (cm.trans t1) t2 t3) b cJ cs jQ
        exact ⟨cz,a3,mJ,dH,.of_steps (StepsIn.trans hY (.one (oa _) stepR_inLoop)) fW⟩
      | exit i=>
        refine ⟨.exit i,bz,aa,aq,av,fun rd au E a w aH k s gL cP b cJ cs jQ=>?_⟩
        obtain ⟨a2,bK,bQ,cm,z2,z3,hY⟩:=body rd au E a w (aH.imp (fun h=>h) fun h=>h) k s b cJ cs jQ
        exact ⟨.exit i,a2,bK,cP bQ a2 bK cm z2 z3,.pass (x:=.inLoop x) rfl (fun _ _=>.inl (by simp)) hY⟩
      | ret=>
        refine ⟨.ret,bz,aa,aq,av,fun rd au E a w aH k s gL cP b cJ cs jQ=>?_⟩
        obtain ⟨a2,bK,bQ,cm,z2,z3,hY⟩:=body rd au E a w (aH.imp (fun h=>h) fun h=>h) k s b cJ cs jQ
        exact ⟨.ret,a2,bK,cP bQ a2 bK cm z2 z3,.pass (x:=.inLoop x) rfl (fun _ _=>.inl (by simp)) hY⟩
   exact key _ r h rfl pr aR
 | scope x bf=>
   intro r h Q aR H
   obtain ⟨e,bz,aa,aq,av,aK⟩:=bf r h Q aR H
   refine ⟨e,bz,aa,aq,av,fun rd au E a w aH k s gL cP=>?_⟩
   refine PW (aK rd au E a w (aH.imp (fun h=>h) fun h=>h) k s _ fun ar bg aj cm z2 z3=>?_).wp
   have:=cP ar bg aj cm z2 z3
   cases e<;>exact this
 | rangeFunc f bc x y _ _=>intro r h Q aR H;exact afb fI cO bx aR H
 | goto l=>intro r h Q aR H;exact H.elim
 | refuse ag6=>intro r h Q aR H;exact H.elim
inductive wu where
 | t (n:Nat)
 | bs (n:Nat)
 | kP (n size:Nat)
 | bad
def c' (P:Program) (an:Nat):List ResultVar→List wu
 | []=>[]
 | .tmp t::rs=>(bif Nat.ble t top&&Nat.blt t an then .t t else .bad)::c' P an rs
 | .cell a t::rs=>(bif Nat.ble a top&&Nat.blt a an then (match a7 P t with
   | none=>.bad
   | some aM=>bif aM.agg then .kP a aM.size else bif Nat.beq aM.size 1 then .bs a else .bad) else .bad)::c' P an rs
noncomputable def cX (r:aT) (h:af):List wu→Option (List V)
 | []=>some []
 | x::xs=>match (match x with
   | .t n=>some (r n)
   | .bs n=>lf h (r n)
   | .kP n size=>lb size h (r n)
   | .bad=>none) with
   | none=>none
   | some v=>match cX r h xs with
     | none=>none
     | some ad=>some (v::ad)
theorem Aj {r:aT} {h:af} {cw:br} (dI:dC cw=r):∀{l:List ResultVar} {ad:List V},cX r h (c' P an l)=some ad→(iS P an l).run cw h=some ad
 | [],ad,he=>by simpa [cX,c',iS] using he
 | .tmp t::rs,ad,he=>by
   simp only [c',cX] at he
   unfold iS
   cases ao:(Nat.ble t top&&Nat.blt t an) with
   | false=>rw [ao] at he;simp at he
   | true=>
     rw [ao] at he
     simp only [cond_true] at he ⊢
     cases aH:cX r h (c' P an rs) with
     | none=>rw [aH] at he;cases he
     | some tt=>
       rw [aH] at he
       rw [Aj dI aH]
       have:=congrFun dI t
       simp only [dC] at this
       rw [this]
       exact he
 | .cell a t::rs,ad,he=>by
   simp only [c',cX] at he
   unfold iS
   cases ao:(Nat.ble a top&&Nat.blt a an) with
   | false=>rw [ao] at he;simp at he
   | true=>
     rw [ao] at he
     simp only [cond_true] at he ⊢
     have MC:=congrFun dI a
     simp only [dC] at MC
     rw [MC]
     unfold nv
     cases aD:a7 P t with
     | none=>rw [aD] at he;simp at he
     | some aM=>
       rw [aD] at he
       simp only at he ⊢
       cases LZ:aM.agg with
       | true=>
         rw [LZ] at he
         simp only [cond_true] at he ⊢
         cases ai:lb aM.size h (r a) with
         | none=>rw [ai] at he;cases he
         | some v=>
           rw [ai] at he
           simp only at he ⊢
           cases aH:cX r h (c' P an rs) with
           | none=>rw [aH] at he;cases he
           | some tt=>rw [aH] at he;rw [Aj dI aH];exact he
       | false=>
         rw [LZ] at he
         simp only [cond_false] at he ⊢
         cases aQ:Nat.beq aM.size 1 with
         | false=>rw [aQ] at he;simp at he
         | true=>
           rw [aQ] at he
           simp only [cond_true] at he ⊢
           cases ai:lf h (r a) with
           | none=>rw [ai] at he;cases he
           | some v=>
             rw [ai] at he
             simp only at he ⊢
             cases aH:cX r h (c' P an rs) with
             | none=>rw [aH] at he;cases he
             | some tt=>rw [aH] at he;rw [Aj dI aH];exact he
theorem Bx:∀(l:List V) (t:Nat),aT.bq l t=(l[t]?).getD .bad
 | [],t=>by simp [aT.bq]
 | v::ad,t=>by
   simp only [aT.bq]
   cases t with
   | zero=>simp
   | succ t=>simp [Bx ad t]
def c6.ends:c6→Prop
 | .exit _=>False
 | _=>True
noncomputable def oB:List V→af→Option af
 | [],h=>some h
 | .ptr b _::ds,h=>(match h.get b with
   | .eu=>oB ds (h.set b .dead)
   | _=>none)
 | _::_,_=>none
theorem NA {iD:rK}:∀{ds:List V} {h ae:af},oB ds h=some ae→k' iD ds none h=.go none ae
 | [],h,ae,e=>by simp only [oB,Option.some.injEq] at e;subst e;rfl
 | d::ds,h,ae,e=>by
   cases d<;>simp only [oB] at e<;>try (cases e;done)
   rename_i b o
   simp only [k']
   cases aG:h.get b<;>rw [aG] at e<;>simp only at e<;>try (cases e;done)
   exact NA e
theorem KC (cO:P.follows .mixedOrders=true) (bx:dU P) {f:FuncId} {fn:Func} {c:Code} {args:List V} {h:af} {K:V→af→Prop} (ax:P.funcs[f]? =some fn) (ag:fn.body=some c)
 (fI:Nat.ble fn.ntmps top=true) (a6:Nat.beq f cR=false) (jG:Nat.ble args.length fn.ntmps=true) {rc:bF} {ey:List wu} (xE:cu P fn.ntmps c=rc) (sL:c' P fn.ntmps fn.results.toList=ey) {Q:c6→aT→af→Prop} (H:cr P rc (aT.bq args) h Q)
 (cP:∀e r ab,(rc.plain=true→r dX=.bad)→Q e r ab→e.ends∧∃ae,oB (r dX).list ab=some ae∧∃ad,cX r ae ey=some ad∧K (oneOf ad) ae):bM P f args h K:=by
 subst xE sL
 rw [Nat.ble_eq] at fI jG
 have aR:Out fn.ntmps (aT.bq args):=by
  intro t aD _
  rw [Bx,List.getElem?_eq_none (by omega)]
  rfl
 have MG:(aT.bq args) dX=.bad:=by
  rw [Bx,List.getElem?_eq_none (by unfold dX;unfold top at fI;omega)]
  rfl
 obtain ⟨e,bo,ab,aC,pI,Yz⟩:=IF fI cO bx c _ h _ aR H
 obtain ⟨e2,ae,Y9,ad,ZZ,dk⟩:=cP e bo ab (fun z=>(pI.2 z).trans MG) aC
 have gR:f≠cR:=fun e=>by subst e;simp at a6
 refine ⟨oneOf ad,ae,⟨gR,.inl ⟨⟨fn,ax,by rw [ag];rfl⟩,fun au E w xs ak s=>?_⟩⟩,dk⟩
 have hlen:=ak.length
 have b5:xs.toArray.size≤fn.ntmps:=by simp;omega
 refine qA.1 (callsIn_of_wp_marks (F:=bU none) (n:=0) ax ag trivial ?_)
 have k:iA E fn.ntmps (aT.bq args) {tmps:=xs.toArray++Array.replicate (fn.ntmps-xs.toArray.size) undef,defers:=[]}:=by
  refine ⟨by simp;omega,by rw [MG];simp [jy],fun t _=>?_⟩
  rw [Bx]
  cases aG:args[t]? with
  | none=>simp [Rel]
  | some v=>
    obtain ⟨y,a6,aH⟩:=ak.get t v aG
    simp only [Option.getD_some]
    have AZ:t<xs.length:=(List.getElem?_eq_some_iff.1 a6).1
    rw [Array.getD_eq_getD_getElem?,Array.getElem?_append_left (by simpa using AZ)]
    simp only [List.getElem?_toArray,a6,Option.getD_some]
    exact aH
 have jI:za P (fun _ _ _ _=>.fail):=fun f args u h fD ab he=>by cases he
 have fin:∀ar bg aj,E.le ar→iA ar fn.ntmps bo bg→a1 au ar ab aj→LeavesInM (bU none) 0 P fn bg.tmps (fun e aj=>∃ar x,e=.returned x∧E.le ar∧Rel ar (oneOf ad) x∧a1 au ar ae aj) bg.defers .returning aj:=by
  intro ar bg aj aq av aK
  obtain ⟨cw,dI⟩:=Ak pI.1
  have aX:T.get .bad ea cw=bo dX:=by
   have:=congrFun dI dX
   simp only [dC] at this
   exact this
  have aA:eA ar fn.ntmps cw bg:=⟨⟨av.size,fun t aD=>by
   have:=congrFun dI t
   simp only [dC] at this
   rw [this]
   exact av.aE t (vl aD)⟩,by rw [aX];exact av.defers⟩
  refine EU (C:=⟨P,fun _=>none,fun _=>none⟩) (u:=none) bx jI aA rfl aK ?_
  rw [aX,NA Y9]
  simp only [finish]
  rw [Aj dI ZZ]
  exact fun bQ x bK b2 cq dR=>⟨bQ,x,rfl,aq.trans b2,cq,dR⟩
 refine (Yz none au E _ w (.inl rfl) k s _ fun ar bg aj aq av aK=>?_).wp
 have:=fin ar bg aj aq av aK
 cases e with
 | normal=>exact this
 | ret=>exact this
 | exit i=>exact e2.elim
theorem OI:∀(bc:List Nat) (ad:List V) (cw:br),dC (p3 bc ad cw)=aT.rb bc ad (dC cw)
 | p::bc,v::ad,cw=>by
   rw [p3,aT.rb,OI bc ad]
   congr 1
   exact BV (some p) cw v
 | [],[],_=>rfl
 | [],_::_,_=>rfl
 | _::_,[],_=>rfl
theorem OJ:∀{bc:List Nat} {ad:List V} {r:aT},mB an bc=true→Out an r→Out an (aT.rb bc ad r)
 | p::bc,v::ad,r,ah,aR=>by
   simp only [mB,List.all_cons,Bool.and_eq_true] at ah
   exact OJ (r:=r.set (some p) v) ah.2 (aR.set (d:=some p) (by simp only [ew,Bool.and_eq_true];exact ah.1) v)
 | [],[],_,_,aR=>aR
 | [],_::_,_,_,aR=>aR
 | _::_,[],_,_,aR=>aR
theorem PH {bc:List Nat} {ad:List V} {r:aT} (ah:mB an bc=true) (aR:Out an r):Out an (mD bc ad r):=fun t aa ae=>by
 unfold mD
 simp only [aT.set]
 rw [if_neg ae]
 exact OJ ah aR t aa ae
theorem QR (fI:an≤top) (cO:P.follows .mixedOrders=true) (bx:dU P) {l:lu} {r:aT} {bc:List Nat} {yA B5:bF} {xs:List V} {b:aO} {h:af} {K:V→af→Prop} (F:wk P l an r bc yA B5) (aG:h.get b=.cY l) (ba:l.st=0) (hlen:xs.length=bc.length)
 (H:cr P yA (mD bc xs r) h fun e bz aa=>e=.normal∧aa.get b=.cY l∧cr P B5 bz (aa.set b (.cY (l.go 1 l.dK))) fun e bZ ae=>ae.get b=.cY (l.go 1 l.dK)∧(match e with
   | .normal=>K (.bool true) (ae.set b (.cY (l.go 0 none)))
   | e=>K (.bool false) (ae.set b (.cY (l.go 2 (some e)))))):wx P xs b h K:=by
 obtain ⟨zb,CM,CN,Q9,Q',CO,Q_,Ra,I4⟩:=F
 subst Q9 Q'
 obtain ⟨aN,bz,aa,⟨rfl,g1,cG⟩,c2,bs⟩:=IF fI cO bx l.assign _ h _ (PH CO I4) H
 obtain ⟨aY,bZ,ae,⟨g2,Rh⟩,cL,bN⟩:=IF fI cO bx l.body _ _ _ c2.1 cG
 obtain ⟨v,ab,e2,dk⟩:∃v ab,ti b aY ae=.val v ab∧K v ab:=by
  unfold ti
  rw [g2]
  cases aY<;>exact ⟨_,_,rfl,Rh⟩
 refine ⟨v,ab,fun au E w tW p ai s ah=>?_,dk⟩
 have ag:=s.at ah
 rw [aG] at ag
 obtain ⟨p',o,fK,cN,a',aH⟩:=ag
 rw [ah] at fK;cases fK
 obtain ⟨t1,t2,t3,t4,t5,t6,t7,t8⟩:=aH
 have jL:=ai.length
 have Gf:o.params.size=tW.length:=by rw [←Array.length_toList,t3,CN,←hlen,jL]
 refine ⟨o.fn,(o.params.zip tW.toArray).foldl (fun tmps (t,a)=>tmps.setIfInBounds t a) o.tmps,o.assign,o.body,?_,?_⟩
 · simp only [Instr.yield,Sem.run_bind,run_getLoop a',Result.andThen_ok]
   rw [if_neg (by simp [Gf])]
   rfl
 · rw [t4,t5]
   refine roundIn_of_wpIn (F:=bU none) trivial ?_
   have oy:RegRel0 E l.an l.r ⟨o.tmps,[]⟩:=⟨t6,t7⟩
   have wK:mB l.an o.params.toList=true:=by rw [t3,CN,zb];exact CO
   have cb:=Ph wK ai oy
   have k:iA E an (mD bc xs r) ⟨(o.params.zip tW.toArray).foldl (fun t (p:Nat × Value)=>t.setIfInBounds p.1 p.2) o.tmps,[]⟩:=by
    refine ⟨by rw [←zb];exact cb.size,by unfold mD;simp [aT.set,jy],fun t aD=>?_⟩
    by_cases ZQ:t≤top
    · have:=cb.aE t ZQ
      rw [t3,CN] at this
      have e:=congrFun (OI bc xs l.r) t
      rw [CM] at e
      unfold mD
      simp only [aT.set]
      rw [if_neg aD,←e]
      exact this
    · rw [PH CO I4 t (by omega) aD]
      simp [Rel]
   refine (bs (some p.a_) au E _ w (.inr Q_) k s (Exit.then (fun o9 qk=>∃yR,(Instr.beginRound p.a_).run P qk=.ok () yR∧
    l.body.wpIn (bU (some p.a_)) 0 P (roundPost P p.a_ fun e aj=>∃ar x,e=.returned x∧E.le ar∧Rel ar v x∧a1 au ar ab aj) o9 yR) (fun _ _ _=>False)) fun e9 bH bY aq av aK=>?_).wp
   have hb:=aq _ _ ah
   have ij:=aK.at hb
   rw [g1] at ij
   obtain ⟨b2,cM,xy,oc,og,pK⟩:=ij
   rw [hb] at xy;cases xy
   obtain ⟨dH,fW,y3,y4,IG,y6,ahr,ahs⟩:=pK
   obtain ⟨cm,z2⟩:=aK.loop (P:=P) (ec:=l.go 1 l.dK) (bX:={cM with state:=.busy}) g1 hb oc og ⟨rfl,fW,y3,y4,IG,y6,ahr,ahs⟩
   refine ⟨{bY with heap:=bY.heap.setIfInBounds p.a_ (.loop {cM with state:=.busy})},?_,?_⟩
   · have xF:cM.state=.ready:=by rw [dH,ba];rfl
     simp only [Instr.beginRound,Sem.run_bind,run_getLoop og,Result.andThen_ok,cm,xF,Sem.run_pure]
   · refine (bN (some p.a_) au e9 _ _ (.inr Ra) av z2 _ fun bQ a2 bK bm fu gz=>?_).wp
     exact PG gz (bm _ _ hb) e2 fun x aj tr yN=>⟨bQ,x,rfl,aq.trans bm,tr,yN⟩
theorem dO (cO:P.follows .mixedOrders=true) (bx:dU P) {f:FuncId} {fn:Func} {c:Code} {args:List V} {h:af} {K:V→af→Prop} (ax:P.funcs[f]? =some fn) (ag:fn.body=some c)
 (fI:Nat.ble fn.ntmps top=true) (a6:Nat.beq f cR=false) (jG:Nat.ble args.length fn.ntmps=true) {rc:bF} {ey:List wu} (xE:cu P fn.ntmps c=rc) (sL:c' P fn.ntmps fn.results.toList=ey) (h5:rc.plain=true)
 (H:cr P rc (aT.bq args) h fun e r ab=>e.ends∧∃ad,cX r ab ey=some ad∧K (oneOf ad) ab):bM P f args h K:=by
 refine KC cO bx ax ag fI a6 jG xE sL H fun e r ab aQ ⟨aa,ad,ae,aF⟩=>⟨aa,ab,?_,ad,ae,aF⟩
 rw [aQ h5]
 rfl
theorem KD (cO:P.follows .mixedOrders=true) (bx:dU P) {f:FuncId} {fn:Func} {c:Code} {args:List V} {h:af} {K:V→af→Prop} (ax:P.funcs[f]? =some fn) (ag:fn.body=some c)
 (fI:Nat.ble fn.ntmps top=true) (a6:Nat.beq f cR=false) (jG:Nat.ble args.length fn.ntmps=true) {rc:bF} {ey:List wu} (xE:cu P fn.ntmps c=rc) (sL:c' P fn.ntmps fn.results.toList=ey)
 (H:cr P rc (aT.bq args) h fun e r ab=>e.ends∧∃ae,oB (r dX).list ab=some ae∧∃ad,cX r ae ey=some ad∧K (oneOf ad) ae):bM P f args h K:=
 KC cO bx ax ag fI a6 jG xE sL H fun e r ab _ q=>q
end
end Go.Proofs.YtkehcalakofigaaGreatDoor.aS
namespace Go.Proofs.YtkehcalakofigaaGreatDoor.aS
variable [Lay]
open Go Go.RowKit
theorem p0 (i j:Nat):(ay i=ay j)=(i=j):=by
 apply propext
 exact ⟨fB,fun h=>by rw [h]⟩
theorem aeY (ad:List V):∀(i off:Nat) (x:V) (t:T V),i<off→T.put .bad x (ay i) (eQ t off ad)=eQ (T.put .bad x (ay i) t) off ad:=by
 induction ad with
 | nil=>intro i off x t _;rfl
 | cons v ad bf=>
   intro i off x t h
   simp only [eQ]
   rw [bf i (off+1) x _ (by omega),T.put_comm _ _ _ _ _ _ (fun e=>by rw [p0] at e;omega)]
def hB (ad:List V) (off:Nat) (ws:List V):List V:=ad.take off++ws++ad.drop (off+ws.length)
theorem Pm:∀(ad:List V) (base i:Nat) (x:V) (t:T V),i<ad.length→T.put .bad x (ay (base+i)) (eQ t base ad)=eQ t base (ad.set i x)
 | [],_,i,_,_,h=>by simp at h
 | v::ad,base,i,x,t,h=>by
   cases i with
   | zero=>
     simp only [eQ,Nat.add_zero,List.set]
     rw [aeY ad base (base+1) x _ (by omega),T.Pl]
   | succ i=>
     simp only [eQ,List.set]
     have:=Pm ad (base+1) i x (T.put .bad v (ay base) t) (by simpa using h)
     rw [show base + (i+1)=base+1+i from by omega]
     exact this
theorem PZ (ad:List V) (off:Nat) (w:V) (ws:List V) (h:off<ad.length):hB (ad.set off w) (off+1) ws=hB ad off (w::ws):=by
 unfold hB
 have aa:(ad.set off w).take (off+1)=ad.take off++[w]:=by
  rw [List.take_succ_eq_append_getElem (by simpa using h)]
  simp [List.take_set_of_le]
 have ae:(ad.set off w).drop (off+1+ws.length)=ad.drop (off + (w::ws).length):=by
  rw [List.drop_set_of_lt (by omega)]
  congr 1
  simp
  omega
 rw [aa,ae]
 simp
theorem Cm (ad:List V) (off:Nat) (ws:List V) (h:off+ws.length≤ad.length):(hB ad off ws).length=ad.length:=by
 unfold hB
 simp
 omega
theorem BW:∀(ws ad:List V) (off:Nat),off+ws.length≤ad.length→eQ (eQ .e 0 ad) off ws=eQ .e 0 (hB ad off ws)
 | [],ad,off,h=>by simp [eQ,hB]
 | w::ws,ad,off,h=>by
   simp only [List.length_cons] at h
   simp only [eQ]
   have aa:=Pm ad 0 off w .e (by omega)
   rw [Nat.zero_add] at aa
   rw [aa,BW ws (ad.set off w) (off+1) (by simp;omega),PZ ad off w ws (by omega)]
theorem w8 (ad:List V):∀(off i:Nat) (t:T V),T.get .bad (ay (off+i)) (eQ t off ad)=if i<ad.length then (ad[i]?).getD .bad else T.get .bad (ay (off+i)) t:=by
 induction ad with
 | nil=>intro off i t;simp [eQ]
 | cons v ad bf=>
   intro off i t
   simp only [eQ]
   cases i with
   | zero=>
     have:∀(ws:List V) (o:Nat) (s:T V),off<o→T.get .bad (ay off) (eQ s o ws)=T.get .bad (ay off) s:=by
      intro ws
      induction ws with
      | nil=>intro o s _;rfl
      | cons w ws aaf=>
        intro o s aR
        simp only [eQ]
        rw [aaf (o+1) _ (by omega),T.gF,if_neg (fun e=>by rw [p0] at e;omega)]
     rw [Nat.add_zero,this ad (off+1) _ (by omega),T.gF]
     simp
   | succ i=>
     have:=bf (off+1) i (T.put .bad v (ay off) t)
     rw [show off+1+i=off + (i+1) from by omega] at this
     rw [this,T.gF]
     have cZ:¬ay off=ay (off + (i+1)):=fun e=>by rw [p0] at e;omega
     rw [if_neg cZ]
     simp
theorem Ay (ad:List V):∀(n i:Nat),i+n≤ad.length→f_ (eQ .e 0 ad) i n=(ad.drop i).take n
 | 0,i,h=>by simp [f_]
 | n+1,i,h=>by
   simp only [f_]
   have aa:=w8 ad 0 i .e
   rw [Nat.zero_add] at aa
   rw [aa,if_pos (by omega),Ay ad n (i+1) (by omega)]
   have aX:ad.drop i=ad[i]::ad.drop (i+1):=List.drop_eq_getElem_cons (by omega)
   rw [aX,List.take_succ_cons]
   simp [List.getElem?_eq_getElem (by omega:i<ad.length)]
noncomputable def bW.bq (ad:List V) (cv:Nat) (st:Bool):bW:=.cells ad.length (eQ .e 0 ad) cv st
noncomputable def bW.ro (ad:List V):bW:=.view ad.length (eQ .e 0 ad)
def Rd (h:af) (b:aO) (ad:List V):Prop:=h.get b=.ro ad∨∃cv st,h.get b=.bq ad cv st
def Own (h:af) (b:aO) (ad:List V) (cv:Nat) (st:Bool):Prop:=h.get b=.bq ad cv st
theorem Rd.mE {α:Type} {h:af} {b:aO} {ad:List V} (H:Rd h b ad) (d:α) (f:Nat→T V→α):(h.get b).mE d f=f ad.length (eQ .e 0 ad):=by
 rcases H with H | ⟨_,_,H⟩<;>rw [H]<;>rfl
theorem Own.lay {h:af} {b:aO} {ad:List V} {cv:Nat} {st:Bool} (H:Own h b ad cv st) {off:Nat} {ws:List V} (aR:off+ws.length≤ad.length) (aa:ed ws=true):
 lay h b off ws=some (h.set b (.bq (hB ad off ws) cv st)):=by
 unfold aS.lay
 rw [show h.get b=.cells ad.length (eQ .e 0 ad) cv st from H]
 simp only [bW.on]
 rw [show Nat.ble (off+ws.length) ad.length=true from by rw [Nat.ble_eq];exact aR,aa]
 simp only [Bool.and_true,cond_true,Option.some.injEq,bW.bq]
 rw [Cm ad off ws aR,BW ws ad off aR]
theorem N7 {h:af} {ad:List V} (ai:ad.length≤top):fg h ad=some (h.new (.bq ad 0 false)):=by
 unfold fg
 rw [show Nat.ble ad.length top=true from by rw [Nat.ble_eq];exact ai]
 rfl
theorem Bo {h:af} {ad:List V} {cv:Nat} {st:Bool} (ai:ad.length≤top) (he:1≤cv):hf h ad cv st=some (h.new (.bq ad cv st)):=by
 unfold hf
 rw [show Nat.ble ad.length top=true from by rw [Nat.ble_eq];exact ai,show Nat.ble 1 cv=true from by rw [Nat.ble_eq];exact he]
 rfl
theorem e7 (h:af) (k:bW):(h.new k).next=h.next+1:=rfl
theorem nx (h:af) (b:aO) (k:bW):(h.set b k).next=h.next:=rfl
section
variable {P:Program} {r:aT} {h:af}
theorem afJ (r:aT) (d:Nat) (v:V) (t:Nat):aT.set r (some d) v t=if t=d then v else r t:=(rfl)
theorem afK (r:aT) (v:V):aT.set r none v=r:=(rfl)
theorem agN (r:aT) (u:Nat) (us:List Nat) (t:Nat):aT.trim r (u::us) t=if t=u then r t else aT.trim r us t:=(rfl)
theorem ad1 (v:V) (ad:List V):aT.bq (v::ad) 0=v:=(rfl)
theorem ad2 (v:V) (ad:List V) (t:Nat):aT.bq (v::ad) (t+1)=aT.bq ad t:=by simp [aT.bq]
theorem WN (r:aT) (n:Nat):aU.aW r (.t n)=r n:=(rfl)
theorem WM (r:aT) (v:V):aU.aW r (.c v)=v:=(rfl)
theorem Oh {d:Option Nat} {g:G} {rs:List Nat} {K:aT→V→af→Prop}:bA.wp P ⟨d,g,none,rs⟩ r h K=g.wp P (r.trim rs) h fun v ab=>K (r.set d v) v ab:=(rfl)
theorem Of {d:Option Nat} {g:G} {j:Nat} {want:Bool} {rs:List Nat} {K:aT→V→af→Prop}:bA.wp P ⟨d,g,some (j,want),rs⟩ r h K=
 gate (r.trim rs j) want (g.wp P (r.trim rs) h fun v ab=>K (r.set d v) v ab) (K (r.set d (.tuple [])) (.tuple []) h):=(rfl)
variable {K:V→af→Prop}
theorem n0 (k:IntKind):l_ k k=true:=by cases k<;>rfl
theorem mr (a b:Int):Int.leB a b=decide (a≤b):=nu a b
theorem EN (a b:Int):Int.fG a b=decide (a=b):=by rw [kh];rfl
variable (k:IntKind) (a b:Int)
theorem aaB:(d'.int .add).run P (.int k a) (.int k b)=some (.int k (k.wrap (a+b))):=by simp [d'.run,jT,ml,V.dJ,n0]
theorem abF:(d'.int .sub).run P (.int k a) (.int k b)=some (.int k (k.wrap (a-b))):=by simp [d'.run,jT,ml,V.dJ,n0]
theorem abl:(d'.int .mul).run P (.int k a) (.int k b)=some (.int k (k.wrap (a * b))):=by simp [d'.run,jT,ml,V.dJ,n0]
theorem aaW:(d'.int .eql).run P (.int k a) (.int k b)=some (.bool (decide (a=b))):=by simp [d'.run,jT,k8,V.dJ,n0,EN]
theorem abo:(d'.int .neq).run P (.int k a) (.int k b)=some (.bool (!decide (a=b))):=by simp [d'.run,jT,k8,V.dJ,n0,EN]
theorem abh:(d'.int .lss).run P (.int k a) (.int k b)=some (.bool (decide (a<b))):=by
 simp [d'.run,jT,k8,V.dJ,n0,mr]
 rw [Bool.eq_iff_iff];simp
theorem abe:(d'.int .leq).run P (.int k a) (.int k b)=some (.bool (decide (a≤b))):=by simp [d'.run,jT,k8,V.dJ,n0,mr]
theorem aa4:(d'.int .gtr).run P (.int k a) (.int k b)=some (.bool (decide (b<a))):=by
 simp [d'.run,jT,k8,V.dJ,n0,mr]
 rw [Bool.eq_iff_iff];simp
theorem aa3:(d'.int .geq).run P (.int k a) (.int k b)=some (.bool (decide (b≤a))):=by simp [d'.run,jT,k8,V.dJ,n0,mr]
theorem aaD (x y:Bool):(d'.uk false).run P (.bool x) (.bool y)=some (.bool (x == y)):=by simp [d'.run,hG,w1,nZ]
theorem aaH (x y:Bool):(d'.uk true).run P (.bool x) (.bool y)=some (.bool (!(x == y))):=by simp [d'.run,hG,w1,nZ]
theorem agX (x:Bool):oP .not (.bool x)=some (.bool (!x)):=(rfl)
theorem agW:oP .neg (.int k a)=some (.int k (k.wrap (0-a))):=(rfl)
theorem wrap_i64 {n:Int} (aa:-9223372036854775808≤n) (ae:n≤9223372036854775807):IntKind.i64.wrap n=n:=by
 exact Go.IntWalk.i64_in n ⟨aa,ae⟩
end
section
variable {P:Program} {r:aT} {h:af} {Q:c6→aT→af→Prop}
theorem Vq {ops:List bA}:cr P (.aE ops) r h Q=qj P ops r h (Q .normal):=(rfl)
theorem Vr {a b:bF}:cr P (.seq a b) r h Q=cr P a r h fun e bo ab=>e.andThen (cr P b bo ab Q) (Q e bo ab):=(rfl)
theorem agG {A B:Prop}:c6.andThen .normal A B=A:=(rfl)
theorem agH {A B:Prop}:c6.andThen .ret A B=B:=(rfl)
theorem agE {A B:Prop} {i:Nat}:c6.andThen (.exit i) A B=B:=(rfl)
theorem acT {id:Nat}:c6.leave id .normal=.normal:=(rfl)
theorem acU {id:Nat}:c6.leave id .ret=.ret:=(rfl)
theorem acS {id i:Nat}:c6.leave id (.exit i)=if i=id then .normal else .exit i:=(rfl)
end
end Go.Proofs.YtkehcalakofigaaGreatDoor.aS
namespace Go.Proofs.YtkehcalakofigaaGreatDoor.aS
variable [Lay]
open Go Go.RowKit
def tv {α:Type} (o:Option α) (k:α→Prop):Prop:=
 match o with
 | some v=>k v
 | none=>False
@[congr] theorem aiS {α:Type} {o bX:Option α} {k:α→Prop} (h:o=bX):tv o k=tv bX k:=by rw [h]
def V.opt (c:Bool) (v:V):V:=bif c then v else .tuple []
theorem aeu (v:V):V.opt true v=v:=(rfl)
theorem aer (v:V):V.opt false v=.tuple []:=(rfl)
@[congr] theorem aiD {c eM:Bool} {v eh:V} (h:c=eM) (bp:eM=true→v=eh):V.opt c v=V.opt eM eh:=by
 subst h
 cases c with
 | true=>rw [bp rfl]
 | false=>rfl
def V.bif (t:Bool) (a b:V):V:=bif t then a else b
theorem ag1 (a b:V):V.bif true a b=a:=(rfl)
theorem ag0 (a b:V):V.bif false a b=b:=(rfl)
theorem SK (t a b:Bool):V.bif t (.bool a) (.bool b)=.bool (bif t then a else b):=by cases t<;>rfl
theorem SL (t:Bool) (k:IntKind) (a b:Int):V.bif t (.int k a) (.int k b)=.int k (if t=true then a else b):=by cases t<;>rfl
theorem SN (t x:Bool):(bif t then true else x)=(t||x):=by cases t<;>rfl
theorem SJ (t x:Bool):(bif t then x else false)=(t&&x):=by cases t<;>rfl
@[congr] theorem ahG {t tn:Bool} {a bg b bC:V} (h:t=tn) (bn:tn=true→a=bg) (ag:tn=false→b=bC):V.bif t a b=V.bif tn bg bC:=by
 subst h
 cases t with
 | true=>rw [V.bif,V.bif,bn rfl];rfl
 | false=>rw [V.bif,V.bif,ag rfl];rfl
def ep (c:Bool) (A:Prop):Prop:=c=true→A
@[congr] theorem ahz {c eM:Bool} {A ib:Prop} (h:c=eM) (bn:eM=true→A=ib):ep c A=ep eM ib:=by
 subst h
 exact propext ⟨fun q e=>(bn e) ▸ q e,fun q e=>(bn e) ▸ q e⟩
theorem Rj (c:Bool):ep c True=True:=propext ⟨fun _=>trivial,fun _ _=>trivial⟩
theorem Rl (A:Prop):ep true A=A:=propext ⟨fun q=>q rfl,fun q _=>q⟩
theorem Rk (A:Prop):ep false A=True:=propext ⟨fun _=>trivial,fun _ e=>by cases e⟩
def took (v:V) (want:Bool):Bool:=
 match v with
 | .bool b=>b == want
 | _=>false
theorem agK (b w:Bool):took (.bool b) w=(b == w):=(rfl)
theorem agM (ad:List V) (w:Bool):took (.tuple ad) w=false:=(rfl)
theorem agL (c:Bool) (v:V) (w:Bool):took (.opt c v) w=(c&&took v w):=by cases c<;>rfl
def eP (v:V):Prop:=
 match v with
 | .bool _=>True
 | .tuple _=>True
 | _=>False
theorem aat (b:Bool):eP (.bool b)=True:=(rfl)
theorem aav (ad:List V):eP (.tuple ad)=True:=(rfl)
theorem aau (c b:Bool):eP (.opt c (.bool b))=True:=by cases c<;>rfl
def G.mm:G→Bool
 | .dp _ | .pick .. | .build .. | .fS _ | .im .. | .q8 _ | .bin .. | .un .. | .fn .. | .x_ .. | .zE .. | .pQ .. | .oM .. | .e8 .. | .fw .. | .sb .. | .sc .. | .c0 .. | .qU .. | .jU .. | .h7 .. | .look .. | .ext .. | .vj _ | .dF _=>true
 | .ho (.int _) _=>true
 | .len .map _=>false
 | .len _ _=>true
 | _=>false
def V.pZ {α:Type} (v:V) (d:α) (f:List V→α):α:=
 match v with
 | .agg cs=>f cs
 | _=>d
def V.yk {α:Type} (v:V) (d:α) (f:List V→α):α:=
 match v with
 | .tuple cs=>f cs
 | _=>d
def yu (c a b:V):Option V:=
 match c with
 | .bool t=>some (V.bif t a b)
 | _=>none
theorem aeJ (t:Bool) (a b:V):yu (.bool t) a b=some (V.bif t a b):=(rfl)
def p9 (n:Nat) (x:V) (bG az m3:Option V):Option V:=
 match x with
 | .b4=>Ch bG az m3
 | .slice b off s0 cap=>rr n b off s0 cap bG az m3
 | .dV b off s0 idx=>vJ n b off s0 idx bG az m3
 | .fO b off lT idx=>Ci b off lT idx bG az m3
 | _=>none
noncomputable def G.j3 (P:Program) (g:G) (r:aT) (h:af):Option V:=
 match g with
 | .dp x=>some (x.aW r)
 | .pick c a b=>yu (c.aW r) (a.aW r) (b.aW r)
 | .build z bc=>(match hq z (iG r bc) with
   | some cs=>some (.agg cs)
   | none=>none)
 | .fS x=>lf h (x.aW r)
 | .im n x=>lb n h (x.aW r)
 | .q8 x=>q7 (x.aW r)
 | .bin k x y=>k.run P (x.aW r) (y.aW r)
 | .un op x=>oP op (x.aW r)
 | .ho (.int k) x=>(x.aW r).dJ none fun _ n=>some (.int k (k.wrap n))
 | .fn f dY=>some (.func f (aU.eV r dY))
 | .x_ f first=>some (.kz f (aU.eV r first))
 | .zE t z ok x=>wC t z ok (x.aW r)
 | .pQ t x=>some (.iface t (x.aW r))
 | .oM x bG az m3=>kD (x.aW r) (aU.opt r bG) (aU.opt r az) (aU.opt r m3)
 | .e8 n x bG az m3=>p9 n (x.aW r) (aU.opt r bG) (aU.opt r az) (aU.opt r m3)
 | .fw off x=>(x.aW r).hQ none fun b o=>some (.ptr b (o+off))
 | .sb off x=>(x.aW r).pZ none fun cs=>cs[off]?
 | .sc off n x=>(x.aW r).pZ none fun cs=>some (.agg ((cs.drop off).take n))
 | .c0 n x i=>(sS n).run (x.aW r) (i.aW r)
 | .qU n s x i=>(pS n s).run (x.aW r) (i.aW r)
 | .jU x i=>pU.run (x.aW r) (i.aW r)
 | .h7 t x i=>(pT P t).run (x.aW r) (i.aW r)
 | .look k z ok x i=>iq k.eq z ok h (x.aW r) (i.aW r)
 | .ext x i=>(x.aW r).yk none fun ad=>ad[i]?
 | .len (.arr n) _=>some (.int .i64 n)
 | .len .str x=>(mu .string).run (x.aW r)
 | .len .slice x=>(mu (.slice 0)).run (x.aW r)
 | .vj args=>iQ (fun b a=>!Int.leB a b) (aU.eV r args)
 | .dF args=>iQ (fun b a=>!Int.leB b a) (aU.eV r args)
 | _=>none
section
variable {P:Program} {r:aT} {h:af}
theorem pure_run {g:G} (ah:g.mm=true) (call:dc):g.run P call r h=aV.of h (g.j3 P r h):=by
 cases g<;>simp only [G.mm] at ah<;>try (cases ah;done)
 all_goals simp only [G.run,G.j3]
 case dp x=>rfl
 case pick c a b=>
  generalize c.aW r=q
  cases q<;>rfl
 case build z bc=>
  generalize hq z (iG r bc)=q
  cases q<;>rfl
 case ho k x=>
  cases k<;>simp only at ah<;>try (cases ah;done)
  simp only [qn.run]
  generalize x.aW r=q
  cases q<;>rfl
 case fn f dY=>rfl
 case x_ f first=>rfl
 case pQ t x=>rfl
 case e8 n x bG az m3=>
  unfold p9
  generalize x.aW r=q
  cases q<;>rfl
 case sb off x=>
  generalize x.aW r=q
  cases q<;>rfl
 case sc off n x=>
  generalize x.aW r=q
  cases q<;>rfl
 case ext x i=>
  generalize x.aW r=q
  cases q<;>rfl
 case len k x=>
  cases k<;>simp only at ah<;>first | rfl | (cases ah;done)
theorem LB {g:G} (ah:g.mm=true) {K:V→af→Prop}:g.wp P r h K=tv (g.j3 P r h) fun v=>K v h:=by
 have e:g.wp P r h K=∃v ab,g.run P js r h=.val v ab∧K v ab:=by
  cases g<;>first | rfl | (simp [G.mm] at ah;done)
 rw [e,pure_run ah]
 apply propext
 cases bp:g.j3 P r h with
 | none=>exact ⟨fun ⟨v,ab,q,_⟩=>(by cases q),fun q=>q.elim⟩
 | some v=>
   constructor
   · rintro ⟨v1,aa,q,k⟩
     simp only [aV.of,aV.val.injEq] at q
     obtain ⟨rfl,rfl⟩:=q
     exact k
   · intro k
     exact ⟨v,h,rfl,k⟩
theorem Oi {d:Option Nat} {g:G} {rs:List Nat} {K:aT→V→af→Prop} (ah:g.mm=true):bA.wp P ⟨d,g,none,rs⟩ r h K=tv (g.j3 P (r.trim rs) h) fun v=>K (r.set d v) v h:=by
 rw [Oh,LB ah]
theorem Og {d:Option Nat} {g:G} {j:Nat} {want:Bool} {rs:List Nat} {K:aT→V→af→Prop} (ah:g.mm=true):bA.wp P ⟨d,g,some (j,want),rs⟩ r h K=
 (eP (r.trim rs j)∧ep (took (r.trim rs j) want) ((g.j3 P (r.trim rs) h).isSome=true)∧
   K (r.set d (V.opt (took (r.trim rs j) want) ((g.j3 P (r.trim rs) h).getD .bad))) (V.opt (took (r.trim rs j) want) ((g.j3 P (r.trim rs) h).getD .bad)) h):=by
 rw [Of,LB ah]
 generalize r.trim rs j=q
 generalize g.j3 P (r.trim rs) h=o
 apply propext
 cases q<;>simp only [gate,eP,took,false_and,true_and]
 case bool b=>
  cases b<;>cases want<;>cases o<;>simp [tv,ep,V.opt]
 case tuple ad=>simp [ep,V.opt]
@[congr] theorem aiW {os:List bA} {r bo:aT} {h ab:af} {K:aT→af→Prop} (aN:r=bo) (aY:h=ab):qj P os r h K=qj P os bo ab K:=by rw [aN,aY]
@[congr] theorem aiU {os:List bA} {r bo:aT} {h ab:af} {K:List e'→aT→af→Prop} (aN:r=bo) (aY:h=ab):jx P os r h K=jx P os bo ab K:=by rw [aN,aY]
@[congr] theorem ahx {o:bA} {r bo:aT} {h ab:af} {K:aT→V→af→Prop} (aN:r=bo) (aY:h=ab):o.wp P r h K=o.wp P bo ab K:=by rw [aN,aY]
@[congr] theorem ahy {g:G} {r bo:aT} {h ab:af} {K:V→af→Prop} (aN:r=bo) (aY:h=ab):g.wp P r h K=g.wp P bo ab K:=by rw [aN,aY]
@[congr] theorem aiT {c:bF} {r bo:aT} {h ab:af} {Q:c6→aT→af→Prop} (aN:r=bo) (aY:h=ab):cr P c r h Q=cr P c bo ab Q:=by rw [aN,aY]
@[congr] theorem ahw {f:FuncId} {a bg:List V} {h ab:af} {K:V→af→Prop} (aN:a=bg) (aY:h=ab):bM P f a h K=bM P f bg ab K:=by rw [aN,aY]
noncomputable def hd (k:bW) (off:Nat):Option V:=k.mE none fun n cs=>bif Nat.blt off n then some (T.get .bad (ay off) cs) else none
noncomputable def lO (n:Nat) (k:bW) (off:Nat):Option V:=k.mE none fun m cs=>bif Nat.ble (off+n) m then some (.agg (f_ cs off n)) else none
theorem ac_ (b:aO) (off:Nat):lf h (.ptr b off)=hd (h.get b) off:=(rfl)
theorem adb (n:Nat) (b:aO) (off:Nat):lb n h (.ptr b off)=lO n (h.get b) off:=(rfl)
theorem Nx {ad:List V} {off:Nat}:(bif Nat.blt off ad.length then some (T.get .bad (ay off) (eQ .e 0 ad)) else none)=ad[off]? :=by
 have:=w8 ad 0 off .e
 rw [Nat.zero_add] at this
 rw [this]
 by_cases aR:off<ad.length
 · rw [show Nat.blt off ad.length=true from by rw [Nat.blt_eq];exact aR,if_pos aR]
   simp [List.getElem?_eq_getElem aR]
 · rw [show Nat.blt off ad.length=false from by rw [←Bool.not_eq_true,Nat.blt_eq];exact aR]
   rw [List.getElem?_eq_none (by omega)]
   rfl
theorem Nv (ad:List V) (cv:Nat) (st:Bool) (off:Nat):hd (.bq ad cv st) off=ad[off]? :=Nx
theorem Nw (ad:List V) (off:Nat):hd (.ro ad) off=ad[off]? :=Nx
theorem Nz {ad:List V} {off n:Nat}:(bif Nat.ble (off+n) ad.length then some (V.agg (f_ (eQ .e 0 ad) off n)) else none)=if off+n≤ad.length then some (.agg ((ad.drop off).take n)) else none:=by
 by_cases aR:off+n≤ad.length
 · rw [show Nat.ble (off+n) ad.length=true from by rw [Nat.ble_eq];exact aR,if_pos aR,Ay ad n off aR]
   rfl
 · rw [show Nat.ble (off+n) ad.length=false from by rw [←Bool.not_eq_true,Nat.ble_eq];exact aR,if_neg aR]
   rfl
theorem Bf (n:Nat) (ad:List V) (cv:Nat) (st:Bool) (off:Nat):lO n (.bq ad cv st) off=if off+n≤ad.length then some (.agg ((ad.drop off).take n)) else none:=Nz
theorem Ny (n:Nat) (ad:List V) (off:Nat):lO n (.ro ad) off=if off+n≤ad.length then some (.agg ((ad.drop off).take n)) else none:=Nz
theorem Rd.fS {b:aO} {ad:List V} (H:Rd h b ad) (off:Nat):hd (h.get b) off=ad[off]? :=by
 rcases H with H | ⟨_,_,H⟩<;>rw [H]
 · exact Nw ad off
 · exact Nv ad _ _ off
theorem Rd.im {b:aO} {ad:List V} (H:Rd h b ad) (n off:Nat):lO n (h.get b) off=if off+n≤ad.length then some (.agg ((ad.drop off).take n)) else none:=by
 rcases H with H | ⟨_,_,H⟩<;>rw [H]
 · exact Ny n ad off
 · exact Bf n ad _ _ off
def over:List V→List V→List V
 | ad,[]=>ad
 | [],_::_=>[]
 | _::ad,w::ws=>w::over ad ws
def mF:List V→Nat→List V→List V
 | ad,0,ws=>over ad ws
 | [],_+1,_=>[]
 | v::ad,n+1,ws=>v::mF ad n ws
theorem OD:∀(ad ws:List V),ws.length≤ad.length→over ad ws=ws++ad.drop ws.length
 | ad,[],_=>by cases ad<;>rfl
 | [],_::_,h=>by simp at h
 | v::ad,w::ws,h=>by
   simp only [over,List.cons_append,List.length_cons,List.drop_succ_cons]
   rw [OD ad ws (by simpa using h)]
theorem Cl:∀(ad:List V) (off:Nat) (ws:List V),off+ws.length≤ad.length→mF ad off ws=hB ad off ws
 | ad,0,ws,h=>by
   cases ad<;>simp only [mF,hB,List.take_zero,List.nil_append,Nat.zero_add]<;>exact OD _ ws (by omega)
 | [],n+1,ws,h=>by simp at h
 | v::ad,n+1,ws,h=>by
   simp only [List.length_cons] at h
   simp only [mF,hB]
   rw [Cl ad n ws (by omega)]
   simp only [hB,List.take_succ_cons,List.cons_append]
   rw [show n+1+ws.length=n+ws.length+1 from by omega,List.drop_succ_cons]
theorem aga (ad:List V) (off:Nat) (ws:List V) (h:off+ws.length≤ad.length):(mF ad off ws).length=ad.length:=by
 rw [Cl ad off ws h,Cm ad off ws h]
noncomputable def x3 (n:Nat) (h:af) (b:aO) (off:Nat) (y:V) (k:bW):Option af:=
 bif Nat.beq y.cells.length n then k.on none fun m cs cv st=>
  bif Nat.ble (off+y.cells.length) m&&ed y.cells then some (h.set b (.cells m (eQ cs off y.cells) cv st)) else none else none
theorem agk (n:Nat) (b:aO) (off:Nat) (y:V):tl n h (.ptr b off) y=x3 n h b off y (h.get b):=(rfl)
theorem acE {n:Nat} {b:aO} {off:Nat} {y:V} {ad:List V} {cv:Nat} {st:Bool} (aa:y.cells.length=n) (ae:ed y.cells=true) (aF:off+n≤ad.length):
 x3 n h b off y (.bq ad cv st)=some (h.set b (.bq (mF ad off y.cells) cv st)):=by
 unfold x3
 rw [show Nat.beq y.cells.length n=true from by rw [Nat.beq_eq];exact aa]
 simp only [cond_true,bW.bq,bW.on]
 rw [show Nat.ble (off+y.cells.length) ad.length=true from by rw [Nat.ble_eq,aa];exact aF,ae]
 simp only [Bool.and_true,cond_true,Option.some.injEq]
 rw [aga ad off _ (by rw [aa];exact aF),Cl ad off _ (by rw [aa];exact aF),BW _ ad off (by rw [aa];exact aF)]
theorem mV (k:bW):(h.new k).get (ay h.next)=k:=by rw [af.gE,if_pos rfl]
theorem gE (b:aO) (k:bW):(h.new k).get b=if ay h.next=b then k else h.get b:=af.gE h b k
theorem di (b bC:aO) (k:bW):(h.set b k).get bC=if b=bC then k else h.get bC:=af.di h b bC k
def Old (h:af) (b:aO):Prop:=b8 b<h.next
theorem s_:∀b:aO,ay (b8 b)=b:=by
 have key:∀(b:aO) (d:Nat),b8 b+1<2 ^ d→ra d (b8 b)=b:=by
  intro b
  induction b with
  | z=>intro d aX;cases d<;>rfl
  | l p bf=>
    intro d aX
    cases d with
    | zero=>simp [b8] at aX
    | succ d=>
      have ae:2 ^ (d+1)=2 * 2 ^ d:=by rw [Nat.pow_succ];omega
      rw [ae] at aX
      simp only [b8] at aX ⊢
      simp only [ra,fY]
      rw [if_neg (by omega),if_pos (by omega),show (2 * b8 p+1) / 2=b8 p from by omega,bf d (by omega)]
  | r p bf=>
    intro d aX
    cases d with
    | zero=>simp [b8] at aX
    | succ d=>
      have ae:2 ^ (d+1)=2 * 2 ^ d:=by rw [Nat.pow_succ];omega
      rw [ae] at aX
      simp only [b8] at aX ⊢
      simp only [ra,fY]
      rw [if_neg (by omega),if_neg (by omega),show (2 * b8 p+2) / 2-1=b8 p from by omega,bf d (by omega)]
 intro b
 exact key b _ Nat.lt_log2_self
theorem Hs {b:aO} {i:Nat} (ag:Old h b) (az:h.next≤i):(ay i=b)=False:=by
 apply propext
 constructor
 · intro e
   unfold Old at ag
   rw [←e,c4] at ag
   omega
 · exact False.elim
theorem Oq {k:bW}:Old (h.new k) (ay h.next):=by unfold Old;rw [c4];exact Nat.lt_succ_self _
def Al (off:Nat) (x:V):Option V:=x.hQ none fun b o=>some (.ptr b (o+off))
theorem WT (off:Nat) (b:aO) (o:Nat):Al off (.ptr b o)=some (.ptr b (o+off)):=(rfl)
theorem ad8 {α:Type} (ad:List V) (d:α) (f:List V→α):V.yk (.tuple ad) d f=f ad:=(rfl)
theorem ad7 {α:Type} (ad:List V) (d:α) (f:List V→α):V.pZ (.agg ad) d f=f ad:=(rfl)
def jo (x:V):Option V:=(mu (.slice 0)).run x
theorem acZ (b:aO) (off n c:Nat):jo (.slice b off n c)=some (.int .i64 n):=(rfl)
theorem acX (b:aO) (off n c:Nat):jo (.dV b off n c)=some (.int .i64 n):=(rfl)
theorem ac0 (b:aO) (off n c:Nat):jo (.fO b off n c)=some (.int .i64 0):=(rfl)
theorem acY:jo .b4=some (.int .i64 0):=(rfl)
def Bg (x:V):Option V:=(mu .string).run x
theorem ac1 (s:List UInt8):Bg (.str s)=some (.int .i64 s.length):=(rfl)
def jj (n:Nat) (x i:V):Option V:=(sS n).run x i
theorem MZ (n:Nat) (b:aO) (off len cap:Nat) (k:IntKind) (i:Int):jj n (.slice b off len cap) (.int k i)=if 0≤i∧i<len then some (.ptr b (off+i.toNat * n)) else none:=by
 simp only [jj,sS,V.dJ,qW,mr]
 by_cases aa:0≤i<;>by_cases ae:(len:Int)≤i<;>simp [aa,ae]<;>omega
theorem MY (n:Nat) (b:aO) (off len cap:Nat) (k:IntKind) (i:Int):jj n (.dV b off len cap) (.int k i)=if 0≤i∧i<len then some (.ptr b (off+i.toNat * n)) else none:=by
 simp only [jj,sS,V.dJ,qW,mr]
 by_cases aa:0≤i<;>by_cases ae:(len:Int)≤i<;>simp [aa,ae]<;>omega
def z6 (k:IntKind) (x:V):Option V:=x.dJ none fun _ n=>some (.int k (k.wrap n))
theorem Wd (k bl:IntKind) (n:Int):z6 k (.int bl n)=some (.int k (k.wrap n)):=(rfl)
end
end Go.Proofs.YtkehcalakofigaaGreatDoor.aS
namespace Go.Proofs.YtkehcalakofigaaGreatDoor.aS
variable [Lay]
open Go Go.RowKit
structure gW where
 all:List bA
 asks:List (Nat × List Nat)
 es:List e'
def hy (D:Option gW) (r:aT) (h:af) (v:V):Option gW:=
 match D with
 | none=>none
 | some d=>some ⟨d.all,d.asks,d.es++[⟨r,h,v⟩]⟩
inductive gK where
 | os (D:Option gW) (os:List bA)
 | c (b:bF)
 | a_ (id:Nat)
section
variable (P:Program)
noncomputable def rX (D:Option gW) (es:List e') (ax:af):Prop:=
 match D with
 | none=>True
 | some d=>mO P d.all (d.es++es) ax d.asks
noncomputable def bk:List gK→c6→aT→af→(c6→aT→af→Prop)→Prop
 | [],e,r,h,Q=>Q e r h
 | .os D os::aI,e,r,h,Q=>match e with
   | .normal=>jx P os r h fun es bo ab=>rX P D es ab∧bk aI .normal bo ab Q
   | e=>bk aI e r h Q
 | .c b::aI,e,r,h,Q=>match e with
   | .normal=>cr P b r h fun e bo ab=>bk aI e bo ab Q
   | e=>bk aI e r h Q
 | .a_ id::aI,e,r,h,Q=>bk aI (e.leave id) r h Q
noncomputable def c_ (o:Option V) (d:Option Nat) (D:Option gW) (os:List bA) (aI:List gK) (r:aT) (h:af) (Q:c6→aT→af→Prop):Prop:=
 tv o fun v=>bk P (.os (hy D r h v) os::aI) .normal (r.set d v) h Q
noncomputable def ia (o:aV) (d:Option Nat) (D:Option gW) (os:List bA) (aI:List gK) (r:aT) (ba:af) (Q:c6→aT→af→Prop):Prop:=
 match o with
 | .val v h=>bk P (.os (hy D r ba v) os::aI) .normal (r.set d v) h Q
 | _=>False
noncomputable def fc (v:V) (want:Bool) (d:Option Nat) (g:G) (rs:List Nat) (D:Option gW) (os:List bA) (aI:List gK) (r:aT) (h:af) (Q:c6→aT→af→Prop):Prop:=
 gate v want (bk P (.os D (⟨d,g,none,rs⟩::os)::aI) .normal r h Q) (bk P (.os (hy D r h (.tuple [])) os::aI) .normal (r.set d (.tuple [])) h Q)
noncomputable def t_ (v:V) (a b:bF) (aI:List gK) (r:aT) (h:af) (Q:c6→aT→af→Prop):Prop:=
 match v with
 | .bool t=>(t=true→bk P (.c a::aI) .normal r h Q)∧(t=false→bk P (.c b::aI) .normal r h Q)
 | _=>False
noncomputable def nW (f:FuncId) (args:List V) (d:Option Nat) (D:Option gW) (os:List bA) (aI:List gK) (r:aT) (h:af) (Q:c6→aT→af→Prop):Prop:=
 bM P f args h fun v ab=>bk P (.os (hy D r h v) os::aI) .normal (r.set d v) ab Q
noncomputable def Cx (xs:List V) (d:Option Nat) (D:Option gW) (os:List bA) (aI:List gK) (r:aT) (h:af) (Q:c6→aT→af→Prop):Prop:=
 Jy P xs h fun v ab=>bk P (.os (hy D r h v) os::aI) .normal (r.set d v) ab Q
noncomputable def Er (g:FuncId) (xs:List V) (d:Option Nat) (D:Option gW) (os:List bA) (aI:List gK) (r:aT) (h:af) (Q:c6→aT→af→Prop):Prop:=
 if g=4294967296 then Cx P xs d D os aI r h Q else nW P g xs d D os aI r h Q
noncomputable def t' (f:V) (args:List V) (d:Option Nat) (D:Option gW) (os:List bA) (aI:List gK) (r:aT) (h:af) (Q:c6→aT→af→Prop):Prop:=
 ∃g xs,f.target args=some (g,xs)∧Er P g xs d D os aI r h Q
noncomputable def ve (b:bF) (aI:List gK) (r:aT) (h:af) (Q:c6→aT→af→Prop):Prop:=cr P (.loop b) r h fun e bo ab=>bk P aI e bo ab Q
end
section
variable {P:Program} {r:aT} {h:af} {Q:c6→aT→af→Prop} {aI:List gK} {os:List bA} {D:Option gW}
theorem aeT (r:aT) (h:af) (v:V):hy none r h v=none:=(rfl)
theorem aeU (all:List bA) (asks:List (Nat × List Nat)) (es:List e') (r:aT) (h:af) (v:V):hy (some ⟨all,asks,es⟩) r h v=some ⟨all,asks,es++[⟨r,h,v⟩]⟩:=(rfl)
theorem dt {c:bF} (H:bk P [.c c] .normal r h Q):cr P c r h Q:=H
theorem abq {e:c6}:bk P [] e r h Q=Q e r h:=(rfl)
theorem aaF {e:c6} {id:Nat}:bk P (.a_ id::aI) e r h Q=bk P aI (e.leave id) r h Q:=(rfl)
theorem abz {a b:bF}:bk P (.c (.seq a b)::aI) .normal r h Q=bk P (.c a::.c b::aI) .normal r h Q:=by
 simp only [bk]
 rw [Vr]
 congr 1
 funext e bo ab
 cases e<;>rfl
theorem aaG {id:Nat} {b:bF}:bk P (.c (.block id b)::aI) .normal r h Q=bk P (.c b::.a_ id::aI) .normal r h Q:=(rfl)
theorem QK:∀(os:List bA) (r:aT) (h:af) (K:aT→af→Prop),jx P os r h (fun _ r h=>K r h)=qj P os r h K
 | [],_,_,_=>rfl
 | o::os,r,h,K=>by
   simp only [jx,qj]
   congr 1
   funext bo v ab
   exact QK os bo ab K
theorem abw {ops:List bA}:bk P (.c (.aE ops)::aI) .normal r h Q=bk P (.os none ops::aI) .normal r h Q:=by
 simp only [bk,rX,true_and]
 rw [QK,Vq]
theorem abB:bk P (.c .skip::aI) .normal r h Q=bk P aI .normal r h Q:=(rfl)
theorem abx:bk P (.c .ret::aI) .normal r h Q=bk P aI .ret r h Q:=(rfl)
theorem aaX {i:Nat}:bk P (.c (.exit i)::aI) .normal r h Q=bk P aI (.exit i) r h Q:=(rfl)
theorem aaP {b:bF}:bk P (.c b::aI) .ret r h Q=bk P aI .ret r h Q:=(rfl)
theorem aaM {b:bF} {i:Nat}:bk P (.c b::aI) (.exit i) r h Q=bk P aI (.exit i) r h Q:=(rfl)
theorem aaN {c:aU} {a b:bF}:bk P (.c (.cond c a b)::aI) .normal r h Q=t_ P (c.aW r) a b aI r h Q:=by
 simp only [bk,cr]
 cases c.aW r<;>rfl
theorem Pq {f:aU} {bc:List Nat} {an:Nat} {a b:bF} {g:FuncId} {cs:List V} (bp:f.aW r=.func g cs) (aG:g≠cR) (ag:∃fn,P.funcs[g]? =some fn∧fn.body.isSome=true)
 (H:∀l,wk P l an r bc a b→l.st=0→l.dK=none→bM P g (.func cR [.ptr (ay (h.next+1)) 0]::cs) ((h.new .eu).new (.cY l)) fun _ ab=>
   ∃ec,ab.get (ay (h.next+1))=.cY ec∧ec.st≠1∧bk P aI (ec.dK.getD .normal) (r.set (some dX) (.tuple (.ptr (ay h.next) 0::(r dX).list))) (ab.set (ay (h.next+1)) .dead) Q):
 bk P (.c (.range f bc an a b)::aI) .normal r h Q:=by
 simp only [bk,cr]
 exact ⟨g,cs,bp,aG,ag,H⟩
theorem abg {b:bF}:bk P (.c (.loop b)::aI) .normal r h Q=ve P b aI r h Q:=(rfl)
theorem aaV {ops:List bA} {asks:List (Nat × List Nat)}:bk P (.c (.draw ops asks)::aI) .normal r h Q=bk P (.os (some ⟨ops,asks,[]⟩) ops::aI) .normal r h Q:=(rfl)
theorem abu:bk P (.os none []::aI) .normal r h Q=bk P aI .normal r h Q:=by
 simp only [bk,jx,rX,true_and]
theorem aaU {all:List bA} {asks:List (Nat × List Nat)} {es:List e'}:bk P (.os (some ⟨all,asks,es⟩) []::aI) .normal r h Q=(mO P all es h asks∧bk P aI .normal r h Q):=by
 simp only [bk,jx,rX,List.append_nil]
theorem tU (D:Option gW) (r:aT) (h:af) (v:V) (es:List e') (ax:af):rX P (hy D r h v) es ax=rX P D (⟨r,h,v⟩::es) ax:=by
 cases D with
 | none=>rfl
 | some d=>simp only [hy,rX,List.append_assoc,List.cons_append,List.nil_append]
theorem gf {d:Option Nat} {g:G} {rs:List Nat} (ah:g.mm=true):bk P (.os D (⟨d,g,none,rs⟩::os)::aI) .normal r h Q=c_ P (g.j3 P (r.trim rs) h) d D os aI r h Q:=by
 simp only [bk,jx,c_]
 rw [Oi ah]
 simp only [tU]
theorem gd {d:Option Nat} {g:G} {j:Nat} {want:Bool} {rs:List Nat} (ah:g.mm=true):bk P (.os D (⟨d,g,some (j,want),rs⟩::os)::aI) .normal r h Q=
 (eP (r.trim rs j)∧ep (took (r.trim rs j) want) ((g.j3 P (r.trim rs) h).isSome=true)∧
   c_ P (some (V.opt (took (r.trim rs j) want) ((g.j3 P (r.trim rs) h).getD .bad))) d D os aI r h Q):=by
 simp only [bk,jx,c_,tv]
 rw [Og ah]
 simp only [tU]
def G.Nb:G→Bool
 | .call .. | .kO .. =>true
 | _=>false
theorem ky {d:Option Nat} {g:G} {rs:List Nat} (ah:g.mm=false) (ao:g.Nb=false):bk P (.os D (⟨d,g,none,rs⟩::os)::aI) .normal r h Q=ia P (g.run P js (r.trim rs) h) d D os aI r h Q:=by
 simp only [bk,jx]
 rw [Oh]
 have e:∀K:V→af→Prop,g.wp P (r.trim rs) h K=∃v ab,g.run P js (r.trim rs) h=.val v ab∧K v ab:=by
  intro K
  cases g<;>first | rfl | (simp [G.Nb] at ao;done)
 rw [e]
 unfold ia
 simp only [bk,tU]
 cases g.run P js (r.trim rs) h with
 | fail=>exact propext ⟨fun ⟨v,ab,q,_⟩=>(by cases q),fun q=>q.elim⟩
 | ck v1 aa=>exact propext ⟨fun ⟨v,ab,q,_⟩=>(by cases q),fun q=>q.elim⟩
 | val v1 aa=>
   apply propext
   constructor
   · rintro ⟨v,ab,q,k⟩
     simp only [aV.val.injEq] at q
     obtain ⟨rfl,rfl⟩:=q
     exact k
   · intro k
     exact ⟨_,_,rfl,k⟩
theorem jl {d:Option Nat} {g:G} {j:Nat} {want:Bool} {rs:List Nat} (ah:g.mm=false):bk P (.os D (⟨d,g,some (j,want),rs⟩::os)::aI) .normal r h Q=fc P (r.trim rs j) want d g rs D os aI r h Q:=by
 simp only [fc,bk,jx,tU]
 rw [Of]
 rfl
theorem Ni {d:Option Nat} {f:FuncId} {args:List aU} {rs:List Nat}:bk P (.os D (⟨d,.call f args,none,rs⟩::os)::aI) .normal r h Q=nW P f (aU.eV (r.trim rs) args) d D os aI r h Q:=by
 simp only [nW,bk,jx,tU]
 rfl
theorem aaL {d:Option Nat} {f:aU} {args:List aU} {rs:List Nat}:bk P (.os D (⟨d,.kO f args,none,rs⟩::os)::aI) .normal r h Q=t' P (f.aW (r.trim rs)) (aU.eV (r.trim rs) args) d D os aI r h Q:=by
 simp only [t',Er,Cx,nW,bk,jx,tU]
 rfl
theorem Vv {f:V} {g:FuncId} {xs args:List V} {d:Option Nat} (ax:f.target args=some (g,xs)):t' P f args d D os aI r h Q=Er P g xs d D os aI r h Q:=by
 apply propext
 constructor
 · rintro ⟨w6,ai0,q,k⟩
   rw [ax] at q
   simp only [Option.some.injEq,Prod.mk.injEq] at q
   obtain ⟨rfl,rfl⟩:=q
   exact k
 · intro k
   exact ⟨_,_,ax,k⟩
theorem l9 {g:FuncId} {cs args:List V} {d:Option Nat}:t' P (.func g cs) args d D os aI r h Q=if g=4294967296 then Cx P (args++cs) d D os aI r h Q else nW P g (args++cs) d D os aI r h Q:=Vv rfl
@[congr] theorem aiM {o bX:Option V} {d:Option Nat} (e:o=bX):c_ P o d D os aI r h Q=c_ P bX d D os aI r h Q:=by rw [e]
@[congr] theorem aiL {o bX:aV} {d:Option Nat} (e:o=bX):ia P o d D os aI r h Q=ia P bX d D os aI r h Q:=by rw [e]
@[congr] theorem ahL {v eh:V} {a b:bF} (e:v=eh):t_ P v a b aI r h Q=t_ P eh a b aI r h Q:=by rw [e]
@[congr] theorem ahW {v eh:V} {want:Bool} {d:Option Nat} {g:G} {rs:List Nat} (e:v=eh):fc P v want d g rs D os aI r h Q=fc P eh want d g rs D os aI r h Q:=by rw [e]
@[congr] theorem ahJ {f pk:V} {args wz:List V} {d:Option Nat} (aN:f=pk) (aY:args=wz):t' P f args d D os aI r h Q=t' P pk wz d D os aI r h Q:=by rw [aN,aY]
@[congr] theorem ahI {f:FuncId} {args wz:List V} {d:Option Nat} (aY:args=wz):nW P f args d D os aI r h Q=nW P f wz d D os aI r h Q:=by rw [aY]
@[congr] theorem aiV {e cU:c6} {bo:aT} {ab:af} (cI:e=cU) (aN:r=bo) (aY:h=ab):bk P aI e r h Q=bk P aI cU bo ab Q:=by rw [cI,aN,aY]
@[congr] theorem aio {b:bF} {bo:aT} {ab:af} (aN:r=bo) (aY:h=ab):ve P b aI r h Q=ve P b aI bo ab Q:=by rw [aN,aY]
theorem agr {v:V} {d:Option Nat}:c_ P (some v) d D os aI r h Q=bk P (.os (hy D r h v) os::aI) .normal (r.set d v) h Q:=(rfl)
theorem af3 {v:V} {ab:af} {d:Option Nat}:ia P (.val v ab) d D os aI r h Q=bk P (.os (hy D r h v) os::aI) .normal (r.set d v) ab Q:=(rfl)
theorem Kv {t:Bool} {a b:bF}:t_ P (.bool t) a b aI r h Q=((t=true→bk P (.c a::aI) .normal r h Q)∧(t=false→bk P (.c b::aI) .normal r h Q)):=(rfl)
theorem LF {b:Bool} {d:Option Nat} {g:G} {rs:List Nat}:fc P (.bool b) true d g rs D os aI r h Q=((b=true→bk P (.os D (⟨d,g,none,rs⟩::os)::aI) .normal r h Q)∧(b=false→bk P (.os (hy D r h (.tuple [])) os::aI) .normal (r.set d (.tuple [])) h Q)):=(rfl)
theorem LD {b:Bool} {d:Option Nat} {g:G} {rs:List Nat}:fc P (.bool b) false d g rs D os aI r h Q=((b=false→bk P (.os D (⟨d,g,none,rs⟩::os)::aI) .normal r h Q)∧(b=true→bk P (.os (hy D r h (.tuple [])) os::aI) .normal (r.set d (.tuple [])) h Q)):=(rfl)
theorem Xv {ad:List V} {want:Bool} {d:Option Nat} {g:G} {rs:List Nat}:fc P (.tuple ad) want d g rs D os aI r h Q=bk P (.os (hy D r h (.tuple [])) os::aI) .normal (r.set d (.tuple [])) h Q:=(rfl)
theorem Xp {c b:Bool} {want:Bool} {d:Option Nat} {f:FuncId} {args:List aU} {rs:List Nat} (v:V)
 (bp:(c&&(b == want))=true→eS P f (aU.eV (r.trim rs) args) h v h)
 (H:bk P (.os (hy D r h (V.opt (c&&(b == want)) v)) os::aI) .normal (r.set d (V.opt (c&&(b == want)) v)) h Q):fc P (V.opt c (.bool b)) want d (.call f args) rs D os aI r h Q:=by
 unfold fc
 rw [Ni]
 cases c with
 | false=>exact H
 | true=>
   simp only [V.opt,cond_true,Bool.true_and] at bp H ⊢
   cases b<;>cases want<;>simp only [gate]
   · exact ⟨fun _=>⟨v,h,bp rfl,H⟩,fun e=>by cases e⟩
   · exact ⟨fun e=>(by cases e),fun _=>H⟩
   · exact ⟨fun e=>(by cases e),fun _=>H⟩
   · exact ⟨fun _=>⟨v,h,bp rfl,H⟩,fun e=>by cases e⟩
def q' (v:V) (o:Option af):aV:=gj v o
theorem aev (v:V) (ab:af):q' v (some ab)=.val v ab:=(rfl)
def J0 (b:Bool) (o:aV):aV:=bif b then o else .fail
theorem S0 (o:aV):J0 true o=o:=(rfl)
noncomputable def zK (n:Nat) (h:af) (o:Option (List V)):aV:=
 match o with
 | some cs=>q' (.slice (ay h.next) 0 n n) (fg h cs)
 | none=>.fail
theorem S1 (n:Nat) (cs:List V):zK n h (some cs)=q' (.slice (ay h.next) 0 n n) (fg h cs):=(rfl)
theorem afw {n size:Nat} {z:List V} {bc:List (Nat × Nat × aU)}:(G.iC n size z bc).run P js r h=zK n h (hq (hh z n) (iG r bc)):=by
 simp only [G.run]
 cases hq (hh z n) (iG r bc) with
 | none=>rfl
 | some cs=>
   simp only [zK,q',gj]
   cases fg h cs<;>rfl
theorem W0 (cells:List V):hq cells []=some cells:=(rfl)
theorem WY {cells:List V} {off size:Nat} {v:V} {rest:List (Nat × Nat × V)} (aa:v.eW=true) (ae:v.cells.length=size) (aF:off+size≤cells.length):
 hq cells ((off,size,v)::rest)=hq (mF cells off v.cells) rest:=by
 simp only [hq]
 rw [aa,show Nat.beq v.cells.length size=true from by rw [Nat.beq_eq];exact ae,show Nat.ble (off+v.cells.length) cells.length=true from by rw [Nat.ble_eq,ae];exact aF]
 simp only [Bool.and_true,cond_true]
 congr 1
 have fw:∀(ws cs:List V) (o:Nat),o+ws.length≤cs.length→pn cs o ws=hB cs o ws:=by
  intro ws
  induction ws with
  | nil=>intro cs o _;simp [pn,hB]
  | cons w ws bf=>
    intro cs o aR
    simp only [List.length_cons] at aR
    simp only [pn]
    rw [bf (cs.set o w) (o+1) (by simp;omega),PZ cs o w ws (by omega)]
 rw [fw _ _ _ (by rw [ae];exact aF),Cl _ _ _ (by rw [ae];exact aF)]
def zM (o:Option (List V)):Option V:=
 match o with
 | some cs=>some (.agg cs)
 | none=>none
theorem S3 (cs:List V):zM (some cs)=some (.agg cs):=(rfl)
theorem WL:iG r []=[]:=(rfl)
theorem WK {o s:Nat} {x:aU} {bc:List (Nat × Nat × aU)}:iG r ((o,s,x)::bc)=(o,s,x.aW r)::iG r bc:=(rfl)
noncomputable def o6 (P:Program) (o:bA) (e:e') (H:af):Prop:=o.wp P e.r H fun _ eh _=>eh=e.v
theorem Sz {ops:List bA} {es:List e'} {ax:af}:mO P ops es ax []=True:=(rfl)
theorem Sy {ops:List bA} {es:List e'} {ax:af} {p:Nat} {ez:List Nat} {rest:List (Nat × List Nat)}:mO P ops es ax ((p,ez)::rest)=(o7 P ops[p]? es[p]? es ax ez∧mO P ops es ax rest):=(rfl)
theorem Sv {o:Option bA} {e:Option e'} {es:List e'} {ax:af}:o7 P o e es ax []=True:=(rfl)
theorem Ss {o:bA} {e:e'} {es:List e'} {ax:af} {s:Nat} {ez:List Nat}:o7 P (some o) (some e) es ax (s::ez)=(o6 P o e (uI es ax s)∧o7 P (some o) (some e) es ax ez):=(rfl)
def Fy (o:Option e') (ax:af):af:=
 match o with
 | some e=>e.h
 | none=>ax
theorem YF (es:List e') (ax:af) (s:Nat):uI es ax s=Fy es[s]? ax:=(rfl)
theorem YH (e:e') (ax:af):Fy (some e) ax=e.h:=(rfl)
theorem YG (ax:af):Fy none ax=ax:=(rfl)
theorem JO {d:Option Nat} {g:G} {rs:List Nat} {e:e'} {H:af} (ah:g.mm=true):o6 P ⟨d,g,none,rs⟩ e H=(g.j3 P (e.r.trim rs) H=some e.v):=by
 unfold o6
 rw [Oi ah]
 apply propext
 cases g.j3 P (e.r.trim rs) H with
 | none=>exact ⟨fun q=>q.elim,fun q=>(by cases q)⟩
 | some v=>exact ⟨fun q=>by rw [show v=e.v from q],fun q=>by cases q;rfl⟩
theorem JN {d:Option Nat} {g:G} {j:Nat} {want:Bool} {rs:List Nat} {e:e'} {H:af} (ah:g.mm=true):o6 P ⟨d,g,some (j,want),rs⟩ e H=
 (eP (e.r.trim rs j)∧ep (took (e.r.trim rs j) want) ((g.j3 P (e.r.trim rs) H).isSome=true)∧V.opt (took (e.r.trim rs j) want) ((g.j3 P (e.r.trim rs) H).getD .bad)=e.v):=by
 unfold o6
 rw [Og ah]
theorem St {d:Option Nat} {x:aU} {rs:List Nat} {e:e'} {H:af}:o6 P ⟨d,.fS x,none,rs⟩ e H=(lf H (x.aW (e.r.trim rs))=some e.v):=JO rfl
theorem Su {d:Option Nat} {n:Nat} {x:aU} {rs:List Nat} {e:e'} {H:af}:o6 P ⟨d,.im n x,none,rs⟩ e H=(lb n H (x.aW (e.r.trim rs))=some e.v):=JO rfl
theorem Sw {d:Option Nat} {x:aU} {j:Nat} {want:Bool} {rs:List Nat} {e:e'} {H:af}:o6 P ⟨d,.fS x,some (j,want),rs⟩ e H=
 (eP (e.r.trim rs j)∧ep (took (e.r.trim rs j) want) ((lf H (x.aW (e.r.trim rs))).isSome=true)∧V.opt (took (e.r.trim rs j) want) ((lf H (x.aW (e.r.trim rs))).getD .bad)=e.v):=JN rfl
theorem Sx {d:Option Nat} {n:Nat} {x:aU} {j:Nat} {want:Bool} {rs:List Nat} {e:e'} {H:af}:o6 P ⟨d,.im n x,some (j,want),rs⟩ e H=
 (eP (e.r.trim rs j)∧ep (took (e.r.trim rs j) want) ((lb n H (x.aW (e.r.trim rs))).isSome=true)∧V.opt (took (e.r.trim rs j) want) ((lb n H (x.aW (e.r.trim rs))).getD .bad)=e.v):=JN rfl
end
end Go.Proofs.YtkehcalakofigaaGreatDoor.aS
namespace Go.Proofs.YtkehcalakofigaaGreatDoor.aS
variable [Lay]
open Go Go.RowKit
noncomputable def B' (x:V) (h:af):aV:=
 match x with
 | .str s=>.val (.ptr (ay h.next) 0) (h.new (.iter s 0))
 | _=>.fail
theorem afn (s:List UInt8) (h:af):B' (.str s) h=.val (.ptr (ay h.next) 0) (h.new (.iter s 0)):=(rfl)
section
variable {P:Program} {r:aT} {h:af} {Q:c6→aT→af→Prop} {aI:List gK} {os:List bA} {D:Option gW} {d:Option Nat} {rs:List Nat}
theorem abm {x:aU}:bk P (.os D (⟨d,(.dp x),none,rs⟩::os)::aI) .normal r h Q=c_ P (some (x.aW (r.trim rs))) d D os aI r h Q:=gf rfl
theorem ach {x:aU} {j:Nat} {want:Bool}:bk P (.os D (⟨d,(.dp x),some (j,want),rs⟩::os)::aI) .normal r h Q=(eP (r.trim rs j)∧ep (took (r.trim rs j) want) ((some (x.aW (r.trim rs))).isSome=true)∧c_ P (some (V.opt (took (r.trim rs j) want) ((some (x.aW (r.trim rs))).getD .bad))) d D os aI r h Q):=gd rfl
theorem abv {c a b:aU}:bk P (.os D (⟨d,(.pick c a b),none,rs⟩::os)::aI) .normal r h Q=c_ P (yu (c.aW (r.trim rs)) (a.aW (r.trim rs)) (b.aW (r.trim rs))) d D os aI r h Q:=gf rfl
theorem acn {c a b:aU} {j:Nat} {want:Bool}:bk P (.os D (⟨d,(.pick c a b),some (j,want),rs⟩::os)::aI) .normal r h Q=(eP (r.trim rs j)∧ep (took (r.trim rs j) want) ((yu (c.aW (r.trim rs)) (a.aW (r.trim rs)) (b.aW (r.trim rs))).isSome=true)∧c_ P (some (V.opt (took (r.trim rs j) want) ((yu (c.aW (r.trim rs)) (a.aW (r.trim rs)) (b.aW (r.trim rs))).getD .bad))) d D os aI r h Q):=gd rfl
theorem aaK {z:List V} {bc:List (Nat × Nat × aU)}:bk P (.os D (⟨d,(.build z bc),none,rs⟩::os)::aI) .normal r h Q=c_ P (zM (hq z (iG (r.trim rs) bc))) d D os aI r h Q:=gf rfl
theorem abQ {z:List V} {bc:List (Nat × Nat × aU)} {j:Nat} {want:Bool}:bk P (.os D (⟨d,(.build z bc),some (j,want),rs⟩::os)::aI) .normal r h Q=(eP (r.trim rs j)∧ep (took (r.trim rs j) want) ((zM (hq z (iG (r.trim rs) bc))).isSome=true)∧c_ P (some (V.opt (took (r.trim rs j) want) ((zM (hq z (iG (r.trim rs) bc))).getD .bad))) d D os aI r h Q):=gd rfl
theorem aa' {x:aU}:bk P (.os D (⟨d,(.fS x),none,rs⟩::os)::aI) .normal r h Q=c_ P (lf h (x.aW (r.trim rs))) d D os aI r h Q:=gf rfl
theorem ab8 {x:aU} {j:Nat} {want:Bool}:bk P (.os D (⟨d,(.fS x),some (j,want),rs⟩::os)::aI) .normal r h Q=(eP (r.trim rs j)∧ep (took (r.trim rs j) want) ((lf h (x.aW (r.trim rs))).isSome=true)∧c_ P (some (V.opt (took (r.trim rs j) want) ((lf h (x.aW (r.trim rs))).getD .bad))) d D os aI r h Q):=gd rfl
theorem aa_ {n:Nat} {x:aU}:bk P (.os D (⟨d,(.im n x),none,rs⟩::os)::aI) .normal r h Q=c_ P (lb n h (x.aW (r.trim rs))) d D os aI r h Q:=gf rfl
theorem ab9 {n:Nat} {x:aU} {j:Nat} {want:Bool}:bk P (.os D (⟨d,(.im n x),some (j,want),rs⟩::os)::aI) .normal r h Q=(eP (r.trim rs j)∧ep (took (r.trim rs j) want) ((lb n h (x.aW (r.trim rs))).isSome=true)∧c_ P (some (V.opt (took (r.trim rs j) want) ((lb n h (x.aW (r.trim rs))).getD .bad))) d D os aI r h Q):=gd rfl
theorem abr {x:aU}:bk P (.os D (⟨d,(.q8 x),none,rs⟩::os)::aI) .normal r h Q=c_ P (q7 (x.aW (r.trim rs))) d D os aI r h Q:=gf rfl
theorem ack {x:aU} {j:Nat} {want:Bool}:bk P (.os D (⟨d,(.q8 x),some (j,want),rs⟩::os)::aI) .normal r h Q=(eP (r.trim rs j)∧ep (took (r.trim rs j) want) ((q7 (x.aW (r.trim rs))).isSome=true)∧c_ P (some (V.opt (took (r.trim rs j) want) ((q7 (x.aW (r.trim rs))).getD .bad))) d D os aI r h Q):=gd rfl
theorem aaE {k:d'} {x y:aU}:bk P (.os D (⟨d,(.bin k x y),none,rs⟩::os)::aI) .normal r h Q=c_ P (k.run P (x.aW (r.trim rs)) (y.aW (r.trim rs))) d D os aI r h Q:=gf rfl
theorem abN {k:d'} {x y:aU} {j:Nat} {want:Bool}:bk P (.os D (⟨d,(.bin k x y),some (j,want),rs⟩::os)::aI) .normal r h Q=(eP (r.trim rs j)∧ep (took (r.trim rs j) want) ((k.run P (x.aW (r.trim rs)) (y.aW (r.trim rs))).isSome=true)∧c_ P (some (V.opt (took (r.trim rs j) want) ((k.run P (x.aW (r.trim rs)) (y.aW (r.trim rs))).getD .bad))) d D os aI r h Q):=gd rfl
theorem abG {o:UnOp} {x:aU}:bk P (.os D (⟨d,(.un o x),none,rs⟩::os)::aI) .normal r h Q=c_ P (oP o (x.aW (r.trim rs))) d D os aI r h Q:=gf rfl
theorem acs {o:UnOp} {x:aU} {j:Nat} {want:Bool}:bk P (.os D (⟨d,(.un o x),some (j,want),rs⟩::os)::aI) .normal r h Q=(eP (r.trim rs j)∧ep (took (r.trim rs j) want) ((oP o (x.aW (r.trim rs))).isSome=true)∧c_ P (some (V.opt (took (r.trim rs j) want) ((oP o (x.aW (r.trim rs))).getD .bad))) d D os aI r h Q):=gd rfl
theorem aa2 {f:FuncId} {cs:List aU}:bk P (.os D (⟨d,(.fn f cs),none,rs⟩::os)::aI) .normal r h Q=c_ P (some (V.func f (aU.eV (r.trim rs) cs))) d D os aI r h Q:=gf rfl
theorem ab2 {f:FuncId} {cs:List aU} {j:Nat} {want:Bool}:bk P (.os D (⟨d,(.fn f cs),some (j,want),rs⟩::os)::aI) .normal r h Q=(eP (r.trim rs j)∧ep (took (r.trim rs j) want) ((some (V.func f (aU.eV (r.trim rs) cs))).isSome=true)∧c_ P (some (V.opt (took (r.trim rs j) want) ((some (V.func f (aU.eV (r.trim rs) cs))).getD .bad))) d D os aI r h Q):=gd rfl
theorem aa7 {t:TypeId} {x:aU}:bk P (.os D (⟨d,(.pQ t x),none,rs⟩::os)::aI) .normal r h Q=c_ P (some (V.iface t (x.aW (r.trim rs)))) d D os aI r h Q:=gf rfl
theorem ab5 {t:TypeId} {x:aU} {j:Nat} {want:Bool}:bk P (.os D (⟨d,(.pQ t x),some (j,want),rs⟩::os)::aI) .normal r h Q=(eP (r.trim rs j)∧ep (took (r.trim rs j) want) ((some (V.iface t (x.aW (r.trim rs)))).isSome=true)∧c_ P (some (V.opt (took (r.trim rs j) want) ((some (V.iface t (x.aW (r.trim rs)))).getD .bad))) d D os aI r h Q):=gd rfl
theorem abD {x:aU} {bG az m3:Option aU}:bk P (.os D (⟨d,(.oM x bG az m3),none,rs⟩::os)::aI) .normal r h Q=c_ P (kD (x.aW (r.trim rs)) (aU.opt (r.trim rs) bG) (aU.opt (r.trim rs) az) (aU.opt (r.trim rs) m3)) d D os aI r h Q:=gf rfl
theorem acq {x:aU} {bG az m3:Option aU} {j:Nat} {want:Bool}:bk P (.os D (⟨d,(.oM x bG az m3),some (j,want),rs⟩::os)::aI) .normal r h Q=(eP (r.trim rs j)∧ep (took (r.trim rs j) want) ((kD (x.aW (r.trim rs)) (aU.opt (r.trim rs) bG) (aU.opt (r.trim rs) az) (aU.opt (r.trim rs) m3)).isSome=true)∧c_ P (some (V.opt (took (r.trim rs j) want) ((kD (x.aW (r.trim rs)) (aU.opt (r.trim rs) bG) (aU.opt (r.trim rs) az) (aU.opt (r.trim rs) m3)).getD .bad))) d D os aI r h Q):=gd rfl
theorem abC {n:Nat} {x:aU} {bG az m3:Option aU}:bk P (.os D (⟨d,(.e8 n x bG az m3),none,rs⟩::os)::aI) .normal r h Q=c_ P (p9 n (x.aW (r.trim rs)) (aU.opt (r.trim rs) bG) (aU.opt (r.trim rs) az) (aU.opt (r.trim rs) m3)) d D os aI r h Q:=gf rfl
theorem acp {n:Nat} {x:aU} {bG az m3:Option aU} {j:Nat} {want:Bool}:bk P (.os D (⟨d,(.e8 n x bG az m3),some (j,want),rs⟩::os)::aI) .normal r h Q=(eP (r.trim rs j)∧ep (took (r.trim rs j) want) ((p9 n (x.aW (r.trim rs)) (aU.opt (r.trim rs) bG) (aU.opt (r.trim rs) az) (aU.opt (r.trim rs) m3)).isSome=true)∧c_ P (some (V.opt (took (r.trim rs j) want) ((p9 n (x.aW (r.trim rs)) (aU.opt (r.trim rs) bG) (aU.opt (r.trim rs) az) (aU.opt (r.trim rs) m3)).getD .bad))) d D os aI r h Q):=gd rfl
theorem aaZ {o:Nat} {x:aU}:bk P (.os D (⟨d,(.fw o x),none,rs⟩::os)::aI) .normal r h Q=c_ P (Al o (x.aW (r.trim rs))) d D os aI r h Q:=gf rfl
theorem abZ {o:Nat} {x:aU} {j:Nat} {want:Bool}:bk P (.os D (⟨d,(.fw o x),some (j,want),rs⟩::os)::aI) .normal r h Q=(eP (r.trim rs j)∧ep (took (r.trim rs j) want) ((Al o (x.aW (r.trim rs))).isSome=true)∧c_ P (some (V.opt (took (r.trim rs j) want) ((Al o (x.aW (r.trim rs))).getD .bad))) d D os aI r h Q):=gd rfl
theorem aa0 {o:Nat} {x:aU}:bk P (.os D (⟨d,(.sb o x),none,rs⟩::os)::aI) .normal r h Q=c_ P ((x.aW (r.trim rs)).pZ none fun cs=>cs[o]?) d D os aI r h Q:=gf rfl
theorem ab0 {o:Nat} {x:aU} {j:Nat} {want:Bool}:bk P (.os D (⟨d,(.sb o x),some (j,want),rs⟩::os)::aI) .normal r h Q=(eP (r.trim rs j)∧ep (took (r.trim rs j) want) (((x.aW (r.trim rs)).pZ none fun cs=>cs[o]?).isSome=true)∧c_ P (some (V.opt (took (r.trim rs j) want) (((x.aW (r.trim rs)).pZ none fun cs=>cs[o]?).getD .bad))) d D os aI r h Q):=gd rfl
theorem aa1 {o n:Nat} {x:aU}:bk P (.os D (⟨d,(.sc o n x),none,rs⟩::os)::aI) .normal r h Q=c_ P ((x.aW (r.trim rs)).pZ none fun cs=>some (V.agg ((cs.drop o).take n))) d D os aI r h Q:=gf rfl
theorem ab1 {o n:Nat} {x:aU} {j:Nat} {want:Bool}:bk P (.os D (⟨d,(.sc o n x),some (j,want),rs⟩::os)::aI) .normal r h Q=(eP (r.trim rs j)∧ep (took (r.trim rs j) want) (((x.aW (r.trim rs)).pZ none fun cs=>some (V.agg ((cs.drop o).take n))).isSome=true)∧c_ P (some (V.opt (took (r.trim rs j) want) (((x.aW (r.trim rs)).pZ none fun cs=>some (V.agg ((cs.drop o).take n))).getD .bad))) d D os aI r h Q):=gd rfl
theorem aa5 {n:Nat} {x i:aU}:bk P (.os D (⟨d,(.c0 n x i),none,rs⟩::os)::aI) .normal r h Q=c_ P (jj n (x.aW (r.trim rs)) (i.aW (r.trim rs))) d D os aI r h Q:=gf rfl
theorem ab3 {n:Nat} {x i:aU} {j:Nat} {want:Bool}:bk P (.os D (⟨d,(.c0 n x i),some (j,want),rs⟩::os)::aI) .normal r h Q=(eP (r.trim rs j)∧ep (took (r.trim rs j) want) ((jj n (x.aW (r.trim rs)) (i.aW (r.trim rs))).isSome=true)∧c_ P (some (V.opt (took (r.trim rs j) want) ((jj n (x.aW (r.trim rs)) (i.aW (r.trim rs))).getD .bad))) d D os aI r h Q):=gd rfl
theorem aa6 {m n:Nat} {x i:aU}:bk P (.os D (⟨d,(.qU m n x i),none,rs⟩::os)::aI) .normal r h Q=c_ P ((pS m n).run (x.aW (r.trim rs)) (i.aW (r.trim rs))) d D os aI r h Q:=gf rfl
theorem ab4 {m n:Nat} {x i:aU} {j:Nat} {want:Bool}:bk P (.os D (⟨d,(.qU m n x i),some (j,want),rs⟩::os)::aI) .normal r h Q=(eP (r.trim rs j)∧ep (took (r.trim rs j) want) (((pS m n).run (x.aW (r.trim rs)) (i.aW (r.trim rs))).isSome=true)∧c_ P (some (V.opt (took (r.trim rs j) want) (((pS m n).run (x.aW (r.trim rs)) (i.aW (r.trim rs))).getD .bad))) d D os aI r h Q):=gd rfl
theorem aa9 {x i:aU}:bk P (.os D (⟨d,(.jU x i),none,rs⟩::os)::aI) .normal r h Q=c_ P (pU.run (x.aW (r.trim rs)) (i.aW (r.trim rs))) d D os aI r h Q:=gf rfl
theorem ab7 {x i:aU} {j:Nat} {want:Bool}:bk P (.os D (⟨d,(.jU x i),some (j,want),rs⟩::os)::aI) .normal r h Q=(eP (r.trim rs j)∧ep (took (r.trim rs j) want) ((pU.run (x.aW (r.trim rs)) (i.aW (r.trim rs))).isSome=true)∧c_ P (some (V.opt (took (r.trim rs j) want) ((pU.run (x.aW (r.trim rs)) (i.aW (r.trim rs))).getD .bad))) d D os aI r h Q):=gd rfl
theorem aa8 {t:TypeId} {x i:aU}:bk P (.os D (⟨d,(.h7 t x i),none,rs⟩::os)::aI) .normal r h Q=c_ P ((pT P t).run (x.aW (r.trim rs)) (i.aW (r.trim rs))) d D os aI r h Q:=gf rfl
theorem ab6 {t:TypeId} {x i:aU} {j:Nat} {want:Bool}:bk P (.os D (⟨d,(.h7 t x i),some (j,want),rs⟩::os)::aI) .normal r h Q=(eP (r.trim rs j)∧ep (took (r.trim rs j) want) (((pT P t).run (x.aW (r.trim rs)) (i.aW (r.trim rs))).isSome=true)∧c_ P (some (V.opt (took (r.trim rs j) want) (((pT P t).run (x.aW (r.trim rs)) (i.aW (r.trim rs))).getD .bad))) d D os aI r h Q):=gd rfl
theorem abf {k:j9} {z:V} {ok:Bool} {x i:aU}:bk P (.os D (⟨d,(.look k z ok x i),none,rs⟩::os)::aI) .normal r h Q=c_ P (iq k.eq z ok h (x.aW (r.trim rs)) (i.aW (r.trim rs))) d D os aI r h Q:=gf rfl
theorem acd {k:j9} {z:V} {ok:Bool} {x i:aU} {j:Nat} {want:Bool}:bk P (.os D (⟨d,(.look k z ok x i),some (j,want),rs⟩::os)::aI) .normal r h Q=(eP (r.trim rs j)∧ep (took (r.trim rs j) want) ((iq k.eq z ok h (x.aW (r.trim rs)) (i.aW (r.trim rs))).isSome=true)∧c_ P (some (V.opt (took (r.trim rs j) want) ((iq k.eq z ok h (x.aW (r.trim rs)) (i.aW (r.trim rs))).getD .bad))) d D os aI r h Q):=gd rfl
theorem aaY {x:aU} {i:Nat}:bk P (.os D (⟨d,(.ext x i),none,rs⟩::os)::aI) .normal r h Q=c_ P ((x.aW (r.trim rs)).yk none fun ad=>ad[i]?) d D os aI r h Q:=gf rfl
theorem abY {x:aU} {i:Nat} {j:Nat} {want:Bool}:bk P (.os D (⟨d,(.ext x i),some (j,want),rs⟩::os)::aI) .normal r h Q=(eP (r.trim rs j)∧ep (took (r.trim rs j) want) (((x.aW (r.trim rs)).yk none fun ad=>ad[i]?).isSome=true)∧c_ P (some (V.opt (took (r.trim rs j) want) (((x.aW (r.trim rs)).yk none fun ad=>ad[i]?).getD .bad))) d D os aI r h Q):=gd rfl
theorem abk {args:List aU}:bk P (.os D (⟨d,(.vj args),none,rs⟩::os)::aI) .normal r h Q=c_ P (iQ (fun b a=>!Int.leB a b) (aU.eV (r.trim rs) args)) d D os aI r h Q:=gf rfl
theorem acg {args:List aU} {j:Nat} {want:Bool}:bk P (.os D (⟨d,(.vj args),some (j,want),rs⟩::os)::aI) .normal r h Q=(eP (r.trim rs j)∧ep (took (r.trim rs j) want) ((iQ (fun b a=>!Int.leB a b) (aU.eV (r.trim rs) args)).isSome=true)∧c_ P (some (V.opt (took (r.trim rs j) want) ((iQ (fun b a=>!Int.leB a b) (aU.eV (r.trim rs) args)).getD .bad))) d D os aI r h Q):=gd rfl
theorem abn {args:List aU}:bk P (.os D (⟨d,(.dF args),none,rs⟩::os)::aI) .normal r h Q=c_ P (iQ (fun b a=>!Int.leB b a) (aU.eV (r.trim rs) args)) d D os aI r h Q:=gf rfl
theorem aci {args:List aU} {j:Nat} {want:Bool}:bk P (.os D (⟨d,(.dF args),some (j,want),rs⟩::os)::aI) .normal r h Q=(eP (r.trim rs j)∧ep (took (r.trim rs j) want) ((iQ (fun b a=>!Int.leB b a) (aU.eV (r.trim rs) args)).isSome=true)∧c_ P (some (V.opt (took (r.trim rs j) want) ((iQ (fun b a=>!Int.leB b a) (aU.eV (r.trim rs) args)).getD .bad))) d D os aI r h Q):=gd rfl
theorem aaR {k:IntKind} {x:aU}:bk P (.os D (⟨d,(.ho (.int k) x),none,rs⟩::os)::aI) .normal r h Q=c_ P (z6 k (x.aW (r.trim rs))) d D os aI r h Q:=gf rfl
theorem abV {k:IntKind} {x:aU} {j:Nat} {want:Bool}:bk P (.os D (⟨d,(.ho (.int k) x),some (j,want),rs⟩::os)::aI) .normal r h Q=(eP (r.trim rs j)∧ep (took (r.trim rs j) want) ((z6 k (x.aW (r.trim rs))).isSome=true)∧c_ P (some (V.opt (took (r.trim rs j) want) ((z6 k (x.aW (r.trim rs))).getD .bad))) d D os aI r h Q):=gd rfl
theorem abc {x:aU}:bk P (.os D (⟨d,(.len .slice x),none,rs⟩::os)::aI) .normal r h Q=c_ P (jo (x.aW (r.trim rs))) d D os aI r h Q:=gf rfl
theorem aca {x:aU} {j:Nat} {want:Bool}:bk P (.os D (⟨d,(.len .slice x),some (j,want),rs⟩::os)::aI) .normal r h Q=(eP (r.trim rs j)∧ep (took (r.trim rs j) want) ((jo (x.aW (r.trim rs))).isSome=true)∧c_ P (some (V.opt (took (r.trim rs j) want) ((jo (x.aW (r.trim rs))).getD .bad))) d D os aI r h Q):=gd rfl
theorem abd {x:aU}:bk P (.os D (⟨d,(.len .str x),none,rs⟩::os)::aI) .normal r h Q=c_ P (Bg (x.aW (r.trim rs))) d D os aI r h Q:=gf rfl
theorem acb {x:aU} {j:Nat} {want:Bool}:bk P (.os D (⟨d,(.len .str x),some (j,want),rs⟩::os)::aI) .normal r h Q=(eP (r.trim rs j)∧ep (took (r.trim rs j) want) ((Bg (x.aW (r.trim rs))).isSome=true)∧c_ P (some (V.opt (took (r.trim rs j) want) ((Bg (x.aW (r.trim rs))).getD .bad))) d D os aI r h Q):=gd rfl
theorem aba {n:Nat} {x:aU}:bk P (.os D (⟨d,(.len (.arr n) x),none,rs⟩::os)::aI) .normal r h Q=c_ P (some (V.int .i64 n)) d D os aI r h Q:=gf rfl
theorem ab' {n:Nat} {x:aU} {j:Nat} {want:Bool}:bk P (.os D (⟨d,(.len (.arr n) x),some (j,want),rs⟩::os)::aI) .normal r h Q=(eP (r.trim rs j)∧ep (took (r.trim rs j) want) ((some (V.int .i64 n)).isSome=true)∧c_ P (some (V.opt (took (r.trim rs j) want) ((some (V.int .i64 n)).getD .bad))) d D os aI r h Q):=gd rfl
theorem abp {z:List V}:bk P (.os D (⟨d,(.new z),none,rs⟩::os)::aI) .normal r h Q=ia P (q' (.ptr (ay h.next) 0) (fg h z)) d D os aI r h Q:=ky rfl rfl
theorem acj {z:List V} {j:Nat} {want:Bool}:bk P (.os D (⟨d,(.new z),some (j,want),rs⟩::os)::aI) .normal r h Q=fc P (r.trim rs j) want d (.new z) rs D os aI r h Q:=jl rfl
theorem aaI {x:aU}:bk P (.os D (⟨d,(.box x),none,rs⟩::os)::aI) .normal r h Q=ia P (J0 (x.aW (r.trim rs)).eW (q' (.ptr (ay h.next) 0) (fg h (x.aW (r.trim rs)).cells))) d D os aI r h Q:=ky rfl rfl
theorem abO {x:aU} {j:Nat} {want:Bool}:bk P (.os D (⟨d,(.box x),some (j,want),rs⟩::os)::aI) .normal r h Q=fc P (r.trim rs j) want d (.box x) rs D os aI r h Q:=jl rfl
theorem aaJ {n m:Nat} {z:List V} {bc:List (Nat × Nat × aU)}:bk P (.os D (⟨d,(.iC n m z bc),none,rs⟩::os)::aI) .normal r h Q=ia P (zK n h (hq (hh z n) (iG (r.trim rs) bc))) d D os aI r h Q:=by rw [ky rfl rfl,afw]
theorem abP {n m:Nat} {z:List V} {bc:List (Nat × Nat × aU)} {j:Nat} {want:Bool}:bk P (.os D (⟨d,(.iC n m z bc),some (j,want),rs⟩::os)::aI) .normal r h Q=fc P (r.trim rs j) want d (.iC n m z bc) rs D os aI r h Q:=jl rfl
theorem abE {n:Nat} {x y:aU}:bk P (.os D (⟨d,(.st n x y),none,rs⟩::os)::aI) .normal r h Q=ia P (q' .bad (tl n h (x.aW (r.trim rs)) (y.aW (r.trim rs)))) d D os aI r h Q:=ky rfl rfl
theorem acr {n:Nat} {x y:aU} {j:Nat} {want:Bool}:bk P (.os D (⟨d,(.st n x y),some (j,want),rs⟩::os)::aI) .normal r h Q=fc P (r.trim rs j) want d (.st n x y) rs D os aI r h Q:=jl rfl
theorem abj {n:Nat} {z:List V} {l c:aU}:bk P (.os D (⟨d,(.vi n z l c),none,rs⟩::os)::aI) .normal r h Q=ia P (vg n z (l.aW (r.trim rs)) (c.aW (r.trim rs)) h) d D os aI r h Q:=ky rfl rfl
theorem acf {n:Nat} {z:List V} {l c:aU} {j:Nat} {want:Bool}:bk P (.os D (⟨d,(.vi n z l c),some (j,want),rs⟩::os)::aI) .normal r h Q=fc P (r.trim rs j) want d (.vi n z l c) rs D os aI r h Q:=jl rfl
theorem abH {k:j9} {m i x:aU}:bk P (.os D (⟨d,(.oQ k m i x),none,rs⟩::os)::aI) .normal r h Q=ia P (q' .bad (mI k.eq h (m.aW (r.trim rs)) (i.aW (r.trim rs)) (x.aW (r.trim rs)))) d D os aI r h Q:=ky rfl rfl
theorem acu {k:j9} {m i x:aU} {j:Nat} {want:Bool}:bk P (.os D (⟨d,(.oQ k m i x),some (j,want),rs⟩::os)::aI) .normal r h Q=fc P (r.trim rs j) want d (.oQ k m i x) rs D os aI r h Q:=jl rfl
theorem abi {x:Option aU}:bk P (.os D (⟨d,(.s3 x),none,rs⟩::os)::aI) .normal r h Q=ia P (q2 (aU.opt (r.trim rs) x) h) d D os aI r h Q:=ky rfl rfl
theorem ace {x:Option aU} {j:Nat} {want:Bool}:bk P (.os D (⟨d,(.s3 x),some (j,want),rs⟩::os)::aI) .normal r h Q=fc P (r.trim rs j) want d (.s3 x) rs D os aI r h Q:=jl rfl
theorem aby {x:aU}:bk P (.os D (⟨d,(.vB x),none,rs⟩::os)::aI) .normal r h Q=ia P (B' (x.aW (r.trim rs)) h) d D os aI r h Q:=(ky rfl rfl).trans (by first | rfl | (unfold B';simp only [G.run];cases x.aW (r.trim rs)<;>rfl) | (unfold B';cases x.aW (r.trim rs)<;>rfl))
theorem aco {x:aU} {j:Nat} {want:Bool}:bk P (.os D (⟨d,(.vB x),some (j,want),rs⟩::os)::aI) .normal r h Q=fc P (r.trim rs j) want d (.vB x) rs D os aI r h Q:=jl rfl
theorem abt {x:aU}:bk P (.os D (⟨d,(.vq x),none,rs⟩::os)::aI) .normal r h Q=ia P (s6 (x.aW (r.trim rs)) h) d D os aI r h Q:=ky rfl rfl
theorem acm {x:aU} {j:Nat} {want:Bool}:bk P (.os D (⟨d,(.vq x),some (j,want),rs⟩::os)::aI) .normal r h Q=fc P (r.trim rs j) want d (.vq x) rs D os aI r h Q:=jl rfl
theorem aaC {n:Nat} {s x:aU}:bk P (.os D (⟨d,(.app n s x),none,rs⟩::os)::aI) .normal r h Q=ia P (lz n (s.aW (r.trim rs)) (x.aW (r.trim rs)) h) d D os aI r h Q:=ky rfl rfl
theorem abM {n:Nat} {s x:aU} {j:Nat} {want:Bool}:bk P (.os D (⟨d,(.app n s x),some (j,want),rs⟩::os)::aI) .normal r h Q=fc P (r.trim rs j) want d (.app n s x) rs D os aI r h Q:=jl rfl
theorem aaO {n:Nat} {kg s:aU}:bk P (.os D (⟨d,(.copy n kg s),none,rs⟩::os)::aI) .normal r h Q=ia P (copyV n (kg.aW (r.trim rs)) (s.aW (r.trim rs)) h) d D os aI r h Q:=ky rfl rfl
theorem abT {n:Nat} {kg s:aU} {j:Nat} {want:Bool}:bk P (.os D (⟨d,(.copy n kg s),some (j,want),rs⟩::os)::aI) .normal r h Q=fc P (r.trim rs j) want d (.copy n kg s) rs D os aI r h Q:=jl rfl
theorem abb {x:aU}:bk P (.os D (⟨d,(.len .map x),none,rs⟩::os)::aI) .normal r h Q=ia P (x5 [x.aW (r.trim rs)] h) d D os aI r h Q:=ky rfl rfl
theorem ab_ {x:aU} {j:Nat} {want:Bool}:bk P (.os D (⟨d,(.len .map x),some (j,want),rs⟩::os)::aI) .normal r h Q=fc P (r.trim rs j) want d (.len .map x) rs D os aI r h Q:=jl rfl
theorem aaQ {x:aU}:bk P (.os D (⟨d,(.ho .bytes x),none,rs⟩::os)::aI) .normal r h Q=ia P (wO.run (x.aW (r.trim rs)) h) d D os aI r h Q:=ky rfl rfl
theorem abU {x:aU} {j:Nat} {want:Bool}:bk P (.os D (⟨d,(.ho .bytes x),some (j,want),rs⟩::os)::aI) .normal r h Q=fc P (r.trim rs j) want d (.ho .bytes x) rs D os aI r h Q:=jl rfl
theorem aaT {x:aU}:bk P (.os D (⟨d,(.ho .str x),none,rs⟩::os)::aI) .normal r h Q=ia P (qB.run (x.aW (r.trim rs)) h) d D os aI r h Q:=ky rfl rfl
theorem abX {x:aU} {j:Nat} {want:Bool}:bk P (.os D (⟨d,(.ho .str x),some (j,want),rs⟩::os)::aI) .normal r h Q=fc P (r.trim rs j) want d (.ho .str x) rs D os aI r h Q:=jl rfl
theorem aaS {s kg:TypeId} {x:aU}:bk P (.os D (⟨d,(.ho (.other s kg) x),none,rs⟩::os)::aI) .normal r h Q=ia P ((nX P s kg).run (x.aW (r.trim rs)) h) d D os aI r h Q:=ky rfl rfl
theorem abW {s kg:TypeId} {x:aU} {j:Nat} {want:Bool}:bk P (.os D (⟨d,(.ho (.other s kg) x),some (j,want),rs⟩::os)::aI) .normal r h Q=fc P (r.trim rs j) want d (.ho (.other s kg) x) rs D os aI r h Q:=jl rfl
theorem abR {f:FuncId} {args:List aU} {j:Nat} {want:Bool}:bk P (.os D (⟨d,(.call f args),some (j,want),rs⟩::os)::aI) .normal r h Q=fc P (r.trim rs j) want d (.call f args) rs D os aI r h Q:=jl rfl
theorem abS {f:aU} {args:List aU} {j:Nat} {want:Bool}:bk P (.os D (⟨d,(.kO f args),some (j,want),rs⟩::os)::aI) .normal r h Q=fc P (r.trim rs j) want d (.kO f args) rs D os aI r h Q:=jl rfl
end
end Go.Proofs.YtkehcalakofigaaGreatDoor.aS
namespace Go.Proofs.YtkehcalakofigaaGreatDoor.aS
variable [Lay]
open Go Go.RowKit
theorem adE (h:af) (ad:List V):fg h ad=if ad.length≤top then some (h.new (.bq ad 0 false)) else none:=by
 by_cases ai:ad.length≤top
 · rw [if_pos ai,N7 ai]
 · rw [if_neg ai]
   unfold fg
   rw [show Nat.ble ad.length top=false from by rw [←Bool.not_eq_true,Nat.ble_eq];exact ai]
   rfl
theorem acC (h:af) (n:Nat) (b:aO) (off:Nat) (y:V) (ad:List V) (cv:Nat) (st:Bool):
 x3 n h b off y (.bq ad cv st)=if y.cells.length=n∧ed y.cells=true∧off+n≤ad.length then some (h.set b (.bq (mF ad off y.cells) cv st)) else none:=by
 by_cases ao:y.cells.length=n∧ed y.cells=true∧off+n≤ad.length
 · rw [if_pos ao,acE ao.1 ao.2.1 ao.2.2]
 · rw [if_neg ao]
   unfold x3
   by_cases aa:y.cells.length=n
   · rw [show Nat.beq y.cells.length n=true from by rw [Nat.beq_eq];exact aa]
     simp only [cond_true,bW.bq,bW.on]
     by_cases ae:ed y.cells=true
     · have aF:¬off+y.cells.length≤ad.length:=fun q=>ao ⟨aa,ae,by omega⟩
       rw [show Nat.ble (off+y.cells.length) ad.length=false from by rw [←Bool.not_eq_true,Nat.ble_eq];exact aF]
       rfl
     · rw [show ed y.cells=false from by simpa using ae,Bool.and_false]
       rfl
   · rw [show Nat.beq y.cells.length n=false from by rw [←Bool.not_eq_true,Nat.beq_eq];exact aa]
     rfl
theorem WZ (cells:List V) (off size:Nat) (v:V) (rest:List (Nat × Nat × V)):
 hq cells ((off,size,v)::rest)=if v.eW=true∧v.cells.length=size∧off+size≤cells.length then hq (mF cells off v.cells) rest else none:=by
 by_cases ao:v.eW=true∧v.cells.length=size∧off+size≤cells.length
 · rw [if_pos ao,WY ao.1 ao.2.1 ao.2.2]
 · rw [if_neg ao]
   simp only [hq]
   cases ag:(v.eW&&(Nat.beq v.cells.length size&&Nat.ble (off+v.cells.length) cells.length)) with
   | false=>rfl
   | true=>
     simp only [Bool.and_eq_true,Nat.beq_eq,Nat.ble_eq] at ag
     exact absurd ⟨ag.1,ag.2.1,by omega⟩ ao
theorem VA (b:Bool):V.cells (.bool b:V)=[.bool b]:=rfl
theorem ad' (b:Bool):V.one (.bool b:V)=true:=rfl
theorem XD (b:Bool):V.eW (.bool b:V)=true:=rfl
theorem VE (k:IntKind) (n:Int):V.cells (.int k n:V)=[.int k n]:=rfl
theorem Ow (k:IntKind) (n:Int):V.one (.int k n:V)=true:=rfl
theorem XH (k:IntKind) (n:Int):V.eW (.int k n:V)=true:=rfl
theorem VO (s:List UInt8):V.cells (.str s:V)=[.str s]:=rfl
theorem Hv (s:List UInt8):V.one (.str s:V)=true:=rfl
theorem XQ (s:List UInt8):V.eW (.str s:V)=true:=rfl
theorem VJ:V.cells (.jZ:V)=[.jZ]:=rfl
theorem aeg:V.one (.jZ:V)=true:=rfl
theorem XM:V.eW (.jZ:V)=true:=rfl
theorem VL (b:aO) (o:Nat):V.cells (.ptr b o:V)=[.ptr b o]:=rfl
theorem aei (b:aO) (o:Nat):V.one (.ptr b o:V)=true:=rfl
theorem XO (b:aO) (o:Nat):V.eW (.ptr b o:V)=true:=rfl
theorem VN (b:aO) (o l c:Nat):V.cells (.slice b o l c:V)=[.slice b o l c]:=rfl
theorem aej (b:aO) (o l c:Nat):V.one (.slice b o l c:V)=true:=rfl
theorem XP (b:aO) (o l c:Nat):V.eW (.slice b o l c:V)=true:=rfl
theorem VC (b:aO) (o l c:Nat):V.cells (.dV b o l c:V)=[.dV b o l c]:=rfl
theorem aea (b:aO) (o l c:Nat):V.one (.dV b o l c:V)=true:=rfl
theorem XF (b:aO) (o l c:Nat):V.eW (.dV b o l c:V)=true:=rfl
theorem VP (b:aO) (o l c:Nat):V.cells (.fO b o l c:V)=[.fO b o l c]:=rfl
theorem aek (b:aO) (o l c:Nat):V.one (.fO b o l c:V)=true:=rfl
theorem XR (b:aO) (o l c:Nat):V.eW (.fO b o l c:V)=true:=rfl
theorem VK:V.cells (.b4:V)=[.b4]:=rfl
theorem aeh:V.one (.b4:V)=true:=rfl
theorem XN:V.eW (.b4:V)=true:=rfl
theorem VI:V.cells (.jr:V)=[.jr]:=rfl
theorem aef:V.one (.jr:V)=true:=rfl
theorem XL:V.eW (.jr:V)=true:=rfl
theorem VF (b:aO):V.cells (.map b:V)=[.map b]:=rfl
theorem aec (b:aO):V.one (.map b:V)=true:=rfl
theorem XI (b:aO):V.eW (.map b:V)=true:=rfl
theorem VB (f:FuncId) (cs:List V):V.cells (.func f cs:V)=[.func f cs]:=rfl
theorem ad_ (f:FuncId) (cs:List V):V.one (.func f cs:V)=true:=rfl
theorem XE (f:FuncId) (cs:List V):V.eW (.func f cs:V)=true:=rfl
theorem VH:V.cells (.iu:V)=[.iu]:=rfl
theorem aee:V.one (.iu:V)=true:=rfl
theorem XK:V.eW (.iu:V)=true:=rfl
theorem VD (t:TypeId) (v:V):V.cells (.iface t v:V)=[.iface t v]:=rfl
theorem aeb (t:TypeId) (v:V):V.one (.iface t v:V)=true:=rfl
theorem XG (t:TypeId) (v:V):V.eW (.iface t v:V)=true:=rfl
theorem VG:V.cells (.nilIface:V)=[.nilIface]:=rfl
theorem aed:V.one (.nilIface:V)=true:=rfl
theorem XJ:V.eW (.nilIface:V)=true:=rfl
theorem Vz (cs:List V):V.cells (.agg cs)=cs:=rfl
theorem XC (cs:List V):V.eW (.agg cs)=true:=rfl
theorem XS (cs:List V):V.eW (.tuple cs)=true:=rfl
theorem R4 (n:Nat):n+1+1=n+2:=rfl
theorem R' (n:Nat):n+2+1=n+3:=rfl
theorem R_ (n:Nat):n+3+1=n+4:=rfl
theorem Sa (n:Nat):n+4+1=n+5:=rfl
theorem Sb (n:Nat):n+5+1=n+6:=rfl
theorem Sc (n:Nat):n+6+1=n+7:=rfl
theorem Sd (n:Nat):n+7+1=n+8:=rfl
theorem Se (n:Nat):n+8+1=n+9:=rfl
theorem Sf (n:Nat):n+9+1=n+10:=rfl
theorem R3 (n:Nat):n+10+1=n+11:=rfl
theorem R5 (n:Nat):n+11+1=n+12:=rfl
theorem R6 (n:Nat):n+12+1=n+13:=rfl
theorem R7 (n:Nat):n+13+1=n+14:=rfl
theorem R8 (n:Nat):n+14+1=n+15:=rfl
theorem R9 (n:Nat):n+15+1=n+16:=rfl
theorem s7 (n:Nat):(n+1=n)=False:=eq_false (by omega)
theorem ahj (n:Nat):(n=n+1)=False:=eq_false (by omega)
theorem s8 (n:Nat):(n+2=n)=False:=eq_false (by omega)
theorem ahk (n:Nat):(n=n+2)=False:=eq_false (by omega)
theorem Oc (n:Nat):(n+3=n)=False:=eq_false (by omega)
theorem ahl (n:Nat):(n=n+3)=False:=eq_false (by omega)
theorem adT (n:Nat):(n+4=n)=False:=eq_false (by omega)
theorem ahm (n:Nat):(n=n+4)=False:=eq_false (by omega)
theorem adU (n:Nat):(n+5=n)=False:=eq_false (by omega)
theorem ahn (n:Nat):(n=n+5)=False:=eq_false (by omega)
theorem adV (n:Nat):(n+6=n)=False:=eq_false (by omega)
theorem aho (n:Nat):(n=n+6)=False:=eq_false (by omega)
theorem adW (n:Nat):(n+7=n)=False:=eq_false (by omega)
theorem ahp (n:Nat):(n=n+7)=False:=eq_false (by omega)
theorem adX (n:Nat):(n+8=n)=False:=eq_false (by omega)
theorem ahq (n:Nat):(n=n+8)=False:=eq_false (by omega)
theorem Xu {P:Program} {r:aT} {h:af} {Q:c6→aT→af→Prop} {aI:List gK} {os:List bA} {D:Option gW} {d:Option Nat} {g:G} {rs:List Nat}:fc P (.bool true) true d g rs D os aI r h Q=bk P (.os D (⟨d,g,none,rs⟩::os)::aI) .normal r h Q:=by
 rw [LF];simp
theorem Xr {P:Program} {r:aT} {h:af} {Q:c6→aT→af→Prop} {aI:List gK} {os:List bA} {D:Option gW} {d:Option Nat} {g:G} {rs:List Nat}:fc P (.bool false) false d g rs D os aI r h Q=bk P (.os D (⟨d,g,none,rs⟩::os)::aI) .normal r h Q:=by
 rw [LD];simp
theorem Xt {P:Program} {r:aT} {h:af} {Q:c6→aT→af→Prop} {aI:List gK} {os:List bA} {D:Option gW} {d:Option Nat} {g:G} {rs:List Nat}:fc P (.bool true) false d g rs D os aI r h Q=bk P (.os (hy D r h (.tuple [])) os::aI) .normal (r.set d (.tuple [])) h Q:=by
 rw [LD];simp
theorem Xs {P:Program} {r:aT} {h:af} {Q:c6→aT→af→Prop} {aI:List gK} {os:List bA} {D:Option gW} {d:Option Nat} {g:G} {rs:List Nat}:fc P (.bool false) true d g rs D os aI r h Q=bk P (.os (hy D r h (.tuple [])) os::aI) .normal (r.set d (.tuple [])) h Q:=by
 rw [LF];simp
theorem SM (c:Bool) (a b:V):V.bif (!c) a (V.opt c b)=V.bif (!c) a b:=by cases c<;>rfl
theorem aah (A:Prop):(True→A)=A:=propext ⟨fun q=>q trivial,fun q _=>q⟩
theorem aag (A:Prop):(False→A)=True:=propext ⟨fun _=>trivial,fun _ q=>q.elim⟩
section
variable {P:Program}
theorem gS {b:bF} {aI:List gK} {r:aT} {h:af} {Q:c6→aT→af→Prop} (I:aT→af→Prop) (μ:aT→af→Nat) (ba:I r h)
 (step:∀r h,I r h→bk P [.c b] .normal r h fun e bo ab=>e.andThen (I bo ab∧μ bo ab<μ r h) (bk P aI e bo ab Q)):ve P b aI r h Q:=
 ⟨I,μ,ba,step⟩
theorem Xq {b want:Bool} {d:Option Nat} {f:FuncId} {args:List aU} {rs:List Nat} {os:List bA} {D:Option gW} {aI:List gK} {r:aT} {h:af} {Q:c6→aT→af→Prop} (v:V)
 (bp:(b == want)=true→eS P f (aU.eV (r.trim rs) args) h v h)
 (H:bk P (.os (hy D r h (V.opt (b == want) v)) os::aI) .normal (r.set d (V.opt (b == want) v)) h Q):fc P (.bool b) want d (.call f args) rs D os aI r h Q:=by
 have:=Xp (P:=P) (c:=true) (b:=b) (want:=want) (d:=d) (f:=f) (args:=args) (rs:=rs) (D:=D) (os:=os) (aI:=aI) (r:=r) (h:=h) (Q:=Q) v
 simp only [V.opt,cond_true,Bool.true_and] at this
 exact this bp H
theorem LC {b:Bool} {d:Option Nat} {f:FuncId} {args:List aU} {rs:List Nat} {os:List bA} {D:Option gW} {aI:List gK} {r:aT} {h:af} {Q:c6→aT→af→Prop} (v:V)
 (bp:(!b)=true→eS P f (aU.eV (r.trim rs) args) h v h)
 (H:bk P (.os (hy D r h (V.opt (!b) v)) os::aI) .normal (r.set d (V.opt (!b) v)) h Q):fc P (.bool b) false d (.call f args) rs D os aI r h Q:=by
 refine Xq v ?_ ?_<;>rw [beq_false]<;>assumption
def V.toN:V→Nat
 | .int _ n=>n.toNat
 | _=>0
theorem agJ (k:IntKind) (n:Int):V.toN (.int k n)=n.toNat:=rfl
theorem gp {f:FuncId} {args:List V} {d:Option Nat} {os:List bA} {D:Option gW} {aI:List gK} {r:aT} {h:af} {Q:c6→aT→af→Prop} {v:V}
 (c:eS P f args h v h) (H:bk P (.os (hy D r h v) os::aI) .normal (r.set d v) h Q):nW P f args d D os aI r h Q:=⟨v,h,c,H⟩
theorem cj {f:FuncId} {args:List V} {d:Option Nat} {os:List bA} {D:Option gW} {aI:List gK} {r:aT} {h:af} {Q:c6→aT→af→Prop} {K:V→af→Prop}
 (c:bM P f args h K) (H:∀v ab,K v ab→bk P (.os (hy D r h v) os::aI) .normal (r.set d v) ab Q):nW P f args d D os aI r h Q:=c.mono H
structure Ext (h ab:af):Prop where
 next:h.next≤ab.next
 get:∀b,Old h b→ab.get b=h.get b
theorem Ext.refl (h:af):Ext h h:=⟨Nat.le_refl _,fun _ _=>rfl⟩
theorem Ext.bR {h ab:af} (e:Ext h ab) {b:aO} (ag:Old h b):Old ab b:=Nat.lt_of_lt_of_le ag e.next
theorem Ext.trans {h ab kj:af} (e:Ext h ab) (cU:Ext ab kj):Ext h kj:=
 ⟨Nat.le_trans e.next cU.next,fun b ag=>(cU.get b (e.bR ag)).trans (e.get b ag)⟩
theorem Ext.new {h ab:af} (e:Ext h ab) (k:bW):Ext h (ab.new k):=
 ⟨Nat.le_succ_of_le e.next,fun b ag=>by
   rw [gE,if_neg (fun q=>(Hs (h:=h) ag e.next) ▸ q)]
   exact e.get b ag⟩
theorem Ext.set {h ab:af} (e:Ext h ab) {i:Nat} (az:h.next≤i) (k:bW):Ext h (ab.set (ay i) k):=
 ⟨e.next,fun b ag=>by
   rw [di,if_neg (fun q=>(Hs (h:=h) ag az) ▸ q)]
   exact e.get b ag⟩
theorem Ext.rd {h ab:af} (e:Ext h ab) {b:aO} (ag:Old h b) {ad:List V} (H:Rd h b ad):Rd ab b ad:=by
 unfold Rd at H ⊢
 rw [e.get b ag]
 exact H
def iy (h:af) (b:aO) (off:Nat) (ad:List V):Prop:=Old h b∧∃us,Rd h b us∧off+ad.length≤us.length∧(us.drop off).take ad.length=ad
theorem iy.ext {h ab:af} (e:Ext h ab) {b:aO} {off:Nat} {ad:List V} (H:iy h b off ad):iy ab b off ad:=by
 obtain ⟨ba,us,aa,ae,aF⟩:=H
 exact ⟨e.bR ba,us,e.rd ba aa,ae,aF⟩
theorem iy.fS {h:af} {b:aO} {off:Nat} {ad:List V} (H:iy h b off ad) {i:Nat} (az:i<ad.length):hd (h.get b) (off+i)=some ad[i]:=by
 obtain ⟨_,us,aa,ae,aF⟩:=H
 rw [aa.fS,List.getElem?_eq_getElem (by omega)]
 congr 1
 have:((us.drop off).take ad.length)[i]? =ad[i]? :=by rw [aF]
 rw [List.getElem?_take_of_lt az,List.getElem?_drop,List.getElem?_eq_getElem (by omega),List.getElem?_eq_getElem az] at this
 simpa using this
theorem iy.im {h:af} {b:aO} {off:Nat} {ad:List V} (H:iy h b off ad) {i n:Nat} (az:i+n≤ad.length):lO n (h.get b) (off+i)=some (.agg ((ad.drop i).take n)):=by
 obtain ⟨_,us,aa,ae,aF⟩:=H
 rw [aa.im,if_pos (by omega)]
 congr 2
 have:(((us.drop off).take ad.length).drop i).take n=(ad.drop i).take n:=by rw [aF]
 rw [←this,List.drop_take,List.drop_drop,List.take_take]
 congr 1
 omega
def eL (h:af) (size:Nat) (v:V) (n:Nat) (ad:List V):Prop:=
 ad.length=n * size∧match v with
  | .b4=>n=0
  | .slice b off len _=>len=n∧iy h b off ad
  | .dV b off len _=>len=n∧iy h b off ad
  | .fO _ _ _ _=>n=0
  | _=>False
theorem eL.ext {h ab:af} (e:Ext h ab) {size:Nat} {v:V} {n:Nat} {ad:List V} (H:eL h size v n ad):eL ab size v n ad:=by
 refine ⟨H.1,?_⟩
 have cG:=H.2
 cases v<;>simp only at cG ⊢<;>first | exact cG | exact ⟨cG.1,cG.2.ext e⟩
theorem eL.len {h:af} {size:Nat} {v:V} {n:Nat} {ad:List V} (H:eL h size v n ad):jo v=some (.int .i64 n):=by
 have cG:=H.2
 cases v<;>simp only at cG<;>first
  | (rw [←cG.1];rfl)
  | (subst cG;rfl)
  | (exact cG.elim)
theorem eL.c0 {h:af} {size:Nat} {v:V} {n:Nat} {ad:List V} (H:eL h size v n ad) {k:IntKind} {i:Nat} (az:i<n):
 ∃b off,jj size v (.int k i)=some (.ptr b (off+i * size))∧iy h b off ad:=by
 have cG:=H.2
 cases v<;>simp only at cG<;>first
  | omega
  | (exact cG.elim)
  | skip
 · rename_i b off len cap
   obtain ⟨rfl,aa⟩:=cG
   refine ⟨b,off,?_,aa⟩
   rw [MZ,if_pos (by omega)]
   simp
 · rename_i b off len cap
   obtain ⟨rfl,aa⟩:=cG
   refine ⟨b,off,?_,aa⟩
   rw [MY,if_pos (by omega)]
   simp
end
end Go.Proofs.YtkehcalakofigaaGreatDoor.aS
namespace Go.Proofs.YtkehcalakofigaaGreatDoor.aS
variable [Lay]
open Go Go.RowKit
structure Mod (M:aO→Prop) (h ab:af):Prop where
 next:h.next≤ab.next
 get:∀b,Old h b→¬M b→ab.get b=h.get b
theorem Mod.refl (M:aO→Prop) (h:af):Mod M h h:=⟨Nat.le_refl _,fun _ _ _=>rfl⟩
theorem Mod.bR {M:aO→Prop} {h ab:af} (e:Mod M h ab) {b:aO} (ag:Old h b):Old ab b:=Nat.lt_of_lt_of_le ag e.next
theorem Mod.trans {M:aO→Prop} {h ab kj:af} (e:Mod M h ab) (cU:Mod M ab kj):Mod M h kj:=
 ⟨Nat.le_trans e.next cU.next,fun b ag hm=>(cU.get b (e.bR ag) hm).trans (e.get b ag hm)⟩
theorem Mod.mono {M qv:aO→Prop} {h ab:af} (e:Mod M h ab) (hm:∀b,Old h b→M b→qv b):Mod qv h ab:=
 ⟨e.next,fun b ag aZ=>e.get b ag fun q=>aZ (hm b ag q)⟩
theorem Mod.new {M:aO→Prop} {h ab:af} (e:Mod M h ab) (k:bW):Mod M h (ab.new k):=
 ⟨Nat.le_succ_of_le e.next,fun b ag hm=>by
   rw [gE,if_neg (fun q=>(Hs (h:=h) ag e.next) ▸ q)]
   exact e.get b ag hm⟩
theorem Mod.set {M:aO→Prop} {h ab:af} (e:Mod M h ab) {b:aO} (ag:Old h b→M b) (k:bW):Mod M h (ab.set b k):=
 ⟨e.next,fun bC fP hm=>by
   rw [di]
   by_cases q:b=bC
   · subst q
     exact absurd (ag fP) hm
   · rw [if_neg q]
     exact e.get bC fP hm⟩
theorem Ext.mod {h ab:af} (e:Ext h ab) (M:aO→Prop):Mod M h ab:=⟨e.next,fun b ag _=>e.get b ag⟩
theorem Ext.q5 {h ab kj:af} (e:Ext h ab) {M:aO→Prop} (m:Mod M ab kj) (hm:∀b,M b→h.next≤b8 b):Ext h kj:=
 ⟨Nat.le_trans e.next m.next,fun b ag=>by
   have k3:¬M b:=fun q=>by have:=hm b q;unfold Old at ag;omega
   exact (m.get b (e.bR ag) k3).trans (e.get b ag)⟩
theorem Mod.at {M:aO→Prop} {h ab:af} (e:Mod M h ab) {b:aO} {off:Nat} {ad:List V} (H:iy h b off ad) (hm:¬M b):iy ab b off ad:=by
 obtain ⟨ba,us,aa,ae,aF⟩:=H
 refine ⟨e.bR ba,us,?_,ae,aF⟩
 unfold Rd at aa ⊢
 rw [e.get b ba hm]
 exact aa
theorem fh {h:af} {i:Nat} (az:i<h.next):Old h (ay i):=by unfold Old;rw [c4];exact az
theorem yc {h:af} {b:aO} {i:Nat} (ag:Old h b) (az:h.next≤i):(b=ay i)=False:=by
 apply eq_false
 intro e
 unfold Old at ag
 rw [e,c4] at ag
 omega
def V.a_:V→aO→Prop
 | .slice b _ _ _,bC=>bC=b
 | .dV b _ _ _,bC=>bC=b
 | _,_=>False
theorem eL.one {h:af} {size:Nat} {v:V} {n:Nat} {ad:List V} (H:eL h size v n ad):v.one=true∧v.cells=[v]∧v.eW=true:=by
 have q:=H.2
 cases v<;>simp only at q<;>first | exact ⟨rfl,rfl,rfl⟩ | exact q.elim
theorem eL.mod {M:aO→Prop} {h ab:af} (e:Mod M h ab) {size:Nat} {v:V} {n:Nat} {ad:List V} (H:eL h size v n ad) (hm:∀b,v.a_ b→¬M b):eL ab size v n ad:=by
 refine ⟨H.1,?_⟩
 have cG:=H.2
 cases v<;>simp only at cG ⊢<;>first | exact cG | exact ⟨cG.1,e.at cG.2 (hm _ rfl)⟩
theorem eL.bR {h:af} {size:Nat} {v:V} {n:Nat} {ad:List V} (H:eL h size v n ad) {b:aO} (ag:v.a_ b):Old h b:=by
 have cG:=H.2
 cases v<;>simp only [V.a_] at cG ag<;>first | (exact ag.elim) | (subst ag;exact cG.2.1)
def ej (B:Nat) (h:af) (size:Nat) (v:V) (n:Nat) (ad:List V):Prop:=
 ad.length=n * size∧match v with
  | .b4=>n=0
  | .slice b off len cap=>len=n∧B≤b8 b∧Old h b∧n≤cap∧cap≤top∧∃us cv st,h.get b=.bq us cv st∧off+cap * size≤us.length∧(us.drop off).take ad.length=ad
  | .dV b off len idx=>len=n∧B≤b8 b∧Old h b∧off=0∧idx=0∧∃us st,h.get b=.bq us size st∧ad.length≤us.length∧us.take ad.length=ad
  | _=>False
theorem ej.v {B:Nat} {h:af} {size:Nat} {v:V} {n:Nat} {ad:List V} (H:ej B h size v n ad):eL h size v n ad:=by
 obtain ⟨aa,ae⟩:=H
 refine ⟨aa,?_⟩
 cases v<;>simp only at ae ⊢<;>first | exact ae | skip
 · obtain ⟨aq,_,av,aK,_,us,cv,st,bD,dr,fi⟩:=ae
   refine ⟨aq,av,us,.inr ⟨cv,st,bD⟩,?_,fi⟩
   rw [aa]
   have:=Nat.mul_le_mul_right size aK
   omega
 · obtain ⟨aq,_,av,aK,_,us,st,bD,dr,fi⟩:=ae
   subst aK
   exact ⟨aq,av,us,.inr ⟨size,st,bD⟩,by omega,by simpa using fi⟩
theorem ej.base {B:Nat} {h:af} {size:Nat} {v:V} {n:Nat} {ad:List V} (H:ej B h size v n ad) {b:aO} (ag:v.a_ b):B≤b8 b:=by
 have cG:=H.2
 cases v<;>simp only [V.a_] at cG ag<;>first | (exact ag.elim) | (subst ag;exact cG.2.1)
theorem ej.mono {B IM:Nat} {h:af} {size:Nat} {v:V} {n:Nat} {ad:List V} (H:ej B h size v n ad) (cN:IM≤B):ej IM h size v n ad:=by
 refine ⟨H.1,?_⟩
 have cG:=H.2
 cases v<;>simp only at cG ⊢<;>first | exact cG | exact ⟨cG.1,Nat.le_trans cN cG.2.1,cG.2.2⟩
theorem ej.mod {M:aO→Prop} {h ab:af} (e:Mod M h ab) {B size:Nat} {v:V} {n:Nat} {ad:List V} (H:ej B h size v n ad) (hm:∀b,v.a_ b→¬M b):ej B ab size v n ad:=by
 refine ⟨H.1,?_⟩
 have cG:=H.2
 cases v<;>simp only at cG ⊢<;>first | exact cG | skip
 · obtain ⟨aq,av,aK,bD,dr,us,cv,st,fi,jv⟩:=cG
   exact ⟨aq,av,e.bR aK,bD,dr,us,cv,st,by rw [e.get _ aK (hm _ rfl)];exact fi,jv⟩
 · obtain ⟨aq,av,aK,bD,dr,us,st,fi,jv⟩:=cG
   exact ⟨aq,av,e.bR aK,bD,dr,us,st,by rw [e.get _ aK (hm _ rfl)];exact fi,jv⟩
theorem ej.ext {h ab:af} (e:Ext h ab) {B size:Nat} {v:V} {n:Nat} {ad:List V} (H:ej B h size v n ad):ej B ab size v n ad:=
 H.mod (e.mod fun _=>False) fun _ _ q=>q
theorem NC {h:af} {size:Nat} {v:V} {n:Nat} {ad:List V} (H:eL h size v n ad):lP v=some n:=by
 have cG:=H.2
 cases v<;>simp only at cG<;>first
  | (rw [←cG.1];rfl)
  | (subst cG;rfl)
  | (exact cG.elim)
theorem yH {h:af} {b:aO} {off size n:Nat} {ad:List V} (H:iy h b off ad) (ai:ad.length=n * size):mG h size b off n=some ad:=by
 obtain ⟨_,us,aa,ae,aF⟩:=H
 unfold mG
 rw [aa.mE,show Nat.ble (off+n * size) us.length=true from by rw [Nat.ble_eq];omega,Ay us _ off (by omega),←ai,aF]
 rfl
theorem agd {h:af} {size:Nat} {v:V} {n:Nat} {ad:List V} (H:eL h size v n ad):ru h size v n=some ad:=by
 obtain ⟨aa,ae⟩:=H
 cases v<;>simp only at ae<;>first
  | (exact ae.elim)
  | (obtain ⟨_,aF⟩:=ae;exact yH aF aa)
  | (subst ae
     have:ad=[]:=List.eq_nil_of_length_eq_zero (by omega)
     subst this
     rfl)
theorem ej.grown {B:Nat} {h:af} {size:Nat} {ad:List V} {n:Nat} {st:Bool} (ai:ad.length=n * size) (cN:B≤h.next):ej B (h.new (.bq ad size st)) size (.dV (ay h.next) 0 n 0) n ad:=
 ⟨ai,rfl,by rw [c4];exact cN,Oq,rfl,rfl,ad,st,mV _,Nat.le_refl _,List.take_length⟩
theorem Sk {h:af} {size:Nat} {s x:V} {m:Nat} {ad:List V} (cG:eL h size x m ad) (hm:m≤top):lz size s x h=(match s with
 | .b4=>tT size m ad h
 | .slice b off len cap=>tR size b off len cap m ad h
 | .dV b off len idx=>tQ size b off len idx m ad h
 | _=>.fail):=by
 unfold lz
 rw [NC cG]
 simp only
 rw [agd cG]
 simp only
 rw [show Nat.ble m top=true from by rw [Nat.ble_eq];exact hm]
 rfl
theorem agb (A:List V) (o:Nat) (W:List V) (h:o+W.length≤A.length) (q:Nat):(hB A o W)[q]? =if q<o then A[q]? else if q<o+W.length then W[q-o]? else A[q]? :=by
 have ai:(A.take o).length=o:=by rw [List.length_take];omega
 unfold hB
 rw [List.append_assoc]
 by_cases bs:q<o
 · rw [if_pos bs,List.getElem?_append_left (by omega),List.getElem?_take_of_lt bs]
 · rw [if_neg bs,List.getElem?_append_right (by omega),ai]
   by_cases bN:q<o+W.length
   · rw [if_pos bN,List.getElem?_append_left (by omega)]
   · rw [if_neg bN,List.getElem?_append_right (by omega),List.getElem?_drop]
     congr 1
     omega
theorem Sp {B:Nat} {h:af} {size:Nat} {s x:V} {n m:Nat} {us ad:List V} (b5:1≤size) (H1:ej B h size s n us) (cG:eL h size x m ad) (cN:B≤h.next) (hlen:(n+m) * size≤top) (aR:ed ad=true):
 ∃v ab,lz size s x h=.val v ab∧ej B ab size v (n+m) (us++ad)∧Mod s.a_ h ab∧∀b,v.a_ b→s.a_ b∨h.next≤b8 b:=by
 have k3:n+m≤top:=Nat.le_trans (Nat.le_mul_of_pos_right _ b5) hlen
 have ko:=H1.1
 have jK:=cG.1
 have jL:(us++ad).length=(n+m) * size:=by rw [List.length_append,ko,jK,Nat.add_mul]
 rw [Sk cG (by omega)]
 have ae:=H1.2
 cases s<;>simp only at ae ⊢<;>try (exact ae.elim)
 case b4=>
  subst ae
  have:us=[]:=List.eq_nil_of_length_eq_zero (by omega)
  subst this
  unfold tT
  by_cases hm:m=0
  · subst hm
    have:ad=[]:=List.eq_nil_of_length_eq_zero (by omega)
    subst this
    exact ⟨.b4,h,rfl,⟨by simp,rfl⟩,Mod.refl _ _,fun b ag=>.inl ag⟩
  · rw [show Nat.beq m 0=false from by rw [←Bool.not_eq_true,Nat.beq_eq];exact hm]
    simp only [cond_false]
    rw [Bo (by rw [jK];simpa using hlen) b5]
    refine ⟨_,_,rfl,?_,(Mod.refl _ _).new _,fun b ag=>.inr (by rw [show b=ay h.next from ag,c4];exact Nat.le_refl _)⟩
    have:=ej.grown (B:=B) (h:=h) (size:=size) (ad:=ad) (n:=m) (st:=false) jK cN
    simpa using this
 case slice b off len cap=>
  obtain ⟨rfl,av,aK,bD,dr,oR,cv,st,fi,jv,nE⟩:=ae
  unfold tR
  by_cases ao:len+m≤cap
  · rw [show Nat.ble (len+m) cap=true from by rw [Nat.ble_eq];exact ao]
    simp only [cond_true]
    have fe:off+len * size+ad.length≤oR.length:=by
     have:=Nat.mul_le_mul_right size ao
     rw [Nat.add_mul] at this
     rw [jK]
     omega
    rw [Own.lay (ad:=oR) (cv:=cv) (st:=st) fi fe aR]
    refine ⟨_,_,rfl,⟨jL,rfl,av,aK,ao,dr,_,cv,st,di _ _ _ |>.trans (if_pos rfl),?_,?_⟩,(Mod.refl (V.a_ (.slice b off len cap)) h).set (fun _=>rfl) _,fun bC ag=>.inl ag⟩
    · rw [Cm _ _ _ fe];exact jv
    · rw [List.length_append]
      unfold hB
      have ek:off+us.length≤oR.length:=by rw [ko];omega
      have aN:oR.take (off+len * size)=oR.take off++us:=by
       rw [←ko,List.take_add,nE]
      rw [aN,List.append_assoc,List.append_assoc,List.drop_append,List.drop_eq_nil_of_le (by rw [List.length_take];omega),List.nil_append]
      rw [show off - (oR.take off).length=0 from by rw [List.length_take];omega,List.drop_zero]
      rw [←List.append_assoc,List.take_left' (by rw [List.length_append])]
  · rw [show Nat.ble (len+m) cap=false from by rw [←Bool.not_eq_true,Nat.ble_eq];exact ao]
    simp only [cond_false]
    rw [show (Nat.ble (len+m) top&&Nat.ble cap top)=true from by simp only [Bool.and_eq_true,Nat.ble_eq];exact ⟨k3,dr⟩]
    simp only [cond_true]
    have Fk:iy h b off us:=⟨aK,oR,.inr ⟨cv,st,fi⟩,by rw [ko];have:=Nat.mul_le_mul_right size bD;omega,nE⟩
    rw [yH Fk ko]
    simp only
    rw [Bo (by rw [jL];exact hlen) b5]
    exact ⟨_,_,rfl,ej.grown jL cN,(Mod.refl _ _).new _,fun b ag=>.inr (by rw [show b=ay h.next from ag,c4];exact Nat.le_refl _)⟩
 case dV b off len idx=>
  obtain ⟨rfl,av,aK,rfl,rfl,oR,st,fi,jv,nE⟩:=ae
  unfold tQ
  by_cases hm:m=0
  · subst hm
    have:ad=[]:=List.eq_nil_of_length_eq_zero (by omega)
    subst this
    exact ⟨_,h,rfl,⟨jL,rfl,av,aK,rfl,rfl,oR,st,fi,by simpa using jv,by simpa using nE⟩,Mod.refl _ _,fun b ag=>.inl ag⟩
  · rw [show Nat.beq m 0=false from by rw [←Bool.not_eq_true,Nat.beq_eq];exact hm]
    simp only [cond_false]
    rw [fi]
    simp only [bW.bq,bW.on]
    rw [show (Nat.beq size size&&(Nat.ble (len+m) top&&ed ad)&&Nat.beq 0 (0 * size))=true from by
     simp only [Bool.and_eq_true,Nat.beq_eq,Nat.ble_eq]
     exact ⟨⟨trivial,k3,aR⟩,by omega⟩]
    simp only [cond_true]
    have Fk:iy h b 0 us:=⟨aK,oR,.inr ⟨size,st,fi⟩,by omega,by simpa using nE⟩
    rw [yH Fk ko]
    simp only
    rw [Bo (by rw [jL];exact hlen) b5]
    exact ⟨_,_,rfl,ej.grown (h:=h.set b .dead) jL cN,((Mod.refl (V.a_ (.dV b 0 len 0)) h).set (fun _=>rfl) _).new _,fun bC ag=>.inr (by rw [show bC=ay h.next from ag,c4];exact Nat.le_refl _)⟩
theorem aes (r:aT):aU.opt r none=none:=(rfl)
theorem aet (r:aT) (x:aU):aU.opt r (some x)=some (x.aW r):=(rfl)
theorem JZ {k:IntKind} {m d y:Nat} (h:m≤y):bound (some (.int k (m:Int))) d y=some m:=by
 simp only [bound,V.dJ,mr]
 rw [show (decide ((0:Int)≤(m:Int))&&decide ((m:Int)≤(y:Int)))=true from by simp;omega]
 simp
theorem zJ (d y:Nat):bound none d y=some d:=rfl
theorem adL (b:aO) (o:Nat):q7 (.ptr b o)=some (.ptr b o):=rfl
theorem adu (k bl:IntKind) (a b:Int):iQ (fun b a=>!Int.leB a b) [.int k a,.int bl b]=some (.int k (if b<a then b else a)):=by
 simp only [iQ,ta,V.dJ,mr]
 by_cases h:b<a
 · rw [if_pos h]
   have:¬a≤b:=by omega
   simp [this]
 · rw [if_neg h]
   have:a≤b:=by omega
   simp [this]
theorem N4 (k bl:IntKind) (a b:Int):iQ (fun b a=>!Int.leB b a) [.int k a,.int bl b]=some (.int k (if a<b then b else a)):=by
 simp only [iQ,ta,V.dJ,mr]
 by_cases h:a<b
 · rw [if_pos h]
   have:¬b≤a:=by omega
   simp [this]
 · rw [if_neg h]
   have:b≤a:=by omega
   simp [this]
end Go.Proofs.YtkehcalakofigaaGreatDoor.aS
namespace Go.Proofs.YtkehcalakofigaaGreatDoor.aS
variable [Lay]
open Go Go.RowKit
set_option linter.defProp false
end Go.Proofs.YtkehcalakofigaaGreatDoor.aS
namespace Go.Proofs.YtkehcalakofigaaGreatDoor.aS
variable [Lay]
open Go Go.RowKit
theorem V1 {P:Program} {aI:List gK} {r:aT} {h:af} {Q:c6→aT→af→Prop} {a b:bF}:t_ P (.bool true) a b aI r h Q=bk P (.c a::aI) .normal r h Q:=by
 rw [Kv];simp
theorem V0 {P:Program} {aI:List gK} {r:aT} {h:af} {Q:c6→aT→af→Prop} {a b:bF}:t_ P (.bool false) a b aI r h Q=bk P (.c b::aI) .normal r h Q:=by
 rw [Kv];simp
theorem JU (a b:List UInt8):kc a b=decide (a=b):=by
 rw [r0,Bool.eq_iff_iff]
 simp
theorem Dx (k:IntKind) (b:Int) (d y:Nat):bound (some (.int k b)) d y=if 0≤b∧b≤(y:Int) then some b.toNat else none:=by
 simp only [bound,V.dJ,mr]
 by_cases aa:0≤b<;>by_cases ae:b≤(y:Int)<;>simp [aa,ae]
theorem afW (s:List UInt8) (k:IntKind) (b:Int):kD (.str s) none (some (.int k b)) none=if 0≤b∧b≤(s.length:Int) then some (.str (s.take b.toNat)) else none:=by
 simp only [kD,Dx]
 by_cases h:0≤b∧b≤(s.length:Int)
 · simp only [h,and_self,if_true,bound,List.drop_zero,Nat.sub_zero]
 · simp only [h,if_false]
theorem afX (s:List UInt8) (k:IntKind) (a:Int):kD (.str s) (some (.int k a)) none none=if 0≤a∧a≤(s.length:Int) then some (.str (s.drop a.toNat)) else none:=by
 simp only [kD,zJ,Dx]
 by_cases h:0≤a∧a≤(s.length:Int)
 · simp only [h,and_self,if_true]
   rw [List.take_of_length_le (by rw [List.length_drop];omega)]
 · simp only [h,if_false]
theorem afY (s:List UInt8) (k bl:IntKind) (a b:Int):kD (.str s) (some (.int k a)) (some (.int bl b)) none=if 0≤a∧a≤b∧b≤(s.length:Int) then some (.str ((s.drop a.toNat).take (b.toNat-a.toNat))) else none:=by
 simp only [kD,Dx]
 by_cases h:0≤b∧b≤(s.length:Int)
 · simp only [h,and_self,if_true]
   by_cases ae:0≤a∧a≤b
   · have:0≤a∧a≤((b.toNat:Nat):Int):=by omega
     simp only [this,and_self,if_true,ae,h]
   · have aF:¬(0≤a∧a≤((b.toNat:Nat):Int)):=by omega
     have bu:¬(0≤a∧a≤b∧b≤(s.length:Int)):=by omega
     have cd:¬(0≤a∧a≤b∧True):=fun q=>ae ⟨q.1,q.2.1⟩
     rw [if_neg cd,if_neg aF]
 · have bu:¬(0≤a∧a≤b∧b≤(s.length:Int)):=by omega
   simp only [h,bu,if_false]
theorem afV (s:List UInt8):kD (.str s) none none none=some (.str s):=by
 simp only [kD,zJ,List.drop_zero,Nat.sub_zero,List.take_length]
section
variable {P:Program}
theorem afF (a b:List UInt8):(d'.str .eql).run P (.str a) (.str b)=some (.bool (decide (a=b))):=by simp only [d'.run,qb,oN,JU]
theorem afE (a b:List UInt8):(d'.str .add).run P (.str a) (.str b)=if a.length+b.length≤top then some (.str (a++b)) else none:=by
 simp only [d'.run,qb,Cq]
 by_cases h:a.length+b.length≤top
 · rw [if_pos h,show Nat.ble (a.length+b.length) top=true from by rw [Nat.ble_eq];exact h]
   rfl
 · rw [if_neg h,show Nat.ble (a.length+b.length) top=false from by rw [←Bool.not_eq_true,Nat.ble_eq];exact h]
   rfl
theorem afG (s:List UInt8) (k:IntKind) (i:Int):pU.run (.str s) (.int k i)=if 0≤i∧i < (s.length:Int) then some (.int .u8 (((s[i.toNat]?).getD 0).toNat:Int)) else none:=by
 simp only [pU,V.dJ,mr]
 by_cases aa:0≤i
 · simp only [aa,decide_true,cond_true,true_and]
   by_cases ae:i < (s.length:Int)
   · rw [if_pos ae,List.getElem?_eq_getElem (by omega)]
     rfl
   · rw [if_neg ae,List.getElem?_eq_none (by omega)]
 · simp only [aa,decide_false,cond_false,false_and,if_false]
theorem afH (a b:List UInt8):(d'.str .neq).run P (.str a) (.str b)=some (.bool (!decide (a=b))):=by simp only [d'.run,qb,oN,JU]
end
end Go.Proofs.YtkehcalakofigaaGreatDoor.aS
namespace Go.Proofs.YtkehcalakofigaaGreatDoor.aS
open Go Go.RowKit
set_option linter.defProp false
def ag':=
 And.intro @abq<|And.intro @aaF<|And.intro @abz<|And.intro @aaG<|And.intro @abw<|And.intro @abB<|And.intro @abx<|And.intro @aaX<|And.intro @aaP<|And.intro @aaM<|And.intro @aaN<|And.intro @abg<|And.intro @aaV<|And.intro @abu<|And.intro @abm<|And.intro @ach<|And.intro @abv<|And.intro @acn<|And.intro @aaK<|And.intro @abQ<|And.intro @aa'<|And.intro @ab8<|And.intro @aa_<|And.intro @ab9<|And.intro @abr<|And.intro @ack<|And.intro @aaE<|And.intro @abN<|And.intro @abG<|And.intro @acs<|And.intro @aa2<|And.intro @ab2<|And.intro @aa7<|And.intro @ab5<|And.intro @abD<|And.intro @acq<|And.intro @abC<|And.intro @acp<|And.intro @aaZ<|@abZ
def ag_:=
 And.intro @aa0<|And.intro @ab0<|And.intro @aa1<|And.intro @ab1<|And.intro @aa5<|And.intro @ab3<|And.intro @aa6<|And.intro @ab4<|And.intro @aa9<|And.intro @ab7<|And.intro @aa8<|And.intro @ab6<|And.intro @abf<|And.intro @acd<|And.intro @aaY<|And.intro @abY<|And.intro @abk<|And.intro @acg<|And.intro @abn<|And.intro @aci<|And.intro @aaR<|And.intro @abV<|And.intro @abc<|And.intro @aca<|And.intro @abd<|And.intro @acb<|And.intro @aba<|And.intro @ab'<|And.intro @abp<|And.intro @acj<|And.intro @aaI<|And.intro @abO<|And.intro @aaJ<|And.intro @abP<|And.intro @abE<|And.intro @acr<|And.intro @abj<|And.intro @acf<|And.intro @abH<|@acu
def aha:=
 And.intro @abi<|And.intro @ace<|And.intro @aby<|And.intro @aco<|And.intro @abt<|And.intro @acm<|And.intro @aaC<|And.intro @abM<|And.intro @aaO<|And.intro @abT<|And.intro @abb<|And.intro @ab_<|And.intro @aaQ<|And.intro @abU<|And.intro @aaT<|And.intro @abX<|And.intro @aaS<|And.intro @abW<|And.intro @abR<|And.intro @abS<|And.intro @Ni<|And.intro @aaL<|@aaU
def ahb:=
 And.intro @agr<|And.intro @af3<|And.intro @V1<|And.intro @V0<|And.intro @l9<|And.intro @afn<|And.intro @S1<|And.intro @S0<|And.intro @aev<|And.intro @W0<|And.intro @WZ<|And.intro @S3<|And.intro @WL<|And.intro @WK<|And.intro @aeJ<|And.intro @WT<|And.intro @ad8<|And.intro @ad7<|And.intro @acZ<|And.intro @acX<|And.intro @ac0<|And.intro @acY<|And.intro @ac1<|And.intro @MZ<|And.intro @MY<|And.intro @Wd<|And.intro @WN<|And.intro @WM<|And.intro @agN<|And.intro @afJ<|And.intro @afK<|And.intro @ad1<|And.intro @ad2<|And.intro @aeu<|And.intro @aer<|And.intro @ag1<|And.intro @ag0<|And.intro @SK<|And.intro @SL<|@SM
def ahc:=
 And.intro @SN<|And.intro @SJ<|And.intro @Rj<|And.intro @Rl<|And.intro @Rk<|And.intro @agK<|And.intro @agM<|And.intro @agL<|And.intro @aat<|And.intro @aav<|And.intro @aau<|And.intro @aaB<|And.intro @abF<|And.intro @abl<|And.intro @aaW<|And.intro @abo<|And.intro @abh<|And.intro @abe<|And.intro @aa4<|And.intro @aa3<|And.intro @aaD<|And.intro @aaH<|And.intro @agX<|And.intro @agW<|And.intro @ac_<|And.intro @adb<|And.intro @Nv<|And.intro @Nw<|And.intro @Bf<|And.intro @Ny<|And.intro @agk<|And.intro @acC<|And.intro @mV<|And.intro @gE<|And.intro @di<|And.intro @p0<|And.intro @e7<|And.intro @nx<|And.intro @adE<|@VA
def ahd:=
 And.intro @ad'<|And.intro @XD<|And.intro @VE<|And.intro @Ow<|And.intro @XH<|And.intro @VO<|And.intro @Hv<|And.intro @XQ<|And.intro @VJ<|And.intro @aeg<|And.intro @XM<|And.intro @VL<|And.intro @aei<|And.intro @XO<|And.intro @VN<|And.intro @aej<|And.intro @XP<|And.intro @VC<|And.intro @aea<|And.intro @XF<|And.intro @VP<|And.intro @aek<|And.intro @XR<|And.intro @VK<|And.intro @aeh<|And.intro @XN<|And.intro @VI<|And.intro @aef<|And.intro @XL<|And.intro @VF<|And.intro @aec<|And.intro @XI<|And.intro @VB<|And.intro @ad_<|And.intro @XE<|And.intro @VH<|And.intro @aee<|And.intro @XK<|And.intro @VD<|@aeb
def ahe:=
 And.intro @XG<|And.intro @VG<|And.intro @aed<|And.intro @XJ<|And.intro @Vz<|And.intro @XC<|And.intro @XS<|And.intro @acT<|And.intro @acU<|And.intro @acS<|And.intro @beq_true<|And.intro @beq_false<|And.intro @Bool.not_true<|And.intro @Bool.not_false<|And.intro @Bool.true_and<|And.intro @Bool.and_true<|And.intro @Bool.false_and<|And.intro @Bool.and_false<|And.intro @Bool.not_not<|And.intro @V.bool.injEq<|And.intro @Nat.zero_add<|And.intro @Nat.add_zero<|And.intro @agG<|And.intro @agH<|And.intro @agE<|And.intro @Bool.true_eq_false<|And.intro @Bool.false_eq_true<|And.intro @agJ<|And.intro @aeT<|And.intro @aeU<|And.intro @Sz<|And.intro @Sy<|And.intro @Sv<|And.intro @Ss<|And.intro @YF<|And.intro @YH<|And.intro @YG<|And.intro @St<|And.intro @Su<|@Sw
def ahf:=
 And.intro @Sx<|And.intro @s7<|And.intro @ahj<|And.intro @s8<|And.intro @ahk<|And.intro @Oc<|And.intro @ahl<|And.intro @adT<|And.intro @ahm<|And.intro @adU<|And.intro @ahn<|And.intro @adV<|And.intro @aho<|And.intro @adW<|And.intro @ahp<|And.intro @adX<|And.intro @ahq<|And.intro @Xu<|And.intro @Xr<|And.intro @Xt<|And.intro @Xs<|And.intro @Xv<|And.intro @Bool.or_false<|And.intro @Bool.false_or<|And.intro @Bool.or_true<|And.intro @Bool.true_or<|And.intro @adL<|And.intro @adu<|And.intro @N4<|And.intro @aes<|And.intro @aet<|And.intro @R4<|And.intro @R'<|And.intro @R_<|And.intro @Sa<|And.intro @Sb<|And.intro @Sc<|And.intro @Sd<|And.intro @Se<|@Sf
def ahg:=
 And.intro @R3<|And.intro @R5<|And.intro @R6<|And.intro @R7<|And.intro @R8<|And.intro @R9<|And.intro @afW<|And.intro @afX<|And.intro @afY<|And.intro @afV<|And.intro @afF<|And.intro @afH<|And.intro @afE<|@afG
end Go.Proofs.YtkehcalakofigaaGreatDoor.aS
namespace Go.Proofs.YtkehcalakofigaaGreatDoor.aS
variable [Lay]
open Go Go.RowKit
theorem zC {B:Nat} {h:af} {size:Nat} {s:V} {n:Nat} {us cs:List V} (b5:1≤size) (H1:ej B h size s n us) (cN:B≤h.next) (hlen:(n+1) * size≤top) (gb:cs.length=size) (aR:ed cs=true):
 ∃v ab,lz size s (.slice (ay h.next) 0 1 1) (h.new (.bq cs 0 false))=.val v ab∧ej B ab size v (n+1) (us++cs)∧Mod s.a_ h ab∧h.next+1≤ab.next∧∀b,v.a_ b→s.a_ b∨h.next<b8 b:=by
 have ak:Ext h (h.new (.bq cs 0 false)):=(Ext.refl h).new _
 have bp:eL (h.new (.bq cs 0 false)) size (.slice (ay h.next) 0 1 1) 1 cs:=by
  refine ⟨by rw [gb];omega,rfl,fh (by rw [e7];omega),cs,.inr ⟨0,false,by rw [mV]⟩,by omega,by simp⟩
 obtain ⟨v,ab,aq,av,aK,bD⟩:=Sp b5 (H1.ext ak) bp (by rw [e7];omega) hlen aR
 refine ⟨v,ab,aq,av,(ak.mod _).trans aK,by have:=aK.next;rw [e7] at this;exact this,fun b ag=>?_⟩
 rcases bD b ag with q | q
 · exact .inl q
 · exact .inr (by rw [e7] at q;omega)
theorem Qu:∀l:List UInt8,lY (gP l)=some l
 | []=>rfl
 | c::l=>by
   have bf:=Qu l
   simp only [gP,lY,bf]
   simp
theorem zQ:∀l:List UInt8,(gP l).length=l.length
 | []=>rfl
 | c::l=>by simp only [gP,List.length_cons,zQ l]
theorem J2:∀l m:List UInt8,gP (l++m)=gP l++gP m
 | [],m=>rfl
 | c::l,m=>by simp only [gP,List.cons_append,J2 l m]
theorem Qf {h:af} {b:aO} {us:List V} {cv:Nat} {st:Bool} {off:Nat} {l:List UInt8} (aG:h.get b=.bq us cv st) (ai:off+l.length≤us.length) (hu:(us.drop off).take l.length=gP l):ry b off l.length h=.val (.str l) h:=by
 unfold ry
 rw [aG]
 simp only [bW.mE,bW.bq]
 rw [show Nat.ble (off+l.length) us.length=true from by rw [Nat.ble_eq];exact ai]
 simp only [cond_true]
 rw [Ay us l.length off ai,hu,Qu]
theorem Kx {B:Nat} {h:af} {v:V} {n:Nat} {l:List UInt8} (H:ej B h 1 v n (gP l)):qB.run v h=.val (.str l) h:=by
 have aa:=H.1
 rw [zQ,Nat.mul_one] at aa
 have ae:=H.2
 cases v<;>simp only at ae<;>try (exact ae.elim)
 case b4=>
  subst ae
  rw [List.length_eq_zero_iff] at aa
  subst aa
  rfl
 case slice=>
  obtain ⟨aq,av,aK,bD,dr,us,cv,st,fi,jv,nE⟩:=ae
  rw [zQ] at nE
  simp only [qB]
  rw [aq,←aa]
  exact Qf fi (by omega) nE
 case dV=>
  obtain ⟨aq,av,aK,bD,dr,us,st,fi,jv,nE⟩:=ae
  rw [zQ] at nE jv
  simp only [qB]
  rw [aq,bD,←aa]
  exact Qf fi (by omega) (by simpa using nE)
theorem Mod.self {b:aO} {h ab:af} (e:Mod (fun q=>q=b) h ab) (k:bW):Mod (fun q=>q=b) h (ab.set b k):=e.set (fun _=>rfl) k
theorem Mod.fresh {M:aO→Prop} {h ab:af} (e:Mod M h ab) {i:Nat} (az:h.next≤i) (k:bW):Mod M h (ab.set (ay i) k):=
 e.set (fun q=>absurd (show b8 (ay i)<h.next from q) (by rw [c4];omega)) k
theorem Mod.agF {M N:aO→Prop} {h ae aF:af} (e:Mod M h ae) (q:Mod N ae aF) (aZ:∀b,N b→h.next≤b8 b):Mod M h aF:=
 ⟨Nat.le_trans e.next q.next,fun b aR ag=>by
   rw [q.get b (e.bR aR) (fun k=>absurd (show b8 b<h.next from aR) (by have:=aZ b k;omega)),e.get b aR ag]⟩
end Go.Proofs.YtkehcalakofigaaGreatDoor.aS
namespace Go.Proofs.YtkehcalakofigaaGreatDoor.aS
variable [Lay]
set_option linter.defProp false
open Go Go.RowKit
def aw:=And.intro @ag'<|And.intro @ag_ @aha
def ag2:=And.intro @ahb<|And.intro @ahc<|And.intro @ahd<|And.intro @ahe<|And.intro @ahf @ahg
def ag3:=And.intro @Option.isSome_some.{0}<|And.intro @Option.getD_some.{0}<|And.intro @if_true.{1}<|And.intro @if_false.{1}<|And.intro @true_and<|And.intro @and_true<|And.intro @List.getElem?_cons_zero.{0}<|And.intro @List.getElem?_cons_succ.{0}<|And.intro @List.length_cons.{0}<|And.intro @List.length_nil.{0}<|
 And.intro @List.drop_zero.{0}<|And.intro @List.drop_succ_cons.{0}<|And.intro @List.take_succ_cons.{0}<|And.intro @List.take_zero.{0}<|And.intro @List.cons_append.{0}<|And.intro @List.nil_append.{0}<|And.intro @Option.some.injEq.{0}<|And.intro @exists_eq_left'.{1}<|And.intro @List.cons.injEq.{0}<|
 And.intro @Nat.succ_ne_zero<|And.intro @aah<|And.intro @aag<|And.intro @List.getElem?_nil.{0}<|And.intro @decide_true<|And.intro @decide_false<|And.intro @eq_self.{1}<|And.intro @not_true_eq_false<|And.intro @not_false_eq_true<|And.intro @ite_true.{1} @ite_false.{1}
def bw:=And.intro ag2 (And.intro ag3 (And.intro @hh.eq_1 (And.intro @hh.eq_2 (And.intro @aU.eV.eq_1 (And.intro @aU.eV.eq_2 (And.intro @mF.eq_1 (And.intro @mF.eq_2 (And.intro @mF.eq_3 (And.intro @over.eq_1 (And.intro @over.eq_2 (And.intro @over.eq_3 (And.intro @ed.eq_1 (@ed.eq_2)))))))))))))
def aJ:=And.intro bw (And.intro @c6.ends.eq_1 (And.intro @c6.ends.eq_2 (And.intro @cX.eq_1 (And.intro @cX.eq_2 (And.intro @cX.eq_3 (And.intro @cX.eq_4 (And.intro @oneOf.eq_1 (And.intro @oneOf.eq_2 top.eq_1))))))))
end Go.Proofs.YtkehcalakofigaaGreatDoor.aS
namespace Go.Proofs.YtkehcalakofigaaGreatDoor.aS
variable [Lay]
open Go Go.RowKit
theorem VS {P:Program} {f:FuncId} (a6:Nat.beq f cR=false) {v:V} (bp:∀E x,x=.bool true→Rel E v x) (gG:∃fn,P.funcs[f]? =some fn∧fn.body.isSome=true) (H:∀w,Lay.ok w→Calls P f #[] w fun e aj=>e=.returned (.bool true)∧Below w.heap.size w aj) (h:af):
 eS P f [] h v h:=by
 refine ⟨fun e=>by subst e;simp at a6,.inl ⟨gG,fun au E w xs ak s=>?_⟩⟩
 simp only [a8] at ak
 subst ak
 refine (H w (Lay.e5 s.laid s.frame)).mono fun e aj q=>?_
 obtain ⟨rfl,ag⟩:=q
 exact ⟨E,_,rfl,fun _ _ q=>q,bp E _ rfl,s.below ag⟩
noncomputable def oS (E:Env) (h:af) (p:hn):Env:=fun b=>if b=ay h.next then some p else E b
theorem QC (E:Env) (h:af) (p:hn):oS E h p (ay h.next)=some p:=if_pos rfl
theorem Iz {au:Fr} {E:Env} {h:af} {w:World} (s:a1 au E h w) (p:hn):E.le (oS E h p):=fun b q aC=>by
 unfold oS
 rw [if_neg (fun e=>by rw [e,s.fresh _ (Nat.le_refl _)] at aC;cases aC)]
 exact aC
theorem afT {W:World} {E:Env} {h:af} (s:a1 ⟨W,fun _=>none⟩ E h W) (p:hn) (k:bW) (aR:k.own=false) (aA:fl W.heap.size (oS E h p) W (ay h.next) k):
 a1 ⟨W,fun _=>none⟩ (oS E h p) (h.new k) W:=by
 refine ⟨fun b _=>?_,fun _ _ h=>(by cases h),fun b bC q dS aa ae aN aY aC=>?_,fun i az=>?_,s.frame,s.laid,fun b q n cs st aa aN=>by
  rw [gE] at aa
  by_cases bs:ay h.next=b
  · rw [if_pos bs] at aa;rw [aa] at aR;cases aR
  · rw [if_neg bs] at aa
    unfold oS at aN
    rw [if_neg (fun e=>bs e.symm)] at aN
    exact s.base _ _ _ _ _ aa aN⟩
 · rw [gE]
   by_cases e:ay h.next=b
   · subst e
     rw [if_pos rfl]
     exact aA
   · rw [if_neg e]
     exact (s.a_ b rfl).mono (Iz s p)
 · rw [gE] at aa ae
   by_cases bs:ay h.next=b
   · rw [if_pos bs,aR] at aa;cases aa
   · by_cases bN:ay h.next=bC
     · rw [if_pos bN,aR] at ae;cases ae
     · rw [if_neg bs] at aa
       rw [if_neg bN] at ae
       unfold oS at aN aY
       rw [if_neg (fun e=>bs e.symm)] at aN
       rw [if_neg (fun e=>bN e.symm)] at aY
       exact s.inj b bC q dS aa ae aN aY aC
 · rw [e7] at az
   unfold oS
   rw [if_neg (fun e=>by have:=fB e;omega)]
   exact s.fresh i (by omega)
theorem afU {W:World} {E:Env} {h:af} (s:a1 ⟨W,fun _=>none⟩ E h W) {k base cap:Nat} {c:Array Value} {el:TypeId} {bL:Nat × Nat} (aA:W.heap[k]? =some (.cells c el bL)) {ad:List V}
 (ao:base+ad.length≤c.size) (aH:∀i v y,ad[i]? =some v→c[base+i]? =some y→Rel E v y):
 a1 ⟨W,fun _=>none⟩ (oS E h ⟨k,base,cap⟩) (h.new (.ro ad)) W:=by
 refine afT s _ _ rfl ?_
 have aP:k<W.heap.size:=by
  by_cases aP:k<W.heap.size
  · exact aP
  · rw [Array.getElem?_eq_none (by omega)] at aA
    cases aA
 refine ⟨trivial,⟨k,base,cap⟩,c,el,bL,QC _ _ _,aP,aA,ao,fun i y az a6=>?_⟩
 have:T.get .bad (ay i) (eQ .e 0 ad)=ad[i]:=by
  have:=w8 ad 0 i .e
  rw [Nat.zero_add] at this
  rw [this,if_pos az,List.getElem?_eq_getElem az]
  rfl
 rw [this]
 exact Rel.mono (Iz s _) _ _ (aH i _ y (List.getElem?_eq_getElem az) a6)
end Go.Proofs.YtkehcalakofigaaGreatDoor.aS
