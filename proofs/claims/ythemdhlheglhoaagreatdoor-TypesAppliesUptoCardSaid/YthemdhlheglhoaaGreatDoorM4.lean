/- The abstract machine and its walks (a verified interpreter of the model's code: plain definitions and lemmas, no condition). Printed by a program from longer texts: names made short. -/
import Derived.Test.YthemdhlheglhoaaGreatDoorM3
import Derived.IntWalk
import Derived.Carry
import Derived.OpenShut
import Derived.ChangeSame
import Derived.Lib.Bytealg
import Derived.Lib.IndexMore
import Derived.Handed
import Derived.HandedShaped
import Derived.ChangeArms
import Derived.DataReads
import Derived.ChangeBears
set_option linter.unusedSectionVars false
set_option linter.unusedSimpArgs false
set_option linter.unusedVariables false
namespace Go.Proofs.YthemdhlheglhoaaGreatDoor.a6
variable [Lay]
open Go Go.RowKit
inductive aT where
 | t (n:Nat)
 | c (v:V)
abbrev aR:=Nat→V
def aT.aW (r:aR):aT→V
 | .t n=>r n
 | .c v=>v
def aT.e3 (r:aR):List aT→List V
 | []=>[]
 | x::xs=>x.aW r::aT.e3 r xs
def rx:Operand→aT
 | .tmp t=>bif Nat.ble t top then .t t else .c .bad
 | .const v=>.c (fW v)
 | .func f=>bif Nat.beq f c4 then .c .bad else .c (.func f [])
 | .global _=>.c .bad
def lE:List Operand→List aT
 | []=>[]
 | x::xs=>rx x::lE xs
def aT.opt (r:aR):Option aT→Option V
 | none=>none
 | some x=>some (x.aW r)
def ph:Option Operand→Option aT
 | none=>none
 | some x=>some (rx x)
inductive ej where
 | int (op:BinOp)
 | str (op:BinOp)
 | shl
 | shr
 | tn (neg:Bool)
 | jj (neg:Bool) (k:Nat)
 | other (op:BinOp) (t:TypeId)
noncomputable def ej.run (P:Program):ej→V→V→Option V
 | .int op=>(jX op).run
 | .str op=>(pn op).run
 | .shl=>(sD true).run
 | .shr=>(sD false).run
 | .tn neg=>(hL neg nz).run
 | .jj neg k=>(hL neg (fL k)).run
 | .other op t=>(oF P op t).run
inductive pA where
 | int (k:IntKind)
 | bytes
 | str
 | other (s d:TypeId)
noncomputable def pA.run (P:Program):pA→V→af→aU
 | .int k=>fun x h=>x.dT .fail fun _ n=>.val (.int k (k.wrap n)) h
 | .bytes=>vY.run
 | .str=>pP.run
 | .other s d=>(nx P s d).run
inductive kB where
 | int | str | bool
def kB.eq:kB→db
 | .int=>jL
 | .str=>ry
 | .bool=>nz
inductive yc where
 | arr (n:Nat)
 | str
 | slice
 | map
inductive G where
 | bad
 | fh (x:aT)
 | pick (c a b:aT)
 | new (z:List V)
 | box (x:aT)
 | build (z:List V) (ba:List (Nat × Nat × aT))
 | jh (len size:Nat) (z:List V) (ba:List (Nat × Nat × aT))
 | iB (x:aT)
 | iW (size:Nat) (x:aT)
 | st (size:Nat) (x y:aT)
 | qo (x:aT)
 | bin (k:ej) (x y:aT)
 | un (op:UnOp) (x:aT)
 | ir (k:pA) (x:aT)
 | fn (f:FuncId) (eb:List aT)
 | xh (f:FuncId) (first:List aT)
 | yq (t:TypeId) (z:Option V) (ok:Bool) (x:aT)
 | sa (t:TypeId) (x:aT)
 | xg (size:Nat) (z:List V) (l c:aT)
 | od (x:aT) (bH aD dm:Option aT)
 | fx (size:Nat) (x:aT) (bH aD dm:Option aT)
 | hy (off:Nat) (x:aT)
 | rC (off:Nat) (x:aT)
 | rD (off size:Nat) (x:aT)
 | cH (size:Nat) (x i:aT)
 | um (n size:Nat) (x i:aT)
 | ko (x i:aT)
 | ib (t:TypeId) (x i:aT)
 | look (k:kB) (z:V) (ok:Bool) (x i:aT)
 | nm (k:kB) (m i x:aT)
 | sn (x:Option aT)
 | uU (x:aT)
 | uJ (x:aT)
 | ext (x:aT) (i:Nat)
 | call (f:FuncId) (args:List aT)
 | lN (f:aT) (args:List aT)
 | len (k:yc) (x:aT)
 | app (size:Nat) (s x:aT)
 | copy (size:Nat) (d s:aT)
 | uD (args:List aT)
 | dm (args:List aT)
 | IQ (z:List V) (x:aT)
def iO (r:aR):List (Nat × Nat × aT)→List (Nat × Nat × V)
 | []=>[]
 | (o,s,x)::ba=>(o,s,x.aW r)::iO r ba
def hz:List V→List (Nat × Nat × V)→Option (List V)
 | cells,[]=>some cells
 | cells,(off,size,v)::rest=>bif v.e9&&(Nat.beq v.cells.length size&&Nat.ble (off+v.cells.length) cells.length) then hz (oP cells off v.cells) rest else none
noncomputable def yc.run:yc→V→af→aU
 | .arr n=>fun _ h=>.val (.int .i64 n) h
 | .str=>fun x h=>aU.of h ((l' .string).run x)
 | .slice=>fun x h=>aU.of h ((l' (.slice 0)).run x)
 | .map=>fun x h=>xb [x] h
noncomputable def G.run (P:Program) (g:G) (call:dd) (r:aR) (h:af):aU:=
 match g with
 | .bad=>.fail
 | .fh x=>.val (x.aW r) h
 | .pick c a b=>match c.aW r with
   | .bool t=>.val (bif t then a.aW r else b.aW r) h
   | _=>.fail
 | .new z=>fY (.ptr (aq h.next) 0) (fi h z)
 | .box x=>bif (x.aW r).e9 then fY (.ptr (aq h.next) 0) (fi h (x.aW r).cells) else .fail
 | .build z ba=>(match hz z (iO r ba) with
   | some cs=>.val (.agg cs) h
   | none=>.fail)
 | .jh n _ z ba=>match hz (hZ z n) (iO r ba) with
   | some cs=>(match fi h cs with
     | some ab=>.val (.slice (aq h.next) 0 n n) ab
     | none=>.fail)
   | none=>.fail
 | .iB x=>aU.of h (k0 h (x.aW r))
 | .iW n x=>aU.of h (kZ n h (x.aW r))
 | .st n x y=>fY .bad (nj n h (x.aW r) (y.aW r))
 | .qo x=>aU.of h (qn (x.aW r))
 | .bin k x y=>aU.of h (k.run P (x.aW r) (y.aW r))
 | .un op x=>aU.of h (oh op (x.aW r))
 | .ir k x=>k.run P (x.aW r) h
 | .fn f eb=>.val (.func f (aT.e3 r eb)) h
 | .xh f first=>.val (.mb f (aT.e3 r first)) h
 | .yq t z ok x=>aU.of h (vL t z ok (x.aW r))
 | .sa t x=>.val (.iface t (x.aW r)) h
 | .xg n z l c=>Ag n z (l.aW r) (c.aW r) h
 | .od x bH aD m3=>aU.of h (kx (x.aW r) (aT.opt r bH) (aT.opt r aD) (aT.opt r m3))
 | .fx n x bH aD m3=>aU.of h (match x.aW r with
   | .b6=>A2 (aT.opt r bH) (aT.opt r aD) (aT.opt r m3)
   | .slice b off sj cap=>u1 n b off sj cap (aT.opt r bH) (aT.opt r aD) (aT.opt r m3)
   | .ef b off sj idx=>u0 n b off sj idx (aT.opt r bH) (aT.opt r aD) (aT.opt r m3)
   | .gT b off ks idx=>A3 b off ks idx (aT.opt r bH) (aT.opt r aD) (aT.opt r m3)
   | _=>none)
 | .hy off x=>aU.of h ((x.aW r).hE none fun b o=>some (.ptr b (o+off)))
 | .rC off x=>aU.of h (match x.aW r with
   | .agg cs=>cs[off]?
   | _=>none)
 | .rD off n x=>aU.of h (match x.aW r with
   | .agg cs=>some (.agg ((cs.drop off).take n))
   | _=>none)
 | .cH n x i=>aU.of h ((se n).run (x.aW r) (i.aW r))
 | .um n s x i=>aU.of h ((sd n s).run (x.aW r) (i.aW r))
 | .ko x i=>aU.of h (o8.run (x.aW r) (i.aW r))
 | .ib t x i=>aU.of h ((o7 P t).run (x.aW r) (i.aW r))
 | .look k z ok x i=>aU.of h (ma k.eq z ok h (x.aW r) (i.aW r))
 | .nm k m i x=>fY .bad (lG k.eq h (m.aW r) (i.aW r) (x.aW r))
 | .sn x=>qk (aT.opt r x) h
 | .uU x=>(match x.aW r with
   | .str s=>.val (.ptr (aq h.next) 0) (h.new (.iter s 0))
   | _=>.fail)
 | .uJ x=>sq (x.aW r) h
 | .ext x i=>(match x.aW r with
   | .tuple ad=>aU.of h ad[i]?
   | _=>.fail)
 | .call f args=>call f (aT.e3 r args) h
 | .lN f args=>(f.aW r).uK (aT.e3 r args) fun g xs=>call g xs h
 | .len k x=>k.run (x.aW r) h
 | .app n s x=>lh n (s.aW r) (x.aW r) h
 | .copy n d s=>copyV n (d.aW r) (s.aW r) h
 | .uD args=>aU.of h (iY (fun b a=>!Int.leB a b) (aT.e3 r args))
 | .dm args=>aU.of h (iY (fun b a=>!Int.leB b a) (aT.e3 r args))
 | .IQ z x=>yH z (x.aW r) h
def Gy (P:Program) (op:BinOp) (t:TypeId):ej:=
 match op with
 | .shl=>.shl
 | .shr=>.shr
 | op=>match aX P t with
   | none=>.other op t
   | some aK=>match aK.a' with
     | .int _=>.int op
     | .string=>.str op
     | .bool=>(match op with
       | .eql=>.tn false
       | .neq=>.tn true
       | _=>.other op t)
     | .pointer _=>(match op with
       | .eql=>.jj false 1
       | .neq=>.jj true 1
       | _=>.other op t)
     | .slice _=>(match op with
       | .eql=>.jj false 2
       | .neq=>.jj true 2
       | _=>.other op t)
     | .map _ _=>(match op with
       | .eql=>.jj false 3
       | .neq=>.jj true 3
       | _=>.other op t)
     | .func _ _ _=>(match op with
       | .eql=>.jj false 4
       | .neq=>.jj true 4
       | _=>.other op t)
     | _=>.other op t
def GD (P:Program) (op:BinOp) (t:TypeId) (lit:Bool):ej:=
 bif lit then (match aX P t with
  | some aK=>match aK.a' with
    | .interface _=>match op with
      | .eql=>.jj false 5
      | .neq=>.jj true 5
      | _=>.jj false 99
    | _=>.jj false 99
  | none=>.jj false 99) else Gy P op t
def GB (P:Program) (s d:TypeId):pA:=
 match aX P s,aX P d with
 | some qH,some lO=>match lO.a' with
   | .int k=>.int k
   | .string=>match qH.a' with
     | .slice e=>match aX P e with
       | some bd=>match bd.a' with
         | .int .u8=>.str
         | _=>.other s d
       | none=>.other s d
     | _=>.other s d
   | .slice e=>match aX P e with
     | some bd=>match bd.a' with
       | .int .u8=>.bytes
       | _=>.other s d
     | none=>.other s d
   | _=>.other s d
 | _,_=>.other s d
def ng (place:Nat→Option (Nat × Nat)):List (Nat × Operand)→Option (List (Nat × Nat × aT))
 | []=>some []
 | (i,x)::ba=>match place i with
   | none=>none
   | some (off,size)=>match ng place ba with
     | none=>none
     | some l=>some ((off,size,rx x)::l)
def ND (P:Program) (t:TypeId) (ba:List (Nat × Operand)):G:=
 match aX P t with
 | some aK=>match aK.zero with
   | some z=>match aK.a' with
     | .struct b2=>bif y8 P b2.toList then (match ng (ts P b2) ba with
       | some l=>.build z.cells l
       | none=>.bad) else .bad
     | .array _ e=>match aX P e with
       | some bd=>(match ng (fun i=>some (i * bd.size,bd.size)) ba with
         | some l=>.build z.cells l
         | none=>.bad)
       | none=>.bad
     | _=>.bad
   | none=>.bad
 | none=>.bad
def NH (P:Program) (t:TypeId) (len:Nat) (ba:List (Nat × Operand)):G:=
 match aX P t with
 | some aK=>match aK.a' with
   | .slice e=>match aX P e with
     | some bd=>match bd.zero with
       | some z=>bif Nat.ble (len * bd.size) 1000000&&Nat.beq z.cells.length bd.size then
          (match ng (fun i=>some (i * bd.size,bd.size)) ba with
          | some l=>.jh len bd.size z.cells l
          | none=>.bad) else .bad
       | none=>.bad
     | none=>.bad
   | _=>.bad
 | none=>.bad
def si:TypeDesc→Option kB
 | .int _=>some .int
 | .string=>some .str
 | .bool=>some .bool
 | _=>none
def Dg (P:Program) (t:TypeId):Option (List V):=
 match aX P t with
 | some aK=>match aK.a' with
   | .slice e=>match aX P e with
     | some bd=>match bd.zero with
       | some z=>some z.cells
       | none=>none
     | none=>none
   | _=>none
 | none=>none
theorem Ub (P:Program) (t:TypeId):vW P t=Dg P t:=rfl
def GA (P:Program) (c:Call):G:=
 match c.callee with
 | .value (.func f)=>bif Nat.beq f c4 then .bad else .call f (lE c.args.toList)
 | .value x=>.lN (rx x) (lE c.args.toList)
 | .invoke _ _=>.bad
 | .builtin b=>match b with
   | .len=>match c.argTypes.toList,c.args.toList with
     | [t],[x]=>(match aX P t with
       | some aK=>(match aK.a' with
         | .map _ _=>.len .map (rx x)
         | .array n _=>.len (.arr n) (rx x)
         | .string=>.len .str (rx x)
         | .slice _=>.len .slice (rx x)
         | _=>.bad)
       | none=>.bad)
     | _,_=>.bad
   | .append=>match c.argTypes.toList,c.args.toList with
     | [t,u],[s,x]=>(match aX P t,aX P u with
       | some aK,some pv=>(match pv.a' with
         | .int _=>.bad
         | _=>match aK.a' with
           | .slice e=>(match aX P e with
             | none=>.bad
             | some bd=>match bd.zero with
               | none=>.bad
               | some z=>bif Nat.ble 1 bd.size&&Nat.ble bd.bytes 4096&&Nat.beq z.cells.length bd.size then .app bd.size (rx s) (rx x) else .bad)
           | _=>.bad)
       | _,_=>.bad)
     | _,_=>.bad
   | .copy=>match c.argTypes.toList,c.args.toList with
     | t::_,[d,s]=>(match aX P t with
       | some aK=>(match aK.a' with
         | .slice e=>(match aX P e with
           | some bd=>.copy bd.size (rx d) (rx s)
           | none=>.bad)
         | _=>.bad)
       | none=>.bad)
     | _,_=>.bad
   | .min=>.uD (lE c.args.toList)
   | .max=>.dm (lE c.args.toList)
   | .clear=>match c.argTypes.toList,c.args.toList with
     | [t],[x]=>(match Dg P t with
       | some z=>.IQ z (rx x)
       | none=>.bad)
     | _,_=>.bad
   | _=>.bad
def AS (P:Program) (op:Op):G:=
 match op with
 | .move x=>.fh (rx x)
 | .assign x=>.fh (rx x)
 | .pick c a b=>.pick (rx c) (rx a) (rx b)
 | .alloc t=>(match aX P t with
   | some aK=>(match aK.zero with
     | some z=>.new z.cells
     | none=>.bad)
   | none=>.bad)
 | .box _ x=>.box (rx x)
 | .build t ba=>ND P t ba.toList
 | .buildSlice t n ba=>NH P t n ba.toList
 | .load t x=>(match aX P t with
   | none=>.bad
   | some aK=>bif aK.agg then .iW aK.size (rx x) else bif Nat.beq aK.size 1 then .iB (rx x) else .bad)
 | .store t x y=>(match aX P t with
   | none=>.bad
   | some aK=>.st aK.size (rx x) (rx y))
 | .nilCheck x=>.qo (rx x)
 | .binOp op t x y _=>.bin (GD P op t (n1 x||n1 y)) (rx x) (rx y)
 | .unOp op _ x=>.un op (rx x)
 | .convert s d x=>.ir (GB P s d) (rx x)
 | .makeFunc (.func f) first eb=>bif first.isEmpty&&!Nat.beq f c4 then .fn f (lE eb.toList) else bif eb.isEmpty&&!Nat.beq f c4 then .xh f (lE first.toList) else .bad
 | .makeInterface t x=>(match aX P t with
   | some aK=>bif Nat.beq (en aK.a') 5 then .bad else .sa t (rx x)
   | none=>.bad)
 | .makeSlice t l c=>(match aX P t with
   | some aK=>(match aK.a' with
     | .slice e=>(match aX P e with
       | some bd=>(match bd.zero with
         | some z=>bif Nat.ble bd.bytes 4096 then .xg bd.size z.cells (rx l) (rx c) else .bad
         | none=>.bad)
       | none=>.bad)
     | _=>.bad)
   | none=>.bad)
 | .slice t x bH aD dm=>(match aX P t with
   | none=>.bad
   | some aK=>match aK.a' with
     | .string=>.od (rx x) (ph bH) (ph aD) (ph dm)
     | .slice e=>(match aX P e with
       | none=>.bad
       | some bd=>.fx bd.size (rx x) (ph bH) (ph aD) (ph dm))
     | _=>.bad)
 | .fieldAddr t x i=>(match nG P t i with
   | none=>.bad
   | some f=>match aX P f.type with
     | none=>.bad
     | some iP=>bif Nat.beq iP.size 0 then .bad else .hy f.offset (rx x))
 | .field t x i=>(match nG P t i with
   | none=>.bad
   | some f=>match aX P f.type with
     | none=>.bad
     | some aK=>bif aK.agg then .rD f.offset aK.size (rx x) else .rC f.offset (rx x))
 | .indexAddr t x i=>(match aX P t with
   | none=>.bad
   | some aK=>match aK.a' with
     | .slice e=>(match aX P e with
       | none=>.bad
       | some bd=>.cH bd.size (rx x) (rx i))
     | .array n e=>(match aX P e with
       | none=>.bad
       | some bd=>.um n bd.size (rx x) (rx i))
     | _=>.bad)
 | .index t x i=>(match aX P t with
   | none=>.bad
   | some aK=>match aK.a' with
     | .string=>.ko (rx x) (rx i)
     | _=>.ib t (rx x) (rx i))
 | .range t x=>(match aX P t with
   | some aK=>(match aK.a' with
     | .string=>.uU (rx x)
     | _=>.bad)
   | none=>.bad)
 | .next it true=>.uJ (rx it)
 | .lookup t x k ok=>(match aX P t with
   | some aK=>(match aK.a' with
     | .map bp e=>(match aX P bp with
       | some gp=>(match aX P e with
         | some bd=>(match bd.zero with
           | some z=>(match si gp.a' with
             | some cM=>.look cM z ok (rx x) (rx k)
             | none=>.bad)
           | none=>.bad)
         | none=>.bad)
       | none=>.bad)
     | _=>.bad)
   | none=>.bad)
 | .mapUpdate t m k x | .insert t m k x=>(match aX P t with
   | some aK=>(match aK.a' with
     | .map bp _=>(match aX P bp with
       | some gp=>(match si gp.a' with
         | some cM=>.nm cM (rx m) (rx k) (rx x)
         | none=>.bad)
       | none=>.bad)
     | _=>.bad)
   | none=>.bad)
 | .makeMap t x=>(match aX P t with
   | some aK=>bif Nat.beq (en aK.a') 3 then .sn (ph x) else .bad
   | none=>.bad)
 | .extract x i=>.ext (rx x) i
 | .typeAssert x _ t ok=>(match aX P t with
   | some aK=>bif Nat.beq (en aK.a') 5 then .bad else .yq t aK.zero ok (rx x)
   | none=>.bad)
 | .call c=>GA P c
 | _=>.bad
noncomputable def dE (cy:bt):aR:=fun t=>T.get .bad (aq t) cy
theorem ff (cy:bt) (x:Operand):(bD x).run cy=(rx x).aW (dE cy):=by
 cases x with
 | tmp t=>
   simp only [bD,rx]
   cases Nat.ble t top<;>rfl
 | const v=>rfl
 | func f=>
   simp only [bD,rx]
   cases Nat.beq f c4<;>rfl
 | global g=>rfl
theorem tq (cy:bt):∀xs:List Operand,(nD xs).run cy=aT.e3 (dE cy) (lE xs)
 | []=>rfl
 | x::xs=>by simp only [nD,lE,aT.e3,ff,tq cy xs]
theorem F1 (cy:bt) (x:Option Operand):(n_ x).run cy=aT.opt (dE cy) (ph x):=by
 cases x with
 | none=>rfl
 | some x=>simp only [n_,ph,aT.opt,ff]
theorem y9 (cy:bt) {place:Nat→Option (Nat × Nat)}:∀{ba:List (Nat × Operand)} {l:List (Nat × Nat × aT)},ng place ba=some l→∀cells,kK place cells ((qv ba).run cy)=hz cells (iO (dE cy) l)
 | [],l,h,cells=>by
   simp only [ng,Option.some.injEq] at h
   subst h
   rfl
 | (i,x)::ba,l,h,cells=>by
   simp only [ng] at h
   cases ag:place i with
   | none=>rw [ag] at h;cases h
   | some os=>
     obtain ⟨off,size⟩:=os
     rw [ag] at h
     simp only at h
     cases ai:ng place ba with
     | none=>rw [ai] at h;cases h
     | some dD=>
       rw [ai] at h
       simp only [Option.some.injEq] at h
       subst h
       simp only [qv,kK,ag,iO,hz,ff]
       cases ((rx x).aW (dE cy)).e9&&(Nat.beq ((rx x).aW (dE cy)).cells.length size&&Nat.ble (off + ((rx x).aW (dE cy)).cells.length) cells.length) with
       | false=>rfl
       | true=>exact y9 cy ai _
section
variable {P:Program}
theorem adi (op:BinOp) (t:TypeId):(Gy P op t).run P=(oF P op t).run:=by
 unfold Gy oF
 cases op<;>first | rfl | skip
 all_goals
  cases aA:aX P t with
  | none=>simp only [ej.run];unfold oF;rw [aA]
  | some aK=>
    simp only
    cases hu:aK.a'<;>first | rfl | (simp only [ej.run];unfold oF;rw [aA];simp only [hu];done) | (simp only [ej.run];unfold mC gh;simp only [aA,hu];first | done | rfl)
theorem adl (op:BinOp) (t:TypeId) (lit:Bool):(GD P op t lit).run P=(vN P op t lit).run:=by
 unfold GD vN
 cases lit with
 | false=>simp only [cond_false];exact adi op t
 | true=>
   simp only [cond_true]
   cases aX P t with
   | none=>rfl
   | some aK=>
     simp only
     cases aK.a'<;>first | rfl | (cases op<;>rfl)
theorem adk (s d:TypeId):(GB P s d).run P=(nx P s d).run:=by
 unfold GB
 split
 · rename_i qH lO aQ a1
   split
   · rename_i k hu
     simp only [pA.run];unfold nx;rw [aQ,a1];simp only [hu]
   · rename_i hu
     split
     · rename_i e bn
       split
       · rename_i bd he
         split
         · rename_i hw
           simp only [pA.run];unfold nx;rw [aQ,a1];simp only [hu,bn,he,hw]
         · rfl
       · rfl
     · rfl
   · rename_i e hu
     split
     · rename_i bd he
       split
       · rename_i hw
         simp only [pA.run];unfold nx;rw [aQ,a1];simp only [hu,he,hw]
       · rfl
     · rfl
   · rfl
 · rfl
theorem Fu {d:TypeDesc} {cM:kB} (h:si d=some cM):lr d=true∧js d=cM.eq:=by
 cases d<;>simp only [si] at h<;>first | (cases h;done) | (cases h;exact ⟨rfl,rfl⟩)
theorem adj {c:Call} {call:dd} {cy:bt} {h ab:af} {v:V} (he:(GA P c).run P call (dE cy) h=.val v ab):(oK P c).run call cy h=.val v ab:=by
 unfold GA at he
 unfold oK
 split at he
 · rename_i f aF
   rw [aF]
   cases aZ:Nat.beq f c4 with
   | true=>rw [aZ] at he;cases he
   | false=>
     rw [aZ] at he
     simp only [cond_false,G.run] at he
     simpa only [bD,aZ,cond_false,nC,V.uK,tq,List.append_nil] using he
 · rename_i x al aF
   rw [aF]
   simp only [G.run] at he
   simpa only [ff,tq] using he
 · cases he
 · rename_i b aF
   rw [aF]
   simp only [tq]
   cases b<;>simp only at he<;>try (cases he;done)
   case len=>
    split at he
    · rename_i t x aA al
      cases lq:aX P t with
      | none=>rw [lq] at he;cases he
      | some aK=>
        rw [lq] at he
        simp only at he
        simp only [oG,aA,lq,al,lE,aT.e3]
        cases hu:aK.a'<;>rw [hu] at he<;>first | (cases he;done) | (simpa only [qf,cond_true,cond_false,G.run,yc.run,l',aU.of] using he)
    · cases he
   case append=>
    split at he
    · rename_i t u s x aA al
      split at he
      · rename_i aK pv lq uf
        simp only [oG,aA,al,lE,aT.e3,yn,lq,uf]
        split at he
        · cases he
        · rename_i dp
          split at he
          · rename_i e ca
            cases eM:aX P e with
            | none=>rw [eM] at he;cases he
            | some bd=>
              rw [eM] at he
              simp only at he
              cases bm:bd.zero with
              | none=>rw [bm] at he;cases he
              | some z=>
                rw [bm] at he
                simp only at he
                cases ah:(Nat.ble 1 bd.size&&Nat.ble bd.bytes 4096&&Nat.beq z.cells.length bd.size) with
                | false=>rw [ah] at he;cases he
                | true=>
                  rw [ah] at he
                  simp only [cond_true,G.run] at he
                  cases E5:pv.a'<;>first
                   | (exact absurd E5 (dp _))
                   | (simp only [ca,eM,bm,ah,cond_true];exact he)
          · cases he
      · cases he
    · cases he
   case copy=>
    split at he
    · rename_i t cg d s aA al
      cases lq:aX P t with
      | none=>rw [lq] at he;cases he
      | some aK=>
        rw [lq] at he
        simp only at he
        split at he
        · rename_i e ca
          cases eM:aX P e with
          | none=>rw [eM] at he;cases he
          | some bd=>
            rw [eM] at he
            simp only [G.run] at he
            simp only [oG,aA,al,lE,aT.e3,yI,lq,ca,eM]
            exact he
        · cases he
    · cases he
   case min=>exact he
   case max=>exact he
   case clear=>
    split at he
    · rename_i t x aA al
      cases aF:Dg P t with
      | none=>rw [aF] at he;cases he
      | some z=>
        rw [aF] at he
        simp only [G.run] at he
        simp only [oG,aA,al,lE,aT.e3,Ub,aF]
        exact he
    · cases he
theorem NF {o:Oper} {call:dd} {cy:bt} {h ab:af} {v:V} (he:(AS P o.op).run P call (dE cy) h=.val v ab):(eD P o).run call cy h=.val v ab:=by
 obtain ⟨dst,op,type,pos,after,guard⟩:=o
 cases op<;>simp only [AS] at he<;>try (cases he;done)
 all_goals simp only [eD]
 case move x=>simpa only [ff,G.run] using he
 case assign x=>simpa only [ff,G.run] using he
 case pick c a b=>
  simp only [ff,G.run] at he ⊢
  generalize (rx c).aW (dE cy)=q at he ⊢
  cases q<;>exact he
 case alloc t=>
  cases aA:aX P t with
  | none=>rw [aA] at he;cases he
  | some aK=>
    rw [aA] at he
    simp only at he ⊢
    cases bm:aK.zero with
    | none=>rw [bm] at he;cases he
    | some z=>rw [bm] at he;exact he
 case box t x=>simpa only [ff,G.run] using he
 case build t ba=>
  unfold ND at he
  unfold yw
  cases aA:aX P t with
  | none=>rw [aA] at he;cases he
  | some aK=>
    rw [aA] at he
    simp only at he ⊢
    cases bm:aK.zero with
    | none=>rw [bm] at he;cases he
    | some z=>
      rw [bm] at he
      simp only at he ⊢
      cases hu:aK.a'<;>rw [hu] at he<;>simp only at he ⊢<;>try (cases he;done)
      · rename_i n e
        cases eM:aX P e with
        | none=>rw [eM] at he;cases he
        | some bd=>
          rw [eM] at he
          simp only at he ⊢
          cases ag:ng (fun i=>some (i * bd.size,bd.size)) ba.toList with
          | none=>rw [ag] at he;cases he
          | some l=>
            rw [ag] at he
            simp only [G.run] at he
            rw [y9 cy ag]
            cases av:hz z.cells (iO (dE cy) l) with
            | none=>rw [av] at he;cases he
            | some cs=>rw [av] at he;exact he
      · rename_i b2
        cases ax:y8 P b2.toList with
        | false=>rw [ax] at he;cases he
        | true=>
          rw [ax] at he
          simp only [cond_true] at he ⊢
          cases ag:ng (ts P b2) ba.toList with
          | none=>rw [ag] at he;cases he
          | some l=>
            rw [ag] at he
            simp only [G.run] at he
            rw [y9 cy ag]
            cases av:hz z.cells (iO (dE cy) l) with
            | none=>rw [av] at he;cases he
            | some cs=>rw [av] at he;exact he
 case buildSlice t n ba=>
  unfold NH at he
  unfold rh
  cases aA:aX P t with
  | none=>rw [aA] at he;cases he
  | some aK=>
    rw [aA] at he
    simp only at he ⊢
    cases hu:aK.a'<;>rw [hu] at he<;>simp only at he ⊢<;>try (cases he;done)
    rename_i e
    cases eM:aX P e with
    | none=>rw [eM] at he;cases he
    | some bd=>
      rw [eM] at he
      simp only at he ⊢
      cases bm:bd.zero with
      | none=>rw [bm] at he;cases he
      | some z=>
        rw [bm] at he
        simp only at he ⊢
        cases ah:(Nat.ble (n * bd.size) 1000000&&Nat.beq z.cells.length bd.size) with
        | false=>rw [ah] at he;cases he
        | true=>
          rw [ah] at he
          simp only [cond_true] at he ⊢
          cases ag:ng (fun i=>some (i * bd.size,bd.size)) ba.toList with
          | none=>rw [ag] at he;cases he
          | some l=>
            rw [ag] at he
            simp only [G.run] at he
            rw [y9 cy ag]
            exact he
 case load t x=>
  unfold m_
  cases aA:aX P t with
  | none=>rw [aA] at he;cases he
  | some aK=>
    rw [aA] at he
    simp only at he ⊢
    cases br:aK.agg with
    | true=>rw [br] at he;simpa only [cond_true,ff,G.run] using he
    | false=>
      rw [br] at he
      simp only [cond_false] at he ⊢
      cases aQ:Nat.beq aK.size 1 with
      | true=>rw [aQ] at he;simpa only [cond_true,ff,G.run] using he
      | false=>rw [aQ] at he;cases he
 case store t x y=>
  unfold pj
  cases aA:aX P t with
  | none=>rw [aA] at he;cases he
  | some aK=>rw [aA] at he;simpa only [ff,G.run] using he
 case nilCheck x=>simpa only [ff,G.run] using he
 case binOp op t x y t2=>simpa only [ff,G.run,adl] using he
 case unOp op t x=>simpa only [ff,G.run] using he
 case convert s d x=>simpa only [ff,G.run,adk] using he
 case makeFunc fn first eb=>
  cases fn<;>simp only at he<;>try (cases he;done)
  simp only
  cases av:(first.isEmpty&&!Nat.beq _ c4) with
  | true=>rw [av] at he;simpa only [cond_true,tq,G.run] using he
  | false=>
    rw [av] at he
    simp only [cond_false] at he ⊢
    cases hM:(eb.isEmpty&&!Nat.beq _ c4) with
    | true=>rw [hM] at he;simpa only [cond_true,tq,G.run] using he
    | false=>rw [hM] at he;cases he
 case typeAssert x qN t ok=>
  cases aA:aX P t with
  | none=>rw [aA] at he;cases he
  | some aK=>
    rw [aA] at he
    simp only at he ⊢
    cases ah:Nat.beq (en aK.a') 5 with
    | true=>rw [ah] at he;cases he
    | false=>rw [ah] at he;simpa only [cond_false,ff,G.run] using he
 case makeInterface t x=>
  cases aA:aX P t with
  | none=>rw [aA] at he;cases he
  | some aK=>
    rw [aA] at he
    simp only at he ⊢
    cases ah:Nat.beq (en aK.a') 5 with
    | true=>rw [ah] at he;cases he
    | false=>rw [ah] at he;simpa only [cond_false,ff,G.run] using he
 case makeSlice t l c=>
  unfold Af
  cases aA:aX P t with
  | none=>rw [aA] at he;cases he
  | some aK=>
    rw [aA] at he
    simp only at he ⊢
    cases hu:aK.a'<;>rw [hu] at he<;>simp only at he ⊢<;>try (cases he;done)
    rename_i e
    cases eM:aX P e with
    | none=>rw [eM] at he;cases he
    | some bd=>
      rw [eM] at he
      simp only at he ⊢
      cases bm:bd.zero with
      | none=>rw [bm] at he;cases he
      | some z=>
        rw [bm] at he
        simp only at he ⊢
        cases ah:Nat.ble bd.bytes 4096 with
        | false=>rw [ah] at he;cases he
        | true=>rw [ah] at he;simpa only [cond_true,ff,G.run] using he
 case slice t x bH aD m3=>
  unfold A1
  cases aA:aX P t with
  | none=>rw [aA] at he;cases he
  | some aK=>
    rw [aA] at he
    simp only at he ⊢
    cases hu:aK.a'<;>rw [hu] at he<;>simp only at he ⊢<;>try (cases he;done)
    · simpa only [ff,F1,G.run] using he
    · rename_i e
      cases eM:aX P e with
      | none=>rw [eM] at he;cases he
      | some bd=>
        rw [eM] at he
        simp only [ff,F1,G.run] at he ⊢
        generalize (rx x).aW (dE cy)=q at he ⊢
        cases q<;>exact he
 case fieldAddr t x i=>
  unfold y2
  cases av:nG P t i with
  | none=>rw [av] at he;cases he
  | some f=>
    rw [av] at he
    simp only at he ⊢
    cases aA:aX P f.type with
    | none=>rw [aA] at he;cases he
    | some iP=>
      rw [aA] at he
      simp only at he ⊢
      cases ah:Nat.beq iP.size 0 with
      | true=>rw [ah] at he;cases he
      | false=>rw [ah] at he;simpa only [cond_false,ff,G.run] using he
 case field t x i=>
  unfold y5
  cases av:nG P t i with
  | none=>rw [av] at he;cases he
  | some f=>
    rw [av] at he
    simp only [nd] at he ⊢
    cases aA:aX P f.type with
    | none=>rw [aA] at he;cases he
    | some iP=>
      rw [aA] at he
      simp only at he ⊢
      cases ah:iP.agg with
      | true=>
        rw [ah] at he
        simp only [cond_true,ff,G.run] at he ⊢
        generalize (rx x).aW (dE cy)=q at he ⊢
        cases q<;>exact he
      | false=>
        rw [ah] at he
        simp only [cond_false,ff,G.run] at he ⊢
        generalize (rx x).aW (dE cy)=q at he ⊢
        cases q<;>exact he
 case indexAddr t x i=>
  unfold zR
  cases aA:aX P t with
  | none=>rw [aA] at he;cases he
  | some aK=>
    rw [aA] at he
    simp only at he ⊢
    cases hu:aK.a'<;>rw [hu] at he<;>simp only at he ⊢<;>try (cases he;done)
    all_goals
     rename_i e
     cases eM:aX P e with
     | none=>rw [eM] at he;cases he
     | some bd=>rw [eM] at he;simpa only [ff,G.run] using he
 case index t x i=>
  cases aA:aX P t with
  | none=>rw [aA] at he;cases he
  | some aK=>
    rw [aA] at he
    simp only at he
    cases hu:aK.a'<;>rw [hu] at he<;>simp only [G.run] at he
    case string=>
     unfold o7
     rw [aA]
     simp only [hu]
     simpa only [ff] using he
    all_goals simpa only [ff] using he
 case range t x=>
  unfold AP
  cases aA:aX P t with
  | none=>rw [aA] at he;cases he
  | some aK=>
    rw [aA] at he
    simp only at he ⊢
    cases hu:aK.a'<;>rw [hu] at he<;>simp only at he ⊢<;>try (cases he;done)
    simp only [ff,G.run] at he ⊢
    generalize (rx x).aW (dE cy)=q at he ⊢
    cases q<;>exact he
 case next it b=>
  cases b<;>simp only at he<;>try (cases he;done)
  simpa only [cond_true,ff,G.run] using he
 case lookup t x k ok=>
  unfold Ad
  cases aA:aX P t with
  | none=>rw [aA] at he;cases he
  | some aK=>
    rw [aA] at he
    simp only at he ⊢
    cases hu:aK.a'<;>rw [hu] at he<;>simp only at he ⊢<;>try (cases he;done)
    rename_i bp e
    cases ax:aX P bp with
    | none=>rw [ax] at he;cases he
    | some gp=>
      rw [ax] at he
      simp only at he ⊢
      cases eM:aX P e with
      | none=>rw [eM] at he;cases he
      | some bd=>
        rw [eM] at he
        simp only at he ⊢
        cases bm:bd.zero with
        | none=>rw [bm] at he;cases he
        | some z=>
          rw [bm] at he
          simp only at he ⊢
          cases iz:si gp.a' with
          | none=>rw [iz] at he;cases he
          | some cM=>
            rw [iz] at he
            obtain ⟨au,aC⟩:=Fu iz
            simp only [au,aC,cond_true]
            simpa only [ff,G.run] using he
 case mapUpdate t m k x=>
  unfold mr
  cases aA:aX P t with
  | none=>rw [aA] at he;cases he
  | some aK=>
    rw [aA] at he
    simp only at he ⊢
    cases hu:aK.a'<;>rw [hu] at he<;>simp only at he ⊢<;>try (cases he;done)
    rename_i bp e
    cases ax:aX P bp with
    | none=>rw [ax] at he;cases he
    | some gp=>
      rw [ax] at he
      simp only at he ⊢
      cases iz:si gp.a' with
      | none=>rw [iz] at he;cases he
      | some cM=>
        rw [iz] at he
        obtain ⟨au,aC⟩:=Fu iz
        simp only [au,aC,cond_true]
        simpa only [ff,G.run] using he
 case insert t m k x=>
  unfold mr
  cases aA:aX P t with
  | none=>rw [aA] at he;cases he
  | some aK=>
    rw [aA] at he
    simp only at he ⊢
    cases hu:aK.a'<;>rw [hu] at he<;>simp only at he ⊢<;>try (cases he;done)
    rename_i bp e
    cases ax:aX P bp with
    | none=>rw [ax] at he;cases he
    | some gp=>
      rw [ax] at he
      simp only at he ⊢
      cases iz:si gp.a' with
      | none=>rw [iz] at he;cases he
      | some cM=>
        rw [iz] at he
        obtain ⟨au,aC⟩:=Fu iz
        simp only [au,aC,cond_true]
        simpa only [ff,G.run] using he
 case makeMap t x=>
  unfold uB
  cases aA:aX P t with
  | none=>rw [aA] at he;cases he
  | some aK=>
    rw [aA] at he
    simp only at he ⊢
    cases ah:Nat.beq (en aK.a') 3 with
    | false=>rw [ah] at he;cases he
    | true=>rw [ah] at he;simpa only [cond_true,F1,G.run] using he
 case extract x i=>
  simp only [ff,G.run] at he ⊢
  generalize (rx x).aW (dE cy)=q at he ⊢
  cases q<;>exact he
 case call c=>exact adj he
end
end Go.Proofs.YthemdhlheglhoaaGreatDoor.a6
namespace Go.Proofs.YthemdhlheglhoaaGreatDoor.a6
variable [Lay]
open Go Go.RowKit
def e7 (P:Program) (f:FuncId) (args:List V) (h:af) (v:V) (ab:af):Prop:=
 f≠c4∧(((∃fn,P.funcs[f]? =some fn∧fn.body.isSome=true)∧∀(ar:Fr) E w xs,a7 E args xs→aY ar E h w→
  Calls P f xs.toArray w fun e aj=>∃ao x,e=.returned x∧E.le ao∧Rel ao v x∧aY ar ao ab aj)∨
 ∀(ar:Fr) E w xs,a7 E args xs→aY ar E h w→∃ao x aj,(callFunc f xs.toArray).run P w=.ok (.value x) aj∧E.le ao∧Rel ao v x∧aY ar ao ab aj)
def HN (P:Program) (args:List V) (b:aO) (h:af) (v:V) (ab:af):Prop:=
 ∀(ar:Fr) E w xs p,a7 E args xs→aY ar E h w→E b=some p→
  ∃f tmps assign body,(Instr.yield p.a8 xs.toArray).run P w=.ok (.round p.a8 f tmps assign body) w∧
   RoundIn (b8 none) 0 P p.a8 f tmps assign body w fun e aj=>∃ao x,e=.returned x∧E.le ao∧Rel ao v x∧aY ar ao ab aj
theorem e7.calls {P:Program} (bx:ea P) {f:FuncId} {args:List V} {h ab:af} {v:V} (H:e7 P f args h v ab) (ah:∃fn,P.funcs[f]? =some fn∧fn.body.isSome=true) (ar:Fr) (E:Env) (w:World) (xs:List Value) (al:a7 E args xs) (s:aY ar E h w):
 Calls P f xs.toArray w fun e aj=>∃ao x,e=.returned x∧E.le ao∧Rel ao v x∧aY ar ao ab aj:=by
 rcases H.2 with ⟨_,H⟩ | H
 · exact H ar E w xs al s
 · obtain ⟨ao,x,aj,aG,_⟩:=H ar E w xs al s
   obtain ⟨fn,aa,ae⟩:=ah
   rw [qG bx aa ae] at aG
   cases aG
def bI (P:Program) (f:FuncId) (args:List V) (h:af) (K:V→af→Prop):Prop:=∃v ab,e7 P f args h v ab∧K v ab
def yj (P:Program) (args:List V) (b:aO) (h:af) (K:V→af→Prop):Prop:=∃v ab,HN P args b h v ab∧K v ab
def HO (P:Program) (xs:List V) (h:af) (K:V→af→Prop):Prop:=∃cu b,xs=cu++[.ptr b 0]∧yj P cu b h K
def Hp (P:Program) (g:FuncId) (xs:List V) (h:af) (K:V→af→Prop):Prop:=if g=c4 then HO P xs h K else bI P g xs h K
def V.target (v:V) (args:List V):Option (FuncId × List V):=
 match v with
 | .func g cs=>some (g,args++cs)
 | .mb g cs=>some (g,cs++args)
 | _=>none
theorem MA {v:V} {args xs:List V} {g:FuncId} (h:v.target args=some (g,xs)) (F:FuncId→List V→aU):v.uK args F=F g xs:=by
 cases v<;>simp only [V.target] at h<;>try (cases h;done)
 all_goals (simp only [Option.some.injEq,Prod.mk.injEq] at h;obtain ⟨rfl,rfl⟩:=h;rfl)
theorem bI.mono {P:Program} {f:FuncId} {args:List V} {h:af} {K k_:V→af→Prop} (c:bI P f args h K) (ax:∀v ab,K v ab→k_ v ab):bI P f args h k_:=by
 obtain ⟨v,ab,au,aC⟩:=c
 exact ⟨v,ab,au,ax v ab aC⟩
def ju:dd:=fun _ _ _=>.fail
theorem An (P:Program):fy P ju∧fI P ju:=
 ⟨⟨fun _ f args h v ab _ he=>by simp [ju] at he,fun _ f args h v ab _ he=>by simp [ju] at he,fun _ args b h v ab he=>by simp [ju] at he,fun args h v ab he=>by simp [ju] at he⟩,fun f args h v ab he=>by simp [ju] at he⟩
open Classical in
noncomputable def k5 (f:FuncId) (args:List V) (h:af) (v:V) (ab:af):dd:=
 fun f1 bJ aa=>if f1=f∧bJ=args∧aa=h then .val v ab else .fail
theorem MH {P:Program} {f:FuncId} {args:List V} {h ab:af} {v:V} (H:e7 P f args h v ab):fy P (k5 f args h v ab)∧fI P (k5 f args h v ab):=by
 refine ⟨⟨fun ar f1 bJ aa v1 e4 _ he=>?_,fun ar f1 bJ aa v1 e4 _ he=>?_,fun ar bJ b aa v1 e4 he=>?_,fun bJ aa v1 e4 he=>?_⟩,fun f1 bJ aa v1 e4 he=>?_⟩
 · unfold k5 at he
   split at he
   · rename_i aF
     obtain ⟨rfl,rfl,rfl⟩:=aF
     simp only [aU.val.injEq] at he
     obtain ⟨rfl,rfl⟩:=he
     intro E w xs al s
     rcases H.2 with H | H
     · exact .inl ⟨H.1,H.2 ar E w xs al s⟩
     · exact .inr (H ar E w xs al s)
   · cases he
 · unfold k5 at he
   split at he<;>cases he
 · unfold k5 at he
   split at he
   · rename_i aF
     exact absurd aF.1.symm H.1
   · cases he
 · unfold k5 at he
   split at he<;>cases he
 · trivial
theorem ad4 {xs cu:List V} {x y:V} (h:xs++[x]=cu++[y]):xs=cu∧x=y:=by
 have:=List.append_inj' h rfl
 exact ⟨this.1,by simpa using this.2⟩
theorem acr {P:Program} {args:List V} {b:aO} {h ab:af} {v:V} (H:HN P args b h v ab):fy P (k5 c4 (args++[.ptr b 0]) h v ab)∧fI P (k5 c4 (args++[.ptr b 0]) h v ab):=by
 refine ⟨⟨fun ar f1 bJ aa v1 e4 dp he=>?_,fun ar f1 bJ aa v1 e4 _ he=>?_,fun ar bJ ct aa v1 e4 he=>?_,fun bJ aa v1 e4 he=>?_⟩,fun f1 bJ aa v1 e4 he=>?_⟩
 · unfold k5 at he
   split at he
   · rename_i aF
     exact absurd aF.1 dp
   · cases he
 · unfold k5 at he
   split at he<;>cases he
 · unfold k5 at he
   split at he
   · rename_i aF
     obtain ⟨_,aF,rfl⟩:=aF
     obtain ⟨rfl,ah⟩:=ad4 aF
     simp only [V.ptr.injEq,and_true] at ah
     subst ah
     simp only [aU.val.injEq] at he
     obtain ⟨rfl,rfl⟩:=he
     exact fun E w xs p al s ag=>H ar E w xs p al s ag
   · cases he
 · unfold k5 at he
   split at he<;>cases he
 · trivial
theorem F2 {f:FuncId} {args:List V} {h ab:af} {v:V}:k5 f args h v ab f args h=.val v ab:=by
 unfold k5
 rw [if_pos ⟨rfl,rfl,rfl⟩]
def aR.set (r:aR) (d:Option Nat) (v:V):aR:=
 match d with
 | none=>r
 | some d=>fun t=>if t=d then v else r t
def aR.trim (r:aR):List Nat→aR
 | [],_=>.bad
 | u::us,t=>if t=u then r t else aR.trim r us t
def aR.bb:List V→aR
 | [],_=>.bad
 | v::ad,t=>if t=0 then v else aR.bb ad (t-1)
noncomputable def xP (r:aR):List Nat→bt
 | []=>.e
 | t::cg=>T.put .bad (r t) (aq t) (xP r cg)
theorem Ov (r:aR):∀cg:List Nat,dE (xP r cg)=aR.trim r cg
 | []=>by funext t;simp [dE,xP,aR.trim]
 | u::cg=>by
   funext t
   have bh:=congrFun (Ov r cg) t
   simp only [dE] at bh
   simp only [dE,xP,aR.trim,T.gP]
   by_cases h:t=u
   · subst h;simp
   · rw [if_neg (fun e=>h (eZ e).symm),if_neg h]
     exact bh
theorem Bb (cy:bt):∀cg:List Nat,dE (c6 cy cg)=aR.trim (dE cy) cg
 | []=>by funext t;simp [dE,c6,aR.trim]
 | u::cg=>by
   funext t
   have bh:=congrFun (Bb cy cg) t
   simp only [dE] at bh
   simp only [dE,c6,aR.trim,T.gP]
   by_cases h:t=u
   · subst h;simp
   · rw [if_neg (fun e=>h (eZ e).symm),if_neg h]
     exact bh
theorem G' {r:aR}:∀{cg:List Nat} {t:Nat},t ∈ cg→aR.trim r cg t=r t
 | [],t,h=>by simp at h
 | u::cg,t,h=>by
   simp only [aR.trim]
   by_cases hu:t=u
   · rw [if_pos hu]
   · rw [if_neg hu]
     simp only [List.mem_cons] at h
     exact G' (h.resolve_left hu)
theorem Ox {r:aR}:∀{cg:List Nat} {t:Nat},t ∉ cg→aR.trim r cg t=.bad
 | [],t,_=>rfl
 | u::cg,t,h=>by
   simp only [List.mem_cons,not_or] at h
   simp only [aR.trim]
   rw [if_neg h.1]
   exact Ox h.2
theorem AK (d:Option Nat) (cy:bt) (v:V):dE ((eR d).run cy v)=(dE cy).set d v:=by
 cases d with
 | none=>rfl
 | some d=>
   funext t
   simp only [dE,eR,aR.set,T.gP]
   by_cases h:t=d
   · subst h;simp
   · rw [if_neg (fun e=>h (eZ e).symm),if_neg h]
abbrev dN:Nat:=17179869185
def Out (an:Nat) (r:aR):Prop:=∀t,an≤t→t≠dN→r t=.bad
theorem yZ {an:Nat} {r:aR} (aS:Out an r):∃cy,dE cy=r:=by
 refine ⟨xP r (dN::List.range an),?_⟩
 rw [Ov]
 funext t
 by_cases h:t<an
 · exact G' (List.mem_cons_of_mem _ (List.mem_range.2 h))
 · by_cases ae:t=dN
   · exact G' (by rw [ae];exact List.mem_cons_self)
   · rw [Ox (by simp only [List.mem_cons,List.mem_range,not_or];exact ⟨ae,h⟩),aS t (by omega) ae]
theorem Out.set {an:Nat} {r:aR} (aS:Out an r) {d:Option Nat} (a1:eG an d=true) (v:V):Out an (r.set d v):=by
 intro t aA aQ
 cases d with
 | none=>exact aS t aA aQ
 | some d=>
   simp only [eG,Bool.and_eq_true,Nat.blt_eq] at a1
   simp only [aR.set]
   rw [if_neg (by omega)]
   exact aS t aA aQ
theorem GQ {an:Nat} {r:aR} {d:Option Nat} (a1:eG an d=true) (v:V):r.set d v dN=r dN:=by
 cases d with
 | none=>rfl
 | some d=>
   simp only [eG,Bool.and_eq_true,Nat.blt_eq,Nat.ble_eq] at a1
   simp only [aR.set]
   rw [if_neg (by have:=a1.2;unfold top at this;unfold dN;omega)]
structure iJ (E:Env) (an:Nat) (r:aR) (a:Act):Prop where
 size:a.tmps.size=an
 defers:jA E (r dN) a.defers
 aB:∀t,t≠dN→Rel E (r t) (a.tmps.getD t undef)
theorem uE {t:Nat} (h:t≤top):t≠dN:=by unfold top at h;unfold dN;omega
theorem iJ.mono {E ao:Env} (h:E.le ao) {an:Nat} {r:aR} {a:Act} (k:iJ E an r a):iJ ao an r a:=
 ⟨k.size,k.defers.mono h,fun t aA=>Rel.mono h _ _ (k.aB t aA)⟩
theorem iJ.put {E ao:Env} (h:E.le ao) {an:Nat} {r:aR} {a:Act} (k:iJ E an r a) {d:Option Nat} (a1:eG an d=true) {v:V} {x:Value} (al:Rel ao v x):iJ ao an (r.set d v) (a.put d x):=by
 cases d with
 | none=>exact k.mono h
 | some d=>
   have aQ:=GQ (r:=r) a1 v
   simp only [eG,Bool.and_eq_true,Nat.blt_eq] at a1
   refine ⟨by simp [Act.put,k.size],by rw [aQ];exact k.defers.mono h,fun t eN=>?_⟩
   simp only [aR.set,Act.put]
   rw [Array.getD_eq_getD_getElem?,Array.getElem?_setIfInBounds]
   by_cases aA:t=d
   · subst aA
     rw [if_pos rfl,if_pos rfl,if_pos (by rw [k.size];exact a1.1)]
     exact al
   · rw [if_neg aA,if_neg (fun e=>aA e.symm),←Array.getD_eq_getD_getElem?]
     exact Rel.mono h _ _ (k.aB t eN)
noncomputable def G.wp (P:Program) (g:G) (r:aR) (h:af) (K:V→af→Prop):Prop:=
 match g with
 | .call f args=>bI P f (aT.e3 r args) h K
 | .lN f args=>∃g xs,(f.aW r).target (aT.e3 r args)=some (g,xs)∧Hp P g xs h K
 | g=>∃v ab,g.run P ju r h=.val v ab∧K v ab
theorem G.u' {P:Program} {g:G} {r:aR} {h:af} {K:V→af→Prop} (H:g.wp P r h K):∃call v ab,(fy P call∧fI P call)∧g.run P call r h=.val v ab∧K v ab:=by
 cases g
 case call f args=>
  obtain ⟨v,ab,au,aC⟩:=H
  exact ⟨_,v,ab,MH au,F2,aC⟩
 case lN f args=>
  obtain ⟨g,xs,av,H⟩:=H
  unfold Hp at H
  split at H
  rotate_left
  · obtain ⟨v,ab,au,aC⟩:=H
    refine ⟨_,v,ab,MH au,?_,aC⟩
    simp only [G.run]
    rw [MA av]
    exact F2
  · rename_i aE
    subst aE
    obtain ⟨cu,b,rfl,v,ab,au,aC⟩:=H
    refine ⟨_,v,ab,acr au,?_,aC⟩
    simp only [G.run]
    rw [MA av]
    exact F2
 all_goals
  obtain ⟨v,ab,au,aC⟩:=H
  exact ⟨ju,v,ab,An P,au,aC⟩
structure bA where
 dst:Option Nat
 g:G
 DM:Option (Nat × Bool)
 rs:List Nat
def bA.bad:bA:=⟨none,.bad,none,[]⟩
def gate (v:V) (want:Bool) (A B:Prop):Prop:=
 match v with
 | .bool b=>(b=want→A)∧(b=!want→B)
 | .tuple _=>B
 | _=>False
noncomputable def bA.wp (P:Program) (o:bA) (r:aR) (h:af) (K:aR→V→af→Prop):Prop:=
 match o.DM with
 | none=>o.g.wp P (r.trim o.rs) h fun v ab=>K (r.set o.dst v) v ab
 | some (d,want)=>gate (r.trim o.rs d) want (o.g.wp P (r.trim o.rs) h fun v ab=>K (r.set o.dst v) v ab) (K (r.set o.dst (.tuple [])) (.tuple []) h)
def AT (P:Program) (an:Nat) (all:Array Oper) (o:Oper):bA:=
 bif eG an o.dst&&i_ (bQ all o) then
  match o.guard with
  | none=>⟨o.dst,AS P o.op,none,bQ all o⟩
  | some (j,want)=>match all[j]? with
    | some g=>match g.dst with
      | some d=>bif Nat.blt d an&&Nat.ble d top then ⟨o.dst,AS P o.op,some (d,want),bQ all o⟩ else bA.bad
      | none=>bA.bad
    | none=>bA.bad
 else bA.bad
def pf (P:Program) (an:Nat) (all:Array Oper):List Oper→List bA
 | []=>[]
 | o::os=>AT P an all o::pf P an all os
theorem NG (P:Program) (an:Nat) (all:Array Oper):∀l:List Oper,pf P an all l=l.map (AT P an all)
 | []=>rfl
 | o::os=>by simp [pf,NG P an all os]
theorem bA.ys {P:Program} {r:aR} {h:af} {K:aR→V→af→Prop}:¬bA.bad.wp P r h K:=by
 rintro ⟨v,ab,q,_⟩
 cases q
theorem bA.u' {P:Program} {an:Nat} {all:Array Oper} {o:Oper} {r:aR} {h:af} {K:aR→V→af→Prop} (H:(AT P an all o).wp P r h K):
 ∃call v ab,(fy P call∧fI P call)∧eG an o.dst=true∧K (r.set o.dst v) v ab∧∀cy,dE cy=r→(cd P an all o).run call cy h=.val v ab:=by
 unfold AT at H
 cases aF:(eG an o.dst&&i_ (bQ all o)) with
 | false=>rw [aF] at H;exact absurd H bA.ys
 | true=>
   have a1:eG an o.dst=true:=by simp only [Bool.and_eq_true] at aF;exact aF.1
   rw [aF] at H
   simp only [cond_true] at H
   cases aE:o.guard with
   | none=>
     rw [aE] at H
     obtain ⟨call,v,ab,au,aC,aM⟩:=G.u' H
     refine ⟨call,v,ab,au,a1,aM,fun cy dr=>?_⟩
     unfold cd
     rw [aF]
     simp only [cond_true,aE,hx]
     refine NF ?_
     rw [Bb,dr]
     exact aC
   | some mW=>
     obtain ⟨j,want⟩:=mW
     rw [aE] at H
     simp only at H
     cases bB:all[j]? with
     | none=>rw [bB] at H;exact absurd H bA.ys
     | some g=>
       rw [bB] at H
       simp only at H
       cases iS:g.dst with
       | none=>rw [iS] at H;exact absurd H bA.ys
       | some d=>
         rw [iS] at H
         simp only at H
         cases ah:(Nat.blt d an&&Nat.ble d top) with
         | false=>rw [ah] at H;exact absurd H bA.ys
         | true=>
           rw [ah] at H
           simp only [cond_true,bA.wp] at H
           have key:cd P an all o=⟨hx (some (lR (aq d),want)) (eD P o) (bQ all o)⟩:=by
            unfold cd
            rw [aF]
            simp only [cond_true,aE,bB,iS,ah]
           have Eb:∀cy,dE cy=r→(lR (aq d)).run (c6 cy (bQ all o))=r.trim (bQ all o) d:=by
            intro cy dr
            rw [←dr,←Bb]
            rfl
           cases bn:r.trim (bQ all o) d<;>rw [bn] at H<;>simp only [gate] at H
           case bool b=>
            by_cases Ki:b=want
            · obtain ⟨call,v,ab,au,aC,aM⟩:=G.u' (H.1 Ki)
              refine ⟨call,v,ab,au,a1,aM,fun cy dr=>?_⟩
              rw [key]
              simp only [hx,Eb cy dr,bn]
              rw [show (bif want then b else !b)=true from by subst Ki;cases b<;>rfl]
              simp only [cond_true]
              refine NF ?_
              rw [Bb,dr]
              exact aC
            · have Kg:b=!want:=by cases b<;>cases want<;>simp_all
              refine ⟨ju,.tuple [],h,An P,a1,H.2 Kg,fun cy dr=>?_⟩
              rw [key]
              simp only [hx,Eb cy dr,bn]
              rw [show (bif want then b else !b)=false from by subst Kg;cases want<;>rfl]
              rfl
           case tuple ad=>
            refine ⟨ju,.tuple [],h,An P,a1,H,fun cy dr=>?_⟩
            rw [key]
            simp only [hx,Eb cy dr,bn]
noncomputable def px (P:Program):List bA→aR→af→(aR→af→Prop)→Prop
 | [],r,h,K=>K r h
 | o::os,r,h,K=>o.wp P r h fun bq _ ab=>px P os bq ab K
structure fc where
 r:aR
 h:af
 v:V
noncomputable def jz (P:Program):List bA→aR→af→(List fc→aR→af→Prop)→Prop
 | [],r,h,K=>K [] r h
 | o::os,r,h,K=>o.wp P r h fun bq v ab=>jz P os bq ab fun es cB av=>K (⟨r,h,v⟩::es) cB av
def tN (es:List fc) (av:af) (i:Nat):af:=
 match es[i]? with
 | some e=>e.h
 | none=>av
noncomputable def oC (P:Program) (o:Option bA) (e:Option fc) (es:List fc) (av:af):List Nat→Prop
 | []=>True
 | s::ey=>(match o,e with
   | some o,some e=>o.wp P e.r (tN es av s) fun _ eQ _=>eQ=e.v
   | _,_=>False)∧oC P o e es av ey
noncomputable def mz (P:Program) (ops:List bA) (es:List fc) (av:af):List (Nat × List Nat)→Prop
 | []=>True
 | (p,ey)::rest=>oC P ops[p]? es[p]? es av ey∧mz P ops es av rest
inductive bz where
 | bad
 | skip
 | aB (ops:List bA)
 | draw (ops:List bA) (asks:List (Nat × List Nat))
 | seq (a b:bz)
 | cond (c:aT) (a b:bz)
 | block (id:Nat) (b:bz)
 | loop (b:bz)
 | exit (id:Nat)
 | ret
 | range (f:aT) (ba:List Nat) (an:Nat) (a b:bz)
def tc (P:Program) (ops:List Oper) (dk ay dO:List Nat):Nat→List Oper→List (Nat × List Nat)
 | _,[]=>[]
 | i,o::os=>bif looks o.op&&!eh P o.op then
    (posOf ay i,dO.filter (pa P dk ops ay i ((dk[i]?).getD 0)))::tc P ops dk ay dO (i+1) os
   else tc P ops dk ay dO (i+1) os
def GC (P:Program) (an:Nat) (ops:Array Oper) (order ay:List Nat):bz:=
 bif j3 ops.size order ay&&ti P ops ay then
  .draw (pf P an ops (fX ops order)) (bif oA P ops.toList then tc P ops.toList (d_ [] ops.toList) ay (gq P ay 0 ops.toList) 0 ops.toList else [])
 else .bad
def cc (P:Program) (an:Nat):Code→bz
 | .skip=>.skip
 | .label _=>.skip
 | .region _ ops draw=>bif draw then GC P an ops (xt P ops) (AG (xt P ops) 0 ops.toList) else .aB (pf P an ops ops.toList)
 | .seq a b=>.seq (cc P an a) (cc P an b)
 | .cond c a b=>.cond (rx c) (cc P an a) (cc P an b)
 | .block id b=>.block id (cc P an b)
 | .loop b=>.loop (cc P an b)
 | .exit id=>.exit id
 | .ret=>.ret
 | .scope b=>cc P an b
 | .rangeFunc f ba a b=>bif mg an ba.toList&&(noMark a&&noMark b) then .range (rx f) ba.toList an (cc P an a) (cc P an b) else .bad
 | _=>.bad
structure vx (P:Program) (l:jf) (an:Nat) (r:aR) (ba:List Nat) (xG iH:bz):Prop where
 aV:l.an=an
 aG:dE l.r=r
 ag:l.ba=ba
 br:cc P an l.assign=xG
 ah:cc P an l.body=iH
 kL:mg an ba=true
 agt:noMark l.assign=true
 hp:noMark l.body=true
 out:Out an r
def jf.go (l:jf) (st:Nat) (dz:Option cY):jf:=⟨st,dz,l.d,l.an,l.r,l.ba,l.assign,l.body⟩
def aR.qu:List Nat→List V→aR→aR
 | p::ba,v::ad,r=>aR.qu ba ad (r.set (some p) v)
 | _,_,r=>r
def k6 (ba:List Nat) (ad:List V) (r:aR):aR:=(aR.qu ba ad r).set (some dN) .bad
def cY.andThen:cY→Prop→Prop→Prop
 | .normal,A,_=>A
 | _,_,B=>B
def cY.leave (id:Nat):cY→cY
 | .exit i=>if i=id then .normal else .exit i
 | e=>e
noncomputable def b_ (P:Program):bz→aR→af→(cY→aR→af→Prop)→Prop
 | .bad,_,_,_=>False
 | .skip,r,h,Q=>Q .normal r h
 | .aB ops,r,h,Q=>px P ops r h (Q .normal)
 | .draw ops asks,r,h,Q=>jz P ops r h fun es cB av=>mz P ops es av asks∧Q .normal cB av
 | .seq a b,r,h,Q=>b_ P a r h fun e bq ab=>e.andThen (b_ P b bq ab Q) (Q e bq ab)
 | .cond c a b,r,h,Q=>match c.aW r with
   | .bool t=>(t=true→b_ P a r h Q)∧(t=false→b_ P b r h Q)
   | _=>False
 | .block id b,r,h,Q=>b_ P b r h fun e bq ab=>Q (e.leave id) bq ab
 | .loop b,r,h,Q=>∃(I:aR→af→Prop) (μ:aR→af→Nat),I r h∧∀r h,I r h→b_ P b r h fun e bq ab=>e.andThen (I bq ab∧μ bq ab<μ r h) (Q e bq ab)
 | .exit id,r,h,Q=>Q (.exit id) r h
 | .ret,r,h,Q=>Q .ret r h
 | .range f ba an a b,r,h,Q=>∃g cs,f.aW r=.func g cs∧g≠c4∧(∃fn,P.funcs[g]? =some fn∧fn.body.isSome=true)∧∀l,vx P l an r ba a b→l.st=0→l.dz=none→
    bI P g (.func c4 [.ptr (aq (h.next+1)) 0]::cs) ((h.new .eE).new (.cU l)) fun _ ab=>
     ∃dD,ab.get (aq (h.next+1))=.cU dD∧dD.st≠1∧Q (dD.dz.getD .normal) (r.set (some dN) (.tuple (.ptr (aq h.next) 0::(r dN).list))) (ab.set (aq (h.next+1)) .dead)
def bz.plain:bz→Bool
 | .seq a b=>a.plain&&b.plain
 | .cond _ a b=>a.plain&&b.plain
 | .block _ b=>b.plain
 | .loop b=>b.plain
 | .range _ _ _ _ _=>false
 | _=>true
def x0 (P:Program) (an:Nat) (c:Code) (r:aR) (h:af) (e:cY) (bq:aR) (ab:af):Prop:=
 ∀(rd:Option Nat) (ar:Fr) E a w,(rd=none∨noMark c=true)→iJ E an r a→aY ar E h w→∀Q:Exit→Act→World→Prop,
  (∀ao bg aj,E.le ao→iJ ao an bq bg→aY ar ao ab aj→Q (toExit e) bg aj)→Bd rd P c Q a w
section
variable {P:Program} {an:Nat}
theorem OT (bx:ea P) {all:Array Oper}:∀(l:List Oper) (i:Nat),(∀j,l[j]? =all[i+j]?)→∀(r:aR) (h:af) (K:aR→af→Prop),Out an r→px P (pf P an all l) r h K→
 ∃bq ab,K bq ab∧(Out an bq∧bq dN=r dN)∧∀(rd:Option Nat) (ar:Fr) E a w,iJ E an r a→aY ar E h w→∀Q:Exit→Act→World→Prop,
  (∀ao bg aj,E.le ao→iJ ao an bq bg→aY ar ao ab aj→Q .normal bg aj)→wpOpsIn (b8 rd) 0 P all Q (List.range' i l.length) a w
 | [],i,_,r,h,K,aS,H=>by
   refine ⟨r,h,H,⟨aS,rfl⟩,fun rd ar E a w k s Q cK=>?_⟩
   simp only [List.length_nil,List.range'_zero,wpOpsIn]
   exact cK E a w (Env.le.refl E) k s
 | o::os,i,ai,r,h,K,aS,H=>by
   have aD:all[i]? =some o:=by have:=ai 0;simpa using this.symm
   simp only [pf,px] at H
   obtain ⟨call,v,aa,aF,a1,H1,cA⟩:=bA.u' H
   obtain ⟨cb,ae,au,aC,aM⟩:=OT bx os (i+1) (fun j=>by
    have:=ai (j+1)
    simp only [List.getElem?_cons_succ] at this
    rw [this]
    congr 1
    omega) _ aa K (aS.set a1 v) H1
   refine ⟨cb,ae,au,⟨aC.1,aC.2.trans (GQ a1 v)⟩,fun rd ar E a w k s Q cK=>?_⟩
   obtain ⟨cy,dr⟩:=yZ aS
   rw [List.length_cons,List.range'_succ,wpOpsIn_cons]
   refine ny bx aF.1 aF.2 aD (cA cy dr) k.size (fun t aA=>?_) s fun ao x aj bW b3 dv=>?_
   · have:=congrFun dr t
     simp only [dE] at this
     rw [this]
     exact k.aB t (uE (Nat.le_of_ble_eq_true (List.all_eq_true.1 (iL (cA cy dr)).2 t aA)))
   · exact aM rd ar ao _ aj (k.put bW a1 b3) dv Q fun bX a2 bM cj z2 z3=>cK bX a2 bM (bW.trans cj) z2 z3
noncomputable def toF (e:ec):fc:=⟨dE e.r,e.h,e.v⟩
theorem WM (es:List ec) (av:af) (i:Nat):tN (es.map toF) av i=bY es av i:=by
 unfold tN bY
 rw [List.getElem?_map]
 cases es[i]? <;>rfl
theorem OS {all:Array Oper}:∀(l:List Oper) (kF:bt) (h:af) (K:List fc→aR→af→Prop),jz P (pf P an all l) (dE kF) h K→Out an (dE kF)→
 ∃es lK av,K (es.map toF) (dE lK) av∧(Out an (dE lK)∧dE lK dN=dE kF dN)∧es.length=l.length∧bY es av 0=h∧dH es lK 0=kF∧
  ∀j o,l[j]? =some o→∃e call,es[j]? =some e∧(fy P call∧fI P call)∧(cd P an all o).run call e.r e.h=.val e.v (bY es av (j+1))∧dH es lK (j+1)=(eR o.dst).run e.r e.v
 | [],kF,h,K,H,aS=>⟨[],kF,h,H,⟨aS,rfl⟩,rfl,rfl,rfl,fun j o bB=>by simp at bB⟩
 | o::os,kF,h,K,H,aS=>by
   simp only [pf,jz] at H
   obtain ⟨call,v,aa,aF,a1,H1,cA⟩:=bA.u' H
   rw [←AK] at H1
   obtain ⟨es,lK,av,au,aC,aM,bG,dJ,e0⟩:=OS os _ aa _ H1 (by rw [AK];exact aS.set a1 v)
   refine ⟨⟨kF,h,v⟩::es,lK,av,au,⟨aC.1,aC.2.trans (by rw [AK];exact GQ a1 v)⟩,by simp [aM],by simp [bY],by simp [dH],fun j bU bB=>?_⟩
   cases j with
   | zero=>
     simp only [List.getElem?_cons_zero,Option.some.injEq] at bB
     subst bB
     exact ⟨⟨kF,h,v⟩,call,rfl,aF,by rw [tM,bG];exact cA kF rfl,by rw [uT,dJ]⟩
   | succ j=>
     obtain ⟨e,c,bW,b3,dv,iF⟩:=e0 j bU (by simpa using bB)
     exact ⟨e,c,by simpa using bW,b3,by rw [tM];exact dv,by rw [uT];exact iF⟩
theorem HZ {o:Option bA} {e:Option fc} {es:List fc} {av:af}:∀{ey:List Nat},oC P o e es av ey→∀s ∈ ey,∃bU c0,o=some bU∧e=some c0∧bU.wp P c0.r (tN es av s) fun _ eQ _=>eQ=c0.v
 | [],_,s,h=>by simp at h
 | f'::ey,H,s,hm=>by
   simp only [oC] at H
   simp only [List.mem_cons] at hm
   rcases hm with rfl | hm
   · cases o with
     | none=>exact H.1.elim
     | some o=>
       cases e with
       | none=>exact H.1.elim
       | some e=>exact ⟨o,e,rfl,rfl,H.1⟩
   · exact HZ H.2 s hm
theorem H3 {ops:List Oper} {dk ay dO:List Nat} {gs:List bA} {es:List fc} {av:af}:∀{l:List Oper} {i:Nat},mz P gs es av (tc P ops dk ay dO i l)→∀j o,l[j]? =some o→looks o.op=true→eh P o.op=false→
 oC P gs[posOf ay (i+j)]? es[posOf ay (i+j)]? es av (dO.filter (pa P dk ops ay (i+j) ((dk[i+j]?).getD 0)))
 | [],i,_,j,o,h,_,_=>by simp at h
 | bU::os,i,H,j,o,h,aa,ae=>by
   simp only [tc] at H
   cases j with
   | zero=>
     simp only [List.getElem?_cons_zero,Option.some.injEq] at h
     subst h
     rw [aa,ae] at H
     simp only [Bool.not_false,Bool.and_true,cond_true,mz] at H
     exact H.1
   | succ j=>
     have jC:mz P gs es av (tc P ops dk ay dO (i+1) os):=by
      cases aF:(looks bU.op&&!eh P bU.op) with
      | true=>rw [aF] at H;simp only [cond_true,mz] at H;exact H.2
      | false=>rw [aF] at H;exact H
     have:=H3 jC j o (by simpa using h) aa ae
     rw [show i+1+j=i + (j+1) from by omega] at this
     exact this
theorem UL (fM:an≤top) (cE:P.follows .mixedOrders=true) (bx:ea P) {id:Nat} {ops:Array Oper} {order ay:List Nat} {r:aR} {h:af} {Q:cY→aR→af→Prop} (aS:Out an r)
 (H:b_ P (GC P an ops order ay) r h Q):∃bq ab,Q .normal bq ab∧(Out an bq∧bq dN=r dN)∧x0 P an (.region id ops true) r h .normal bq ab:=by
 unfold GC at H
 cases av:(j3 ops.size order ay&&ti P ops ay) with
 | false=>rw [av] at H;exact H.elim
 | true=>
   rw [av] at H
   simp only [cond_true,b_] at H
   simp only [Bool.and_eq_true] at av
   obtain ⟨fE,fU⟩:=av
   unfold j3 at fE
   simp only [Bool.and_eq_true,Nat.beq_eq] at fE
   obtain ⟨l1,tU,wH,wI⟩:=fE
   have gS:∀k,k<ops.size→posOf ay k<ops.size∧order[posOf ay k]? =some k:=by
    intro k ax
    have aE:ay[k]? =some (posOf ay k):=by
     unfold posOf
     rw [List.getElem?_eq_getElem (by omega)]
     rfl
    have:=qx wH aE
    rw [Nat.zero_add] at this
    exact ⟨by have:=(List.getElem?_eq_some_iff.1 this).1;omega,this⟩
   have jw:∀p,p<ops.size→∃i,i<ops.size∧posOf ay i=p:=by
    intro p ag
    have aE:order[p]? =some (order[p]'(by omega)):=List.getElem?_eq_getElem (by omega)
    have:=qx wI aE
    rw [Nat.zero_add] at this
    refine ⟨order[p]'(by omega),by have:=(List.getElem?_eq_some_iff.1 this).1;omega,?_⟩
    unfold posOf
    rw [this]
    rfl
   obtain ⟨kF,tG⟩:=yZ aS
   rw [←tG] at H aS
   obtain ⟨es,lK,bc,⟨wi,cK⟩,⟨oZ,KW⟩,au,aC,aM,bG⟩:=OS _ kF h _ H aS
   refine ⟨_,bc,cK,⟨oZ,by rw [←tG];exact KW⟩,fun rd ar E a w aG k s gV DX=>?_⟩
   have step:∀i:Nat,∃call,(fy P call∧fI P call)∧∀o,ops[i]? =some o→∃e,es[posOf ay i]? =some e∧(cd P an ops o).run call e.r e.h=.val e.v (bY es bc (posOf ay i+1))∧dH es lK (posOf ay i+1)=(eR o.dst).run e.r e.v:=by
    intro i
    cases aD:ops[i]? with
    | none=>exact ⟨ju,An P,fun o h=>by cases h⟩
    | some o=>
      obtain ⟨e,call,bW,b3,dv,iF⟩:=bG _ o (k4 (gS i (Array.getElem?_eq_some_iff.1 aD).1).2 aD)
      exact ⟨call,b3,fun bU gj=>by cases gj;exact ⟨e,bW,dv,iF⟩⟩
   obtain ⟨calls,tJ⟩:=Classical.axiomOfChoice step
   have p2:∀j o,ops[j]? =some o→looks o.op=true→eh P o.op=false→∃e,es[posOf ay j]? =some e∧∀s ∈ gq P ay 0 ops.toList,
    pa P (d_ [] ops.toList) ops.toList ay j (((d_ [] ops.toList)[j]?).getD 0) s=true→∃c ab,(fy P c∧fI P c)∧(cd P an ops o).run c e.r (bY es bc s)=.val e.v ab:=by
    intro j o nN eg WS
    have bB:=(Array.getElem?_eq_some_iff.1 nN).1
    obtain ⟨e,bW,b3,dv⟩:=(tJ j).2 o nN
    refine ⟨e,bW,fun s aQ hm=>?_⟩
    cases ai:oA P ops.toList with
    | true=>
      rw [ai] at wi
      simp only [cond_true] at wi
      have:=H3 wi j o (by simpa using nN) eg WS
      rw [Nat.zero_add] at this
      obtain ⟨bU,c0,cj,z2,z3⟩:=HZ this s (List.mem_filter.2 ⟨aQ,hm⟩)
      rw [NG,List.getElem?_map,k4 (gS j bB).2 nN] at cj
      simp only [Option.map_some,Option.some.injEq] at cj
      rw [List.getElem?_map,bW] at z2
      simp only [Option.map_some,Option.some.injEq] at z2
      subst cj;subst z2
      rw [WM] at z3
      obtain ⟨c,v,ab,et,_,y3,y4⟩:=bA.u' z3
      have OX:=y4 e.r rfl
      rw [show v=e.v from y3] at OX
      exact ⟨c,ab,et,OX⟩
    | false=>
      have none:∀(l:List Oper),oA P l=false→∀(j:Nat) (o:Oper),l[j]? =some o→eh P o.op=false:=by
       intro l
       induction l with
       | nil=>intro _ j o h;simp at h
       | cons x l bh=>
         intro h j o aS
         simp only [oA,Bool.or_eq_false_iff] at h
         cases j with
         | zero=>simp only [List.getElem?_cons_zero,Option.some.injEq] at aS;subst aS;exact h.1
         | succ j=>exact bh h.2 j o (by simpa using aS)
      have gA:s=ops.size:=by
       rcases qj aQ with h | ⟨zX,bU,aa,ae,aI⟩
       · simpa using h
       · have:=none _ ai zX bU aa
         unfold dC at ae
         rw [this] at ae
         cases ae
      have flat:∀d,d≤ops.size→bY es bc d=bY es bc 0:=by
       intro d
       induction d with
       | zero=>intro _;rfl
       | succ d bh=>
         intro a1
         obtain ⟨i,wz,ln⟩:=jw d (by omega)
         have b9:ops[i]? =some ops[i]:=Array.getElem?_eq_getElem wz
         obtain ⟨UO,bN,bM,_⟩:=(tJ i).2 ops[i] b9
         rw [ln] at bN bM
         have dp:eh P ops[i].op=false:=none _ ai i _ (by simp)
         rw [(rn dp bM).1,←bh (by omega)]
         simp [bY,bN]
      have agb:=(gS j bB).1
      have:e.h=bY es bc s:=by rw [gA,flat ops.size (Nat.le_refl _),←flat (posOf ay j) (by omega)];simp [bY,bW]
      rw [←this]
      exact ⟨_,_,(tJ j).1,b3⟩
   have hlen:es.length=ops.size:=by rw [au,na,l1]
   have C:Cert P an ops calls es kF h lK bc (gq P ay 0 ops.toList) order ay ops.size ops.size false:=
    ⟨hlen,Nat.le_refl _,Nat.le_refl _,gS,jw,aC,aM,fun i o b9 _=>(tJ i).2 o b9,
      fun i o b9=>by
       obtain ⟨cq,cj,z2,z3⟩:=Ji fU i o b9
       exact ⟨cq,cj,z2,fun _ k ok ax _=>by
        obtain ⟨mk,et,f_,y3⟩:=z3 k ok ax
        exact ⟨mk,et,f_,fun aN bf bT=>.inl (y3 aN bf bT)⟩⟩,
      by simpa using z' (P:=P) (ay:=ay) (l:=ops.toList) (i:=0),
      fun j o aa ae=>by simpa using uz (ay:=ay) (i:=0) (j:=j) (l:=ops.toList) (by simpa using aa) ae,
      fun s aQ=>by
       rcases qj aQ with h | ⟨j,o,aa,ae,aI⟩
       · exact .inl (.inl (by simpa using h))
       · exact .inr ⟨j,o,by simpa using aa,ae,by simpa using aI⟩,
      fun j o aa ae aI _=>p2 j o aa ae aI,fun h=>absurd h (Nat.lt_irrefl _),fun h=>absurd h (Nat.lt_irrefl _)⟩
   have ax:RegRel0 E an kF a:=⟨k.size,fun t aA=>by
    have:=congrFun tG t
    simp only [dE] at this
    rw [this]
    exact k.aB t (uE aA)⟩
   have cT:∀k,¬(Array.replicate ops.size false).getD k false=true:=by
    intro k
    rw [pX,Array.getElem?_replicate]
    split<;>simp
   have iy:Holds ar ar es bc ay (il ops es bc ay (Array.replicate ops.size false) 0):=
    ⟨rfl,fun _ _=>rfl,fun k ax=>(by obtain ⟨_,_,_,_,a_⟩:=ax;omega),fun k bp ax=>(by obtain ⟨_,_,_,_,a_⟩:=ax;omega)⟩
   obtain ⟨f',dI,g1,g2,g3,g4,g5,g6⟩:=C.advance ops.size 0 (by omega) (fun k o _ _ _=>cT k) ar iy (E:=E) (w:={w with drawn:=w.drawn}) (by rw [aC];exact s.same rfl rfl rfl rfl)
   have h_:dE lK dN=r dN:=by rw [←tG];exact KW
   have fin:∀ao bg aj,E.le ao→RegRel0 ao an lK bg→bg.defers=a.defers→aY ar ao bc aj→gV .normal bg aj:=by
    intro ao bg aj cj z2 afq z3
    refine DX ao bg aj cj ⟨z2.size,by rw [h_,afq];exact k.defers.mono cj,fun t eN=>?_⟩ z3
    by_cases aA:t≤top
    · exact z2.aB t aA
    · have b5:=z2.size
      rw [oZ t (by omega) eN]
      simp [Rel]
   refine OQ cE (Jk bx (fun i=>(tJ i).1.1) (fun i=>(tJ i).1.2) C (fR:=E) (D:=a.defers) (fun _=>fin)
    (fun _ _ _ _ _ _ _ h=>absurd h (Nat.lt_irrefl _)) (fun h=>absurd h (Nat.lt_irrefl _)) ops.size _ a _ ?_ ?_)
   · exact Nat.le_trans List.countP_le_length (by simp)
   · refine ⟨by simp,ax.size,rfl,fun bp ax=>absurd ax (cT bp),fun bp o e ax=>absurd ax (cT bp),E,f',dI,Env.le.refl E,g1,g3,fun bp o aa ae=>⟨fun h=>absurd h (cT bp),fun h=>by have:=g4 bp o aa ae (Nat.zero_le _);omega⟩,
      fun bp o _ _ h=>absurd h (cT bp),g5,?_,fun t aA=>.inr ⟨fun bp o ax=>absurd ax (cT bp),ax.aB t aA⟩⟩
     exact g6.same rfl rfl rfl rfl
theorem U9 {rd:Option Nat} {e:cY} {Q:Exit→Act→World→Prop} {a:Act} {w:World} (h:Q (toExit e) a w):(DD e).wpIn (b8 rd) 0 P Q a w:=by
 cases e with
 | normal=>exact wpIn_skip h
 | exit id=>exact wpIn_exit h
 | ret=>exact wpIn_ret h
theorem adb (fM:an≤top) (cE:P.follows .mixedOrders=true) (bx:ea P) {f:Operand} {ba:Array Tmp} {x y:Code} {r:aR} {h:af} {Q:cY→aR→af→Prop} (aS:Out an r)
 (H:b_ P (cc P an (.rangeFunc f ba x y)) r h Q):∃e bq ab,Q e bq ab∧(Out an bq∧((cc P an (.rangeFunc f ba x y)).plain=true→bq dN=r dN))∧x0 P an (.rangeFunc f ba x y) r h e bq ab:=by
 simp only [cc] at H ⊢
 cases fU:(mg an ba.toList&&(noMark x&&noMark y)) with
 | false=>rw [fU] at H;exact H.elim
 | true=>
   rw [fU] at H
   simp only [cond_true,b_] at H ⊢
   simp only [Bool.and_eq_true] at fU
   obtain ⟨g,cs,bn,aE,rQ,H⟩:=H
   obtain ⟨cy,dr⟩:=yZ aS
   obtain ⟨v,ab,cw,dD,aN,bf,cK⟩:=H ⟨0,none,aq h.next,an,cy,ba.toList,x,y⟩ ⟨rfl,dr,rfl,rfl,rfl,fU.1,fU.2.1,fU.2.2,aS⟩ rfl rfl
   refine ⟨_,_,_,cK,⟨fun t aa ae=>by simp only [aR.set];rw [if_neg ae];exact aS t aa ae,fun z=>by cases z⟩,fun rd ar E a w aG k s gV DX=>?_⟩
   have zG:rd=none:=aG.resolve_right (by simp [noMark])
   subst zG
   have av:Rel E (.func g cs) (a.eval f):=by
    rw [←bn]
    cases f with
    | tmp t=>
      simp only [rx]
      cases ah:Nat.ble t top with
      | false=>simp [aT.aW,Rel]
      | true=>
        simp only [cond_true,aT.aW]
        exact k.aB t (uE (Nat.le_of_ble_eq_true ah))
    | const v=>exact qq E v
    | func f=>
      simp only [rx]
      cases ah:Nat.beq f c4 with
      | true=>simp [aT.aW,Rel]
      | false=>
        simp only [cond_false,aT.aW,Rel]
        exact .inl ⟨fun e=>by subst e;simp at ah,_,rfl,by simp [a7]⟩
    | global g=>simp [rx,aT.aW,Rel]
   simp only [Rel] at av
   rcases av with ⟨_,eb,cS,ai⟩ | ⟨Ei,_⟩
   case inr=>exact absurd Ei aE
   refine (wpIn_rangeFunc fun fn _=>?_:(Code.rangeFunc f ba x y).wpIn (b8 none) 0 P gV a w)
   have f0:=s.fresh h.next (Nat.le_refl _)
   obtain ⟨eA,rH⟩:∃eA,eA=E.put (aq h.next) ⟨w.heap.size,0,0⟩:=⟨_,rfl⟩
   obtain ⟨bN,o4⟩:∃bN:World,bN={w with heap:=w.heap.push (.deferred (some []))}:=⟨_,rfl⟩
   have wN:eA (aq h.next)=some ⟨w.heap.size,0,0⟩:=by rw [rH];unfold Env.put;rw [if_pos rfl]
   have s1:aY ar eA (h.new .eE) bN:=by
    rw [rH,o4]
    refine s.alloc 0 ⟨⟨w.heap.size,0,0⟩,by unfold Env.put;rw [if_pos rfl],s.frame.size,by simp⟩
   have l8:E.le eA:=by rw [rH];exact Env.j0 f0
   have r9:bN.heap.size=w.heap.size+1:=by rw [o4];simp
   obtain ⟨o,gj⟩:∃o:Loop,o={state:=.ready,pending:=none,fn,tmps:=a.tmps,params:=ba,assign:=x,body:=y,defers:=w.heap.size}:=⟨_,rfl⟩
   obtain ⟨bX,oR⟩:∃bX,bX=eA.put (aq (h.next+1)) ⟨bN.heap.size,0,0⟩:=⟨_,rfl⟩
   obtain ⟨bM,o5⟩:∃bM:World,bM={bN with heap:=bN.heap.push (.loop o)}:=⟨_,rfl⟩
   have f1:eA (aq (h.next+1))=none:=s1.fresh (h.next+1) (Nat.le_refl _)
   have jZ:eA.le bX:=by rw [oR];exact Env.j0 f1
   have wO:bX (aq (h.next+1))=some ⟨bN.heap.size,0,0⟩:=by rw [oR];unfold Env.put;rw [if_pos rfl]
   have cU:q2 bX ⟨0,none,aq h.next,an,cy,ba.toList,x,y⟩ o:=by
    subst gj
    refine ⟨rfl,rfl,rfl,rfl,rfl,k.size,fun t aA=>?_,_,jZ _ _ wN,rfl⟩
    have:=congrFun dr t
    simp only [dE] at this
    simp only [this]
    exact Rel.mono (l8.trans jZ) _ _ (k.aB t (uE aA))
   have s2:aY ar bX ((h.new .eE).new (.cU ⟨0,none,aq h.next,an,cy,ba.toList,x,y⟩)) bM:=by
    rw [oR,o5]
    refine s1.alloc 0 ⟨⟨bN.heap.size,0,0⟩,o,by show eA.put (aq (h.next+1)) _ (aq (h.next+1))=_;unfold Env.put;rw [if_pos rfl],by show ar.w.heap.size≤bN.heap.size;rw [r9];have:=s.frame.size;omega,by simp,?_⟩
    have:=cU
    rw [oR] at this
    exact this
   obtain ⟨gD,mO⟩:∃gD,gD=bN.heap.size:=⟨_,rfl⟩
   have aZ:Rel bX (.func c4 [.ptr (aq (h.next+1)) 0]) (.func (.yield gD) #[] #[]):=by
    simp only [Rel]
    exact .inr ⟨trivial,_,_,rfl,wO,by rw [mO]⟩
   have mI:a7 bX (.func c4 [.ptr (aq (h.next+1)) 0]::cs) (.func (.yield gD) #[] #[]::eb.toList):=by
    simp only [a7]
    exact ⟨_,_,rfl,aZ,a7.mono (l8.trans jZ) _ _ ai⟩
   have aF:Calls P g (Value.func (Fn.yield gD) #[] #[]::eb.toList).toArray bM (rangePost (b8 none) 0 P gD gV {a with defers:=[{target:=.collected w.heap.size,args:=#[]}]++a.defers}):=(cw.calls bx rQ ar bX bM _ mI s2).mono fun e aj az=>by
    obtain ⟨ao,agY,rfl,au,_,aM⟩:=az
    simp only [rangePost]
    have hD:=au _ _ wO
    have ah:=aM.at hD
    rw [aN] at ah
    obtain ⟨p',bU,e8,cJ,bc,Ev⟩:=ah
    rw [hD] at e8;cases e8
    obtain ⟨t1,t2,t3,t4,t5,t6,t7,t8⟩:=Ev
    simp only at bc
    rw [←mO] at bc
    have ED:(bU.state == LoopState.busy)=false:=by
     rw [t1]
     match mM:dD.st with
     | 0=>rfl
     | 1=>exact absurd mM bf
     | n+2=>rfl
    have jS:=(Array.getElem?_eq_some_iff.1 bc).1
    let h1:World:={aj with heap:=aj.heap.setIfInBounds gD (.loop {bU with state:=.exhausted})}
    have e':(Instr.endLoop gD).run P aj=.ok bU.pending h1:=by
     have o2:(setObj gD (.loop {bU with state:=.exhausted})).run P aj=.ok () h1:=by simp only [setObj,Sem.run,bc];rfl
     simp only [Instr.endLoop,Sem.run_bind,run_getLoop bc,Result.andThen_ok,ED,Bool.false_eq_true,if_false,o2,Sem.run_pure]
    have uX:aY ar ao (ab.set (aq (h.next+1)) .dead) h1:=by
     refine aM.gone (p:=⟨bN.heap.size,0,0⟩) (by rw [aN];rfl) hD cJ (by simp [h1]) (fun j bB=>?_) rfl rfl rfl
     simp only at bB
     simp only [h1,Array.getElem?_setIfInBounds]
     rw [if_neg (fun e=>bB (by rw [←e,mO]))]
    have fV:iJ ao an (r.set (some dN) (.tuple (.ptr (aq h.next) 0::(r dN).list))) {a with defers:=[{target:=.collected w.heap.size,args:=#[]}]++a.defers}:=by
     refine ⟨k.size,?_,fun t aA=>?_⟩
     · simp only [aR.set,if_true,jA,k',List.cons_append,List.nil_append]
       exact ⟨_,_,rfl,⟨_,au _ _ (jZ _ _ wN),rfl⟩,(k.defers.mono (l8.trans (jZ.trans au))).list⟩
     · simp only [aR.set]
       rw [if_neg aA]
       exact Rel.mono (l8.trans (jZ.trans au)) _ _ (k.aB t aA)
    refine ⟨bU.pending,h1,e',?_⟩
    rw [t2]
    have fin:=DX ao _ h1 (l8.trans (jZ.trans au)) fV uX
    cases hP:dD.dz with
    | none=>rw [hP] at fin;exact fin
    | some e=>rw [hP] at fin;exact U9 fin
   obtain ⟨af2,W1,rQ⟩:=rQ
   refine ⟨gD,[{target:=.collected w.heap.size,args:=#[]}],bM,{target:=.fn (.func g) eb,args:=#[]++#[.func (.yield gD) #[] #[]]},bM,g,_,bM,?_,?_,fun _ _=>trivial,?_,fun h=>by simp at h,pO.2 aF⟩
   · subst gj o5 o4
     have he:=run_enterLoop_outer (P:=P) (w:=w) fn a.tmps ba x y
     rw [World.alloc,World.alloc] at he
     simp only [Array.size_push] at mO ⊢
     rw [mO]
     exact he
   · simp only [resolve,cS,Deferred.ofValue,Sem.run_pure]
     simp [Act.eval]
   · simp only [invoke]
     have e:(#[]++#[Value.func (.yield gD) #[] #[]]:Array Value)++eb=(Value.func (.yield gD) #[] #[]::eb.toList).toArray:=by apply Array.ext';simp
     rw [e]
     exact qG bx W1 rQ _ bM
theorem Hf (fM:an≤top) (cE:P.follows .mixedOrders=true) (bx:ea P):∀(c:Code) (r:aR) (h:af) (Q:cY→aR→af→Prop),Out an r→b_ P (cc P an c) r h Q→
 ∃e bq ab,Q e bq ab∧(Out an bq∧((cc P an c).plain=true→bq dN=r dN))∧x0 P an c r h e bq ab:=by
 intro c
 induction c with
 | skip=>
   intro r h Q aS H
   exact ⟨.normal,r,h,H,⟨aS,fun _=>rfl⟩,fun rd ar E a w aG k s gV cK=>wpIn_skip (cK E a w (Env.le.refl E) k s)⟩
 | label l=>
   intro r h Q aS H
   exact ⟨.normal,r,h,H,⟨aS,fun _=>rfl⟩,fun rd ar E a w aG k s gV cK=>wpIn_label (cK E a w (Env.le.refl E) k s)⟩
 | exit id=>
   intro r h Q aS H
   exact ⟨.exit id,r,h,H,⟨aS,fun _=>rfl⟩,fun rd ar E a w aG k s gV cK=>wpIn_exit (cK E a w (Env.le.refl E) k s)⟩
 | ret=>
   intro r h Q aS H
   exact ⟨.ret,r,h,H,⟨aS,fun _=>rfl⟩,fun rd ar E a w aG k s gV cK=>wpIn_ret (cK E a w (Env.le.refl E) k s)⟩
 | region id ops draw=>
   intro r h Q aS H
   cases draw with
   | true=>
     simp only [cc,cond_true] at H
     obtain ⟨bq,ab,au,aC,aM⟩:=UL fM cE bx (id:=id) aS H
     exact ⟨.normal,bq,ab,au,⟨aC.1,fun _=>aC.2⟩,aM⟩
   | false=>
     simp only [cc,cond_false,b_] at H
     obtain ⟨bq,ab,au,aC,aM⟩:=OT bx ops.toList 0 (fun j=>by simp) r h _ aS H
     refine ⟨.normal,bq,ab,au,⟨aC.1,fun _=>aC.2⟩,fun rd ar E a w aG k s gV cK=>?_⟩
     refine wpIn_region ?_
     have:=aM rd ar E a w k s gV cK
     rw [List.range_eq_range']
     simpa using this
 | seq x y sb sc=>
   intro r h Q aS H
   simp only [cc,b_] at H
   obtain ⟨e,bw,aa,au,aC,aM⟩:=sb r h _ aS H
   cases e with
   | normal=>
     obtain ⟨e,cb,ae,bW,b3,dv⟩:=sc bw aa Q aC.1 au
     refine ⟨e,cb,ae,bW,⟨b3.1,fun z=>by simp only [cc,bz.plain,Bool.and_eq_true] at z;exact (b3.2 z.2).trans (aC.2 z.1)⟩,fun rd ar E a w aG k s gV cK=>?_⟩
     refine wpIn_seq (aM rd ar E a w (aG.imp (fun h=>h) fun h=>by simp only [noMark,Bool.and_eq_true] at h;exact h.1) k s _ fun ao bg aj cj z2 z3=>?_).wp
     exact (dv rd ar ao bg aj (aG.imp (fun h=>h) fun h=>by simp only [noMark,Bool.and_eq_true] at h;exact h.2) z2 z3 gV fun bX a2 bM et f_ y3=>cK bX a2 bM (cj.trans et) f_ y3).wp
   | exit i=>
     refine ⟨.exit i,bw,aa,au,⟨aC.1,fun z=>by simp only [cc,bz.plain,Bool.and_eq_true] at z;exact aC.2 z.1⟩,fun rd ar E a w aG k s gV cK=>?_⟩
     refine wpIn_seq (aM rd ar E a w (aG.imp (fun h=>h) fun h=>by simp only [noMark,Bool.and_eq_true] at h;exact h.1) k s _ fun ao bg aj cj z2 z3=>?_).wp
     exact cK ao bg aj cj z2 z3
   | ret=>
     refine ⟨.ret,bw,aa,au,⟨aC.1,fun z=>by simp only [cc,bz.plain,Bool.and_eq_true] at z;exact aC.2 z.1⟩,fun rd ar E a w aG k s gV cK=>?_⟩
     refine wpIn_seq (aM rd ar E a w (aG.imp (fun h=>h) fun h=>by simp only [noMark,Bool.and_eq_true] at h;exact h.1) k s _ fun ao bg aj cj z2 z3=>?_).wp
     exact cK ao bg aj cj z2 z3
 | cond c x y sb sc=>
   intro r h Q aS H
   simp only [cc,b_] at H
   cases bn:(rx c).aW r<;>rw [bn] at H<;>simp only at H<;>try (exact H.elim)
   rename_i t
   have aF:∀E a,iJ E an r a→a.eval c=.bool t:=by
    intro E a k
    cases c with
    | tmp d=>
      simp only [rx] at bn
      cases ah:Nat.ble d top with
      | false=>rw [ah] at bn;simp [aT.aW] at bn
      | true=>
        rw [ah] at bn
        simp only [cond_true,aT.aW] at bn
        have:=k.aB d (uE (Nat.le_of_ble_eq_true ah))
        rw [bn] at this
        simp only [Rel] at this
        exact this
    | const v=>
      simp only [rx,aT.aW] at bn
      have:=qq E v
      rw [bn] at this
      simp only [Rel] at this
      exact this
    | func f=>
      simp only [rx] at bn
      cases ah:Nat.beq f c4<;>rw [ah] at bn<;>simp [aT.aW] at bn
    | global g=>simp [rx,aT.aW] at bn
   cases t with
   | true=>
     obtain ⟨e,bw,aa,au,aC,aM⟩:=sb r h Q aS (H.1 rfl)
     exact ⟨e,bw,aa,au,⟨aC.1,fun z=>by simp only [cc,bz.plain,Bool.and_eq_true] at z;exact aC.2 z.1⟩,fun rd ar E a w aG k s gV cK=>wpIn_cond_true (aF E a k) (aM rd ar E a w (aG.imp (fun h=>h) fun h=>by simp only [noMark,Bool.and_eq_true] at h;exact h.1) k s gV cK).wp⟩
   | false=>
     obtain ⟨e,bw,aa,au,aC,aM⟩:=sc r h Q aS (H.2 rfl)
     exact ⟨e,bw,aa,au,⟨aC.1,fun z=>by simp only [cc,bz.plain,Bool.and_eq_true] at z;exact aC.2 z.2⟩,fun rd ar E a w aG k s gV cK=>wpIn_cond_false (aF E a k) (aM rd ar E a w (aG.imp (fun h=>h) fun h=>by simp only [noMark,Bool.and_eq_true] at h;exact h.2) k s gV cK).wp⟩
 | block id x bh=>
   intro r h Q aS H
   simp only [cc,b_] at H
   obtain ⟨e,bw,aa,au,aC,aM⟩:=bh r h _ aS H
   refine ⟨e.leave id,bw,aa,au,aC,fun rd ar E a w aG k s gV cK=>?_⟩
   refine wpIn_block (aM rd ar E a w (aG.imp (fun h=>h) fun h=>h) k s _ fun ao bg aj cj z2 z3=>?_).wp
   cases e with
   | normal=>exact cK ao bg aj cj z2 z3
   | ret=>exact cK ao bg aj cj z2 z3
   | exit i=>
     have:=cK ao bg aj cj z2 z3
     simp only [toExit,Exit.inBlock]
     simp only [cY.leave] at this
     by_cases aD:i=id
     · rw [if_pos aD] at this ⊢;exact this
     · rw [if_neg aD] at this ⊢;exact this
 | loop x bh=>
   intro r h Q aS H
   simp only [cc,b_] at H
   obtain ⟨I,μ,oS,XM⟩:=H
   have key:∀n r h,μ r h=n→I r h→Out an r→∃e bq ab,Q e bq ab∧(Out an bq∧((cc P an (.loop x)).plain=true→bq dN=r dN))∧x0 P an (.loop x) r h e bq ab:=by
    intro n
    induction n using Nat.strongRecOn with
    | _ n Yr=>
      intro r h aV oS aS
      obtain ⟨e,bw,aa,au,aC,aM⟩:=bh r h _ aS (XM r h oS)
      have body:∀(rd:Option Nat) (ar:Fr) E a w,(rd=none∨noMark x=true)→iJ E an r a→aY ar E h w→∀(b:Frame) (cM:List Item) (cs:List Frame),b.roundOf=rd→∃bg aj ao,E.le ao∧iJ ao an bw bg∧aY ar ao aa aj∧ArrivesIn (Machine.fenced P (b8 rd)) P (lone (b.atR a (.code x::.inLoop x::cM)) cs w) b (.inLoop x::cM) cs (toExit e) bg aj:=by
       intro rd ar E a w aG k s b cM cs jV
       have:=(aM rd ar E a w aG k s (fun c0 bg aj=>c0=toExit e∧∃ao,E.le ao∧iJ ao an bw bg∧aY ar ao aa aj) (fun ao bg aj au aC aM=>⟨rfl,ao,au,aC,aM⟩)).wp b (.inLoop x::cM) cs jV trivial (GH _)
       obtain ⟨bf,a2,bM,⟨rfl,bX,cj,z2,z3⟩,h7⟩:=this
       exact ⟨a2,bM,bX,cj,z2,z3,h7⟩
      cases e with
      | normal=>
        obtain ⟨Wc,aP⟩:=au
        obtain ⟨bf,cb,ae,bW,b3,dv⟩:=Yr (μ bw aa) (aV ▸ aP) bw aa rfl Wc aC.1
        refine ⟨bf,cb,ae,bW,⟨b3.1,fun z=>(b3.2 z).trans (aC.2 z)⟩,fun rd ar E a w aG k s gV cK b cM cs jV=>?_⟩
        obtain ⟨a2,bM,bX,cj,z2,z3,h7⟩:=body rd ar E a w (aG.imp (fun h=>h) fun h=>h) k s b cM cs jV
        obtain ⟨bT,a3,mu,et,f_⟩:=dv rd ar bX a2 bM aG z2 z3 gV (fun jB a4 h1 t1 t2 t3=>cK jB a4 h1 (cj.trans t1) t2 t3) b cM cs jV
        exact ⟨bT,a3,mu,et,.of_steps (StepsIn.trans h7 (.one (nF _) stepR_inLoop)) f_⟩
      | exit i=>
        refine ⟨.exit i,bw,aa,au,aC,fun rd ar E a w aG k s gV cK b cM cs jV=>?_⟩
        obtain ⟨a2,bM,bX,cj,z2,z3,h7⟩:=body rd ar E a w (aG.imp (fun h=>h) fun h=>h) k s b cM cs jV
        exact ⟨.exit i,a2,bM,cK bX a2 bM cj z2 z3,.pass (x:=.inLoop x) rfl (fun _ _=>.inl (by simp)) h7⟩
      | ret=>
        refine ⟨.ret,bw,aa,au,aC,fun rd ar E a w aG k s gV cK b cM cs jV=>?_⟩
        obtain ⟨a2,bM,bX,cj,z2,z3,h7⟩:=body rd ar E a w (aG.imp (fun h=>h) fun h=>h) k s b cM cs jV
        exact ⟨.ret,a2,bM,cK bX a2 bM cj z2 z3,.pass (x:=.inLoop x) rfl (fun _ _=>.inl (by simp)) h7⟩
   exact key _ r h rfl oS aS
 | scope x bh=>
   intro r h Q aS H
   obtain ⟨e,bw,aa,au,aC,aM⟩:=bh r h Q aS H
   refine ⟨e,bw,aa,au,aC,fun rd ar E a w aG k s gV cK=>?_⟩
   refine NV (aM rd ar E a w (aG.imp (fun h=>h) fun h=>h) k s _ fun ao bg aj cj z2 z3=>?_).wp
   have:=cK ao bg aj cj z2 z3
   cases e<;>exact this
 | rangeFunc f ba x y _ _=>intro r h Q aS H;exact adb fM cE bx aS H
 | goto l=>intro r h Q aS H;exact H.elim
 | refuse aeZ=>intro r h Q aS H;exact H.elim
inductive vC where
 | t (n:Nat)
 | bE (n:Nat)
 | gy (n size:Nat)
 | bad
def cV (P:Program) (an:Nat):List ResultVar→List vC
 | []=>[]
 | .tmp t::rs=>(bif Nat.ble t top&&Nat.blt t an then .t t else .bad)::cV P an rs
 | .cell a t::rs=>(bif Nat.ble a top&&Nat.blt a an then (match aX P t with
   | none=>.bad
   | some aK=>bif aK.agg then .gy a aK.size else bif Nat.beq aK.size 1 then .bE a else .bad) else .bad)::cV P an rs
noncomputable def cL (r:aR) (h:af):List vC→Option (List V)
 | []=>some []
 | x::xs=>match (match x with
   | .t n=>some (r n)
   | .bE n=>k0 h (r n)
   | .gy n size=>kZ size h (r n)
   | .bad=>none) with
   | none=>none
   | some v=>match cL r h xs with
     | none=>none
     | some ad=>some (v::ad)
theorem yY {r:aR} {h:af} {cy:bt} (dr:dE cy=r):∀{l:List ResultVar} {ad:List V},cL r h (cV P an l)=some ad→(i' P an l).run cy h=some ad
 | [],ad,he=>by simpa [cL,cV,i'] using he
 | .tmp t::rs,ad,he=>by
   simp only [cV,cL] at he
   unfold i'
   cases aF:(Nat.ble t top&&Nat.blt t an) with
   | false=>rw [aF] at he;simp at he
   | true=>
     rw [aF] at he
     simp only [cond_true] at he ⊢
     cases aG:cL r h (cV P an rs) with
     | none=>rw [aG] at he;cases he
     | some sN=>
       rw [aG] at he
       rw [yY dr aG]
       have:=congrFun dr t
       simp only [dE] at this
       rw [this]
       exact he
 | .cell a t::rs,ad,he=>by
   simp only [cV,cL] at he
   unfold i'
   cases aF:(Nat.ble a top&&Nat.blt a an) with
   | false=>rw [aF] at he;simp at he
   | true=>
     rw [aF] at he
     simp only [cond_true] at he ⊢
     have KR:=congrFun dr a
     simp only [dE] at KR
     rw [KR]
     unfold m_
     cases aA:aX P t with
     | none=>rw [aA] at he;simp at he
     | some aK=>
       rw [aA] at he
       simp only at he ⊢
       cases Kb:aK.agg with
       | true=>
         rw [Kb] at he
         simp only [cond_true] at he ⊢
         cases ai:kZ aK.size h (r a) with
         | none=>rw [ai] at he;cases he
         | some v=>
           rw [ai] at he
           simp only at he ⊢
           cases aG:cL r h (cV P an rs) with
           | none=>rw [aG] at he;cases he
           | some sN=>rw [aG] at he;rw [yY dr aG];exact he
       | false=>
         rw [Kb] at he
         simp only [cond_false] at he ⊢
         cases aQ:Nat.beq aK.size 1 with
         | false=>rw [aQ] at he;simp at he
         | true=>
           rw [aQ] at he
           simp only [cond_true] at he ⊢
           cases ai:k0 h (r a) with
           | none=>rw [ai] at he;cases he
           | some v=>
             rw [ai] at he
             simp only at he ⊢
             cases aG:cL r h (cV P an rs) with
             | none=>rw [aG] at he;cases he
             | some sN=>rw [aG] at he;rw [yY dr aG];exact he
theorem Aq:∀(l:List V) (t:Nat),aR.bb l t=(l[t]?).getD .bad
 | [],t=>by simp [aR.bb]
 | v::ad,t=>by
   simp only [aR.bb]
   cases t with
   | zero=>simp
   | succ t=>simp [Aq ad t]
def cY.ends:cY→Prop
 | .exit _=>False
 | _=>True
noncomputable def lv:List V→af→Option af
 | [],h=>some h
 | .ptr b _::ds,h=>(match h.get b with
   | .eE=>lv ds (h.set b .dead)
   | _=>none)
 | _::_,_=>none
theorem LX {iK:qU}:∀{ds:List V} {h ae:af},lv ds h=some ae→kY iK ds none h=.go none ae
 | [],h,ae,e=>by simp only [lv,Option.some.injEq] at e;subst e;rfl
 | d::ds,h,ae,e=>by
   cases d<;>simp only [lv] at e<;>try (cases e;done)
   rename_i b o
   simp only [kY]
   cases aE:h.get b<;>rw [aE] at e<;>simp only at e<;>try (cases e;done)
   exact LX e
theorem I1 (cE:P.follows .mixedOrders=true) (bx:ea P) {f:FuncId} {fn:Func} {c:Code} {args:List V} {h:af} {K:V→af→Prop} (av:P.funcs[f]? =some fn) (ah:fn.body=some c)
 (fM:Nat.ble fn.ntmps top=true) (aZ:Nat.beq f c4=false) (jN:Nat.ble args.length fn.ntmps=true) {rc:bz} {eI:List vC} (wP:cc P fn.ntmps c=rc) (r8:cV P fn.ntmps fn.results.toList=eI) {Q:cY→aR→af→Prop} (H:b_ P rc (aR.bb args) h Q)
 (cK:∀e r ab,(rc.plain=true→r dN=.bad)→Q e r ab→e.ends∧∃ae,lv (r dN).list ab=some ae∧∃ad,cL r ae eI=some ad∧K (oneOf ad) ae):bI P f args h K:=by
 subst wP r8
 rw [Nat.ble_eq] at fM jN
 have aS:Out fn.ntmps (aR.bb args):=by
  intro t aA _
  rw [Aq,List.getElem?_eq_none (by omega)]
  rfl
 have kk:(aR.bb args) dN=.bad:=by
  rw [Aq,List.getElem?_eq_none (by unfold dN;unfold top at fM;omega)]
  rfl
 obtain ⟨e,bq,ab,az,oZ,WB⟩:=Hf fM cE bx c _ h _ aS H
 obtain ⟨e',ae,Xk,ad,X8,di⟩:=cK e bq ab (fun z=>(oZ.2 z).trans kk) az
 have g_:f≠c4:=fun e=>by subst e;simp at aZ
 refine ⟨oneOf ad,ae,⟨g_,.inl ⟨⟨fn,av,by rw [ah];rfl⟩,fun ar E w xs al s=>?_⟩⟩,di⟩
 have hlen:=al.length
 have b5:xs.toArray.size≤fn.ntmps:=by simp;omega
 refine pO.1 (callsIn_of_wp_marks (F:=b8 none) (n:=0) av ah trivial ?_)
 have k:iJ E fn.ntmps (aR.bb args) {tmps:=xs.toArray++Array.replicate (fn.ntmps-xs.toArray.size) undef,defers:=[]}:=by
  refine ⟨by simp;omega,by rw [kk];simp [jA],fun t _=>?_⟩
  rw [Aq]
  cases aE:args[t]? with
  | none=>simp [Rel]
  | some v=>
    obtain ⟨y,aZ,aG⟩:=al.get t v aE
    simp only [Option.getD_some]
    have zL:t<xs.length:=(List.getElem?_eq_some_iff.1 aZ).1
    rw [Array.getD_eq_getD_getElem?,Array.getElem?_append_left (by simpa using zL)]
    simp only [List.getElem?_toArray,aZ,Option.getD_some]
    exact aG
 have jO:x2 P (fun _ _ _ _=>.fail):=fun f args u h fG ab he=>by cases he
 have fin:∀ao bg aj,E.le ao→iJ ao fn.ntmps bq bg→aY ar ao ab aj→LeavesInM (b8 none) 0 P fn bg.tmps (fun e aj=>∃ao x,e=.returned x∧E.le ao∧Rel ao (oneOf ad) x∧aY ar ao ae aj) bg.defers .returning aj:=by
  intro ao bg aj au aC aM
  obtain ⟨cy,dr⟩:=yZ oZ.1
  have a1:T.get .bad ee cy=bq dN:=by
   have:=congrFun dr dN
   simp only [dE] at this
   exact this
  have ax:eJ ao fn.ntmps cy bg:=⟨⟨aC.size,fun t aA=>by
   have:=congrFun dr t
   simp only [dE] at this
   rw [this]
   exact aC.aB t (uE aA)⟩,by rw [a1];exact aC.defers⟩
  refine DE (C:=⟨P,fun _=>none,fun _=>none⟩) (u:=none) bx jO ax rfl aM ?_
  rw [a1,LX Xk]
  simp only [finish]
  rw [yY dr X8]
  exact fun bX x bM bW b3 dv=>⟨bX,x,rfl,au.trans bW,b3,dv⟩
 refine (WB none ar E _ w (.inl rfl) k s _ fun ao bg aj au aC aM=>?_).wp
 have:=fin ao bg aj au aC aM
 cases e with
 | normal=>exact this
 | ret=>exact this
 | exit i=>exact e'.elim
theorem MO:∀(ba:List Nat) (ad:List V) (cy:bt),dE (pe ba ad cy)=aR.qu ba ad (dE cy)
 | p::ba,v::ad,cy=>by
   rw [pe,aR.qu,MO ba ad]
   congr 1
   exact AK (some p) cy v
 | [],[],_=>rfl
 | [],_::_,_=>rfl
 | _::_,[],_=>rfl
theorem MP:∀{ba:List Nat} {ad:List V} {r:aR},mg an ba=true→Out an r→Out an (aR.qu ba ad r)
 | p::ba,v::ad,r,ag,aS=>by
   simp only [mg,List.all_cons,Bool.and_eq_true] at ag
   exact MP (r:=r.set (some p) v) ag.2 (aS.set (d:=some p) (by simp only [eG,Bool.and_eq_true];exact ag.1) v)
 | [],[],_,_,aS=>aS
 | [],_::_,_,_,aS=>aS
 | _::_,[],_,_,aS=>aS
theorem NL {ba:List Nat} {ad:List V} {r:aR} (ag:mg an ba=true) (aS:Out an r):Out an (k6 ba ad r):=fun t aa ae=>by
 unfold k6
 simp only [aR.set]
 rw [if_neg ae]
 exact MP ag aS t aa ae
theorem OZ (fM:an≤top) (cE:P.follows .mixedOrders=true) (bx:ea P) {l:jf} {r:aR} {ba:List Nat} {xG iH:bz} {xs:List V} {b:aO} {h:af} {K:V→af→Prop} (F:vx P l an r ba xG iH) (aE:h.get b=.cU l) (a_:l.st=0) (hlen:xs.length=ba.length)
 (H:b_ P xG (k6 ba xs r) h fun e bw aa=>e=.normal∧aa.get b=.cU l∧b_ P iH bw (aa.set b (.cU (l.go 1 l.dz))) fun e cb ae=>ae.get b=.cU (l.go 1 l.dz)∧(match e with
   | .normal=>K (.bool true) (ae.set b (.cU (l.go 0 none)))
   | e=>K (.bool false) (ae.set b (.cU (l.go 2 (some e)))))):yj P xs b h K:=by
 obtain ⟨Hz,Bk,Bl,Pd,Pe,Bm,Pf,Pg,HA⟩:=F
 subst Pd Pe
 obtain ⟨aN,bw,aa,⟨rfl,g1,cR⟩,dS,bE⟩:=Hf fM cE bx l.assign _ h _ (NL Bm HA) H
 obtain ⟨bf,cb,ae,⟨g2,Pn⟩,eo,bR⟩:=Hf fM cE bx l.body _ _ _ dS.1 cR
 obtain ⟨v,ab,e',di⟩:∃v ab,sB b bf ae=.val v ab∧K v ab:=by
  unfold sB
  rw [g2]
  cases bf<;>exact ⟨_,_,rfl,Pn⟩
 refine ⟨v,ab,fun ar E w B9 p ai s ag=>?_,di⟩
 have ah:=s.at ag
 rw [aE] at ah
 obtain ⟨p',o,e8,cJ,bc,aG⟩:=ah
 rw [ag] at e8;cases e8
 obtain ⟨t1,t2,t3,t4,t5,t6,t7,t8⟩:=aG
 have jQ:=ai.length
 have tY:o.params.size=B9.length:=by rw [←Array.length_toList,t3,Bl,←hlen,jQ]
 refine ⟨o.fn,(o.params.zip B9.toArray).foldl (fun tmps (t,a)=>tmps.setIfInBounds t a) o.tmps,o.assign,o.body,?_,?_⟩
 · simp only [Instr.yield,Sem.run_bind,run_getLoop bc,Result.andThen_ok]
   rw [if_neg (by simp [tY])]
   rfl
 · rw [t4,t5]
   refine roundIn_of_wpIn (F:=b8 none) trivial ?_
   have nX:RegRel0 E l.an l.r ⟨o.tmps,[]⟩:=⟨t6,t7⟩
   have CJ:mg l.an o.params.toList=true:=by rw [t3,Bl,Hz];exact Bm
   have bL:=Nf CJ ai nX
   have k:iJ E an (k6 ba xs r) ⟨(o.params.zip B9.toArray).foldl (fun t (p:Nat × Value)=>t.setIfInBounds p.1 p.2) o.tmps,[]⟩:=by
    refine ⟨by rw [←Hz];exact bL.size,by unfold k6;simp [aR.set,jA],fun t aA=>?_⟩
    by_cases X0:t≤top
    · have:=bL.aB t X0
      rw [t3,Bl] at this
      have e:=congrFun (MO ba xs l.r) t
      rw [Bk] at e
      unfold k6
      simp only [aR.set]
      rw [if_neg aA,←e]
      exact this
    · rw [NL Bm HA t (by omega) aA]
      simp [Rel]
   refine (bE (some p.a8) ar E _ w (.inr Pf) k s (Exit.then (fun oE py=>∃xS,(Instr.beginRound p.a8).run P py=.ok () xS∧
    l.body.wpIn (b8 (some p.a8)) 0 P (roundPost P p.a8 fun e aj=>∃ao x,e=.returned x∧E.le ao∧Rel ao v x∧aY ar ao ab aj) oE xS) (fun _ _ _=>False)) fun eA bJ bN au aC aM=>?_).wp
   have hn:=au _ _ ag
   have iv:=aM.at hn
   rw [g1] at iv
   obtain ⟨bW,qp,wK,mG,nK,o1⟩:=iv
   rw [hn] at wK;cases wK
   obtain ⟨et,f_,y3,y4,xT,y6,Hh,afl⟩:=o1
   obtain ⟨cj,z2⟩:=aM.loop (P:=P) (dD:=l.go 1 l.dz) (bU:={qp with state:=.busy}) g1 hn mG nK ⟨rfl,f_,y3,y4,xT,y6,Hh,afl⟩
   refine ⟨{bN with heap:=bN.heap.setIfInBounds p.a8 (.loop {qp with state:=.busy})},?_,?_⟩
   · have wQ:qp.state=.ready:=by rw [et,a_];rfl
     simp only [Instr.beginRound,Sem.run_bind,run_getLoop nK,Result.andThen_ok,cj,wQ,Sem.run_pure]
   · refine (bR (some p.a8) ar eA _ _ (.inr Pg) aC z2 _ fun bX a2 bM bs ch qM=>?_).wp
     exact NK qM (bs _ _ hn) e' fun x aj sK u5=>⟨bX,x,rfl,au.trans bs,sK,u5⟩
theorem dy (cE:P.follows .mixedOrders=true) (bx:ea P) {f:FuncId} {fn:Func} {c:Code} {args:List V} {h:af} {K:V→af→Prop} (av:P.funcs[f]? =some fn) (ah:fn.body=some c)
 (fM:Nat.ble fn.ntmps top=true) (aZ:Nat.beq f c4=false) (jN:Nat.ble args.length fn.ntmps=true) {rc:bz} {eI:List vC} (wP:cc P fn.ntmps c=rc) (r8:cV P fn.ntmps fn.results.toList=eI) (hD:rc.plain=true)
 (H:b_ P rc (aR.bb args) h fun e r ab=>e.ends∧∃ad,cL r ab eI=some ad∧K (oneOf ad) ab):bI P f args h K:=by
 refine I1 cE bx av ah fM aZ jN wP r8 H fun e r ab aQ ⟨aa,ad,ae,aI⟩=>⟨aa,ab,?_,ad,ae,aI⟩
 rw [aQ hD]
 rfl
theorem I2 (cE:P.follows .mixedOrders=true) (bx:ea P) {f:FuncId} {fn:Func} {c:Code} {args:List V} {h:af} {K:V→af→Prop} (av:P.funcs[f]? =some fn) (ah:fn.body=some c)
 (fM:Nat.ble fn.ntmps top=true) (aZ:Nat.beq f c4=false) (jN:Nat.ble args.length fn.ntmps=true) {rc:bz} {eI:List vC} (wP:cc P fn.ntmps c=rc) (r8:cV P fn.ntmps fn.results.toList=eI)
 (H:b_ P rc (aR.bb args) h fun e r ab=>e.ends∧∃ae,lv (r dN).list ab=some ae∧∃ad,cL r ae eI=some ad∧K (oneOf ad) ae):bI P f args h K:=
 I1 cE bx av ah fM aZ jN wP r8 H fun e r ab _ q=>q
end
end Go.Proofs.YthemdhlheglhoaaGreatDoor.a6
namespace Go.Proofs.YthemdhlheglhoaaGreatDoor.a6
variable [Lay]
open Go Go.RowKit
theorem pd (i j:Nat):(aq i=aq j)=(i=j):=by
 apply propext
 exact ⟨eZ,fun h=>by rw [h]⟩
theorem acY (ad:List V):∀(i off:Nat) (x:V) (t:T V),i<off→T.put .bad x (aq i) (cN t off ad)=cN (T.put .bad x (aq i) t) off ad:=by
 induction ad with
 | nil=>intro i off x t _;rfl
 | cons v ad bh=>
   intro i off x t h
   simp only [cN]
   rw [bh i (off+1) x _ (by omega),T.put_comm _ _ _ _ _ _ (fun e=>by rw [pd] at e;omega)]
def hf (ad:List V) (off:Nat) (ws:List V):List V:=ad.take off++ws++ad.drop (off+ws.length)
theorem Ns:∀(ad:List V) (base i:Nat) (x:V) (t:T V),i<ad.length→T.put .bad x (aq (base+i)) (cN t base ad)=cN t base (ad.set i x)
 | [],_,i,_,_,h=>by simp at h
 | v::ad,base,i,x,t,h=>by
   cases i with
   | zero=>
     simp only [cN,Nat.add_zero,List.set]
     rw [acY ad base (base+1) x _ (by omega),T.No]
   | succ i=>
     simp only [cN,List.set]
     have:=Ns ad (base+1) i x (T.put .bad v (aq base) t) (by simpa using h)
     rw [show base + (i+1)=base+1+i from by omega]
     exact this
theorem NY (ad:List V) (off:Nat) (w:V) (ws:List V) (h:off<ad.length):hf (ad.set off w) (off+1) ws=hf ad off (w::ws):=by
 unfold hf
 have aa:(ad.set off w).take (off+1)=ad.take off++[w]:=by
  rw [List.take_succ_eq_append_getElem (by simpa using h)]
  simp [List.take_set_of_le]
 have ae:(ad.set off w).drop (off+1+ws.length)=ad.drop (off + (w::ws).length):=by
  rw [List.drop_set_of_lt (by omega)]
  congr 1
  simp
  omega
 rw [aa,ae]
 simp
theorem oe (ad:List V) (off:Nat) (ws:List V) (h:off+ws.length≤ad.length):(hf ad off ws).length=ad.length:=by
 unfold hf
 simp
 omega
theorem Gp:∀(ws ad:List V) (off:Nat),off+ws.length≤ad.length→cN (cN .e 0 ad) off ws=cN .e 0 (hf ad off ws)
 | [],ad,off,h=>by simp [cN,hf]
 | w::ws,ad,off,h=>by
   simp only [List.length_cons] at h
   simp only [cN]
   have aa:=Ns ad 0 off w .e (by omega)
   rw [Nat.zero_add] at aa
   rw [aa,Gp ws (ad.set off w) (off+1) (by simp;omega),NY ad off w ws (by omega)]
theorem DN (ad:List V):∀(off i:Nat) (t:T V),T.get .bad (aq (off+i)) (cN t off ad)=if i<ad.length then (ad[i]?).getD .bad else T.get .bad (aq (off+i)) t:=by
 induction ad with
 | nil=>intro off i t;simp [cN]
 | cons v ad bh=>
   intro off i t
   simp only [cN]
   cases i with
   | zero=>
     have:∀(ws:List V) (o:Nat) (s:T V),off<o→T.get .bad (aq off) (cN s o ws)=T.get .bad (aq off) s:=by
      intro ws
      induction ws with
      | nil=>intro o s _;rfl
      | cons w ws Ys=>
        intro o s aS
        simp only [cN]
        rw [Ys (o+1) _ (by omega),T.gP,if_neg (fun e=>by rw [pd] at e;omega)]
     rw [Nat.add_zero,this ad (off+1) _ (by omega),T.gP]
     simp
   | succ i=>
     have:=bh (off+1) i (T.put .bad v (aq off) t)
     rw [show off+1+i=off + (i+1) from by omega] at this
     rw [this,T.gP]
     have dp:¬aq off=aq (off + (i+1)):=fun e=>by rw [pd] at e;omega
     rw [if_neg dp]
     simp
theorem ze (ad:List V):∀(n i:Nat),i+n≤ad.length→jk (cN .e 0 ad) i n=(ad.drop i).take n
 | 0,i,h=>by simp [jk]
 | n+1,i,h=>by
   simp only [jk]
   have aa:=DN ad 0 i .e
   rw [Nat.zero_add] at aa
   rw [aa,if_pos (by omega),ze ad n (i+1) (by omega)]
   have a1:ad.drop i=ad[i]::ad.drop (i+1):=List.drop_eq_getElem_cons (by omega)
   rw [a1,List.take_succ_cons]
   simp [List.getElem?_eq_getElem (by omega:i<ad.length)]
noncomputable def b1.bb (ad:List V) (cl:Nat) (st:Bool):b1:=.cells ad.length (cN .e 0 ad) cl st
noncomputable def b1.ro (ad:List V):b1:=.view ad.length (cN .e 0 ad)
def Rd (h:af) (b:aO) (ad:List V):Prop:=h.get b=.ro ad∨∃cl st,h.get b=.bb ad cl st
def Own (h:af) (b:aO) (ad:List V) (cl:Nat) (st:Bool):Prop:=h.get b=.bb ad cl st
theorem Rd.mm {α:Type} {h:af} {b:aO} {ad:List V} (H:Rd h b ad) (d:α) (f:Nat→T V→α):(h.get b).mm d f=f ad.length (cN .e 0 ad):=by
 rcases H with H | ⟨_,_,H⟩<;>rw [H]<;>rfl
theorem Own.lay {h:af} {b:aO} {ad:List V} {cl:Nat} {st:Bool} (H:Own h b ad cl st) {off:Nat} {ws:List V} (aS:off+ws.length≤ad.length) (aa:fk ws=true):
 lay h b off ws=some (h.set b (.bb (hf ad off ws) cl st)):=by
 unfold a6.lay
 rw [show h.get b=.cells ad.length (cN .e 0 ad) cl st from H]
 simp only [b1.on]
 rw [show Nat.ble (off+ws.length) ad.length=true from by rw [Nat.ble_eq];exact aS,aa]
 simp only [Bool.and_true,cond_true,Option.some.injEq,b1.bb]
 rw [oe ad off ws aS,Gp ws ad off aS]
theorem Own.store {h:af} {b:aO} {ad:List V} {cl:Nat} {st:Bool} (H:Own h b ad cl st) {off n:Nat} {y:V} (aV:y.cells.length=n) (aS:off+n≤ad.length) (aa:fk y.cells=true):
 nj n h (.ptr b off) y=some (h.set b (.bb (hf ad off y.cells) cl st)):=by
 simp only [nj,V.hE]
 rw [show Nat.beq y.cells.length n=true from by rw [Nat.beq_eq];exact aV]
 simp only [cond_true]
 exact H.lay (by rw [aV];exact aS) aa
theorem abC {h:af} {ad:List V} (ai:ad.length≤top):fi h ad=some (h.new (.bb ad 0 false)):=by
 unfold fi
 rw [show Nat.ble ad.length top=true from by rw [Nat.ble_eq];exact ai]
 rfl
theorem FM {h:af} {ad:List V} {cl:Nat} {st:Bool} (ai:ad.length≤top) (he:1≤cl):ic h ad cl st=some (h.new (.bb ad cl st)):=by
 unfold ic
 rw [show Nat.ble ad.length top=true from by rw [Nat.ble_eq];exact ai,show Nat.ble 1 cl=true from by rw [Nat.ble_eq];exact he]
 rfl
theorem fF (h:af) (k:b1):(h.new k).next=h.next+1:=rfl
theorem k2 (h:af) (b:aO) (k:b1):(h.set b k).next=h.next:=rfl
section
variable {P:Program} {r:aR} {h:af}
theorem adJ (r:aR) (d:Nat) (v:V) (t:Nat):aR.set r (some d) v t=if t=d then v else r t:=(rfl)
theorem adK (r:aR) (v:V):aR.set r none v=r:=(rfl)
theorem aeI (r:aR) (u:Nat) (us:List Nat) (t:Nat):aR.trim r (u::us) t=if t=u then r t else aR.trim r us t:=(rfl)
theorem abX (v:V) (ad:List V):aR.bb (v::ad) 0=v:=(rfl)
theorem abY (v:V) (ad:List V) (t:Nat):aR.bb (v::ad) (t+1)=aR.bb ad t:=by simp [aR.bb]
theorem U7 (r:aR) (n:Nat):aT.aW r (.t n)=r n:=(rfl)
theorem U6 (r:aR) (v:V):aT.aW r (.c v)=v:=(rfl)
theorem Mt {d:Option Nat} {g:G} {rs:List Nat} {K:aR→V→af→Prop}:bA.wp P ⟨d,g,none,rs⟩ r h K=g.wp P (r.trim rs) h fun v ab=>K (r.set d v) v ab:=(rfl)
theorem Mr {d:Option Nat} {g:G} {j:Nat} {want:Bool} {rs:List Nat} {K:aR→V→af→Prop}:bA.wp P ⟨d,g,some (j,want),rs⟩ r h K=
 gate (r.trim rs j) want (g.wp P (r.trim rs) h fun v ab=>K (r.set d v) v ab) (K (r.set d (.tuple [])) (.tuple []) h):=(rfl)
variable {K:V→af→Prop}
theorem nA (k:IntKind):lP k k=true:=by cases k<;>rfl
theorem nZ (a b:Int):Int.leB a b=decide (a≤b):=l9 a b
theorem Dy (a b:Int):Int.fs a b=decide (a=b):=by rw [jK];rfl
variable (k:IntKind) (a b:Int)
theorem YP:(ej.int .add).run P (.int k a) (.int k b)=some (.int k (k.wrap (a+b))):=by simp [ej.run,jX,l4,V.dT,nA]
theorem ZR:(ej.int .sub).run P (.int k a) (.int k b)=some (.int k (k.wrap (a-b))):=by simp [ej.run,jX,l4,V.dT,nA]
theorem Zz:(ej.int .mul).run P (.int k a) (.int k b)=some (.int k (k.wrap (a * b))):=by simp [ej.run,jX,l4,V.dT,nA]
theorem Y':(ej.int .eql).run P (.int k a) (.int k b)=some (.bool (decide (a=b))):=by simp [ej.run,jX,kX,V.dT,nA,Dy]
theorem ZC:(ej.int .neq).run P (.int k a) (.int k b)=some (.bool (!decide (a=b))):=by simp [ej.run,jX,kX,V.dT,nA,Dy]
theorem Zv:(ej.int .lss).run P (.int k a) (.int k b)=some (.bool (decide (a<b))):=by
 simp [ej.run,jX,kX,V.dT,nA,nZ]
 rw [Bool.eq_iff_iff];simp
theorem Zs:(ej.int .leq).run P (.int k a) (.int k b)=some (.bool (decide (a≤b))):=by simp [ej.run,jX,kX,V.dT,nA,nZ]
theorem Zg:(ej.int .gtr).run P (.int k a) (.int k b)=some (.bool (decide (b<a))):=by
 simp [ej.run,jX,kX,V.dT,nA,nZ]
 rw [Bool.eq_iff_iff];simp
theorem Zf:(ej.int .geq).run P (.int k a) (.int k b)=some (.bool (decide (b≤a))):=by simp [ej.run,jX,kX,V.dT,nA,nZ]
theorem YR (x y:Bool):(ej.tn false).run P (.bool x) (.bool y)=some (.bool (x == y)):=by simp [ej.run,hL,v_,nz]
theorem YV (x y:Bool):(ej.tn true).run P (.bool x) (.bool y)=some (.bool (!(x == y))):=by simp [ej.run,hL,v_,nz]
theorem aeR (x:Bool):oh .not (.bool x)=some (.bool (!x)):=(rfl)
theorem aeQ:oh .neg (.int k a)=some (.int k (k.wrap (0-a))):=(rfl)
theorem wrap_i64 {n:Int} (aa:-9223372036854775808≤n) (ae:n≤9223372036854775807):IntKind.i64.wrap n=n:=by
 exact Go.IntWalk.i64_in n ⟨aa,ae⟩
end
section
variable {P:Program} {r:aR} {h:af} {Q:cY→aR→af→Prop}
theorem TJ {ops:List bA}:b_ P (.aB ops) r h Q=px P ops r h (Q .normal):=(rfl)
theorem TK {a b:bz}:b_ P (.seq a b) r h Q=b_ P a r h fun e bq ab=>e.andThen (b_ P b bq ab Q) (Q e bq ab):=(rfl)
theorem aeB {A B:Prop}:cY.andThen .normal A B=A:=(rfl)
theorem aeC {A B:Prop}:cY.andThen .ret A B=B:=(rfl)
theorem aeA {A B:Prop} {i:Nat}:cY.andThen (.exit i) A B=B:=(rfl)
theorem aaT {id:Nat}:cY.leave id .normal=.normal:=(rfl)
theorem aaU {id:Nat}:cY.leave id .ret=.ret:=(rfl)
theorem aaS {id i:Nat}:cY.leave id (.exit i)=if i=id then .normal else .exit i:=(rfl)
end
end Go.Proofs.YthemdhlheglhoaaGreatDoor.a6
namespace Go.Proofs.YthemdhlheglhoaaGreatDoor.a6
variable [Lay]
open Go Go.RowKit
def sP {α:Type} (o:Option α) (k:α→Prop):Prop:=
 match o with
 | some v=>k v
 | none=>False
@[congr] theorem agQ {α:Type} {o bU:Option α} {k:α→Prop} (h:o=bU):sP o k=sP bU k:=by rw [h]
def V.opt (c:Bool) (v:V):V:=bif c then v else .tuple []
theorem acp (v:V):V.opt true v=v:=(rfl)
theorem acm (v:V):V.opt false v=.tuple []:=(rfl)
@[congr] theorem agE {c gf:Bool} {v eQ:V} (h:c=gf) (bn:gf=true→v=eQ):V.opt c v=V.opt gf eQ:=by
 subst h
 cases c with
 | true=>rw [bn rfl]
 | false=>rfl
def V.bif (t:Bool) (a b:V):V:=bif t then a else b
theorem aeV (a b:V):V.bif true a b=a:=(rfl)
theorem aeU (a b:V):V.bif false a b=b:=(rfl)
theorem QL (t a b:Bool):V.bif t (.bool a) (.bool b)=.bool (bif t then a else b):=by cases t<;>rfl
theorem QM (t:Bool) (k:IntKind) (a b:Int):V.bif t (.int k a) (.int k b)=.int k (if t=true then a else b):=by cases t<;>rfl
theorem QO (t x:Bool):(bif t then true else x)=(t||x):=by cases t<;>rfl
theorem QK (t x:Bool):(bif t then x else false)=(t&&x):=by cases t<;>rfl
@[congr] theorem afE {t ps:Bool} {a bg b bC:V} (h:t=ps) (br:ps=true→a=bg) (ah:ps=false→b=bC):V.bif t a b=V.bif ps bg bC:=by
 subst h
 cases t with
 | true=>rw [V.bif,V.bif,br rfl];rfl
 | false=>rw [V.bif,V.bif,ah rfl];rfl
def eB (c:Bool) (A:Prop):Prop:=c=true→A
@[congr] theorem afx {c gf:Bool} {A ik:Prop} (h:c=gf) (br:gf=true→A=ik):eB c A=eB gf ik:=by
 subst h
 exact propext ⟨fun q e=>(br e) ▸ q e,fun q e=>(br e) ▸ q e⟩
theorem Po (c:Bool):eB c True=True:=propext ⟨fun _=>trivial,fun _ _=>trivial⟩
theorem Pq (A:Prop):eB true A=A:=propext ⟨fun q=>q rfl,fun q _=>q⟩
theorem Pp (A:Prop):eB false A=True:=propext ⟨fun _=>trivial,fun _ e=>by cases e⟩
def took (v:V) (want:Bool):Bool:=
 match v with
 | .bool b=>b == want
 | _=>false
theorem aeF (b w:Bool):took (.bool b) w=(b == w):=(rfl)
theorem aeH (ad:List V) (w:Bool):took (.tuple ad) w=false:=(rfl)
theorem aeG (c:Bool) (v:V) (w:Bool):took (.opt c v) w=(c&&took v w):=by cases c<;>rfl
def eY (v:V):Prop:=
 match v with
 | .bool _=>True
 | .tuple _=>True
 | _=>False
theorem YG (b:Bool):eY (.bool b)=True:=(rfl)
theorem YI (ad:List V):eY (.tuple ad)=True:=(rfl)
theorem YH (c b:Bool):eY (.opt c (.bool b))=True:=by cases c<;>rfl
def G.l5:G→Bool
 | .fh _ | .pick .. | .build .. | .iB _ | .iW .. | .qo _ | .bin .. | .un .. | .fn .. | .xh .. | .yq .. | .sa .. | .od .. | .fx .. | .hy .. | .rC .. | .rD .. | .cH .. | .um .. | .ko .. | .ib .. | .look .. | .ext .. | .uD _ | .dm _=>true
 | .ir (.int _) _=>true
 | .len .map _=>false
 | .len _ _=>true
 | _=>false
def V.pc {α:Type} (v:V) (d:α) (f:List V→α):α:=
 match v with
 | .agg cs=>f cs
 | _=>d
def V.xp {α:Type} (v:V) (d:α) (f:List V→α):α:=
 match v with
 | .tuple cs=>f cs
 | _=>d
def xB (c a b:V):Option V:=
 match c with
 | .bool t=>some (V.bif t a b)
 | _=>none
theorem acG (t:Bool) (a b:V):xB (.bool t) a b=some (V.bif t a b):=(rfl)
def xL (n:Nat) (x:V) (bH aD m3:Option V):Option V:=
 match x with
 | .b6=>A2 bH aD m3
 | .slice b off sj cap=>u1 n b off sj cap bH aD m3
 | .ef b off sj idx=>u0 n b off sj idx bH aD m3
 | .gT b off ks idx=>A3 b off ks idx bH aD m3
 | _=>none
noncomputable def G.j5 (P:Program) (g:G) (r:aR) (h:af):Option V:=
 match g with
 | .fh x=>some (x.aW r)
 | .pick c a b=>xB (c.aW r) (a.aW r) (b.aW r)
 | .build z ba=>(match hz z (iO r ba) with
   | some cs=>some (.agg cs)
   | none=>none)
 | .iB x=>k0 h (x.aW r)
 | .iW n x=>kZ n h (x.aW r)
 | .qo x=>qn (x.aW r)
 | .bin k x y=>k.run P (x.aW r) (y.aW r)
 | .un op x=>oh op (x.aW r)
 | .ir (.int k) x=>(x.aW r).dT none fun _ n=>some (.int k (k.wrap n))
 | .fn f eb=>some (.func f (aT.e3 r eb))
 | .xh f first=>some (.mb f (aT.e3 r first))
 | .yq t z ok x=>vL t z ok (x.aW r)
 | .sa t x=>some (.iface t (x.aW r))
 | .od x bH aD m3=>kx (x.aW r) (aT.opt r bH) (aT.opt r aD) (aT.opt r m3)
 | .fx n x bH aD m3=>xL n (x.aW r) (aT.opt r bH) (aT.opt r aD) (aT.opt r m3)
 | .hy off x=>(x.aW r).hE none fun b o=>some (.ptr b (o+off))
 | .rC off x=>(x.aW r).pc none fun cs=>cs[off]?
 | .rD off n x=>(x.aW r).pc none fun cs=>some (.agg ((cs.drop off).take n))
 | .cH n x i=>(se n).run (x.aW r) (i.aW r)
 | .um n s x i=>(sd n s).run (x.aW r) (i.aW r)
 | .ko x i=>o8.run (x.aW r) (i.aW r)
 | .ib t x i=>(o7 P t).run (x.aW r) (i.aW r)
 | .look k z ok x i=>ma k.eq z ok h (x.aW r) (i.aW r)
 | .ext x i=>(x.aW r).xp none fun ad=>ad[i]?
 | .len (.arr n) _=>some (.int .i64 n)
 | .len .str x=>(l' .string).run (x.aW r)
 | .len .slice x=>(l' (.slice 0)).run (x.aW r)
 | .uD args=>iY (fun b a=>!Int.leB a b) (aT.e3 r args)
 | .dm args=>iY (fun b a=>!Int.leB b a) (aT.e3 r args)
 | _=>none
section
variable {P:Program} {r:aR} {h:af}
theorem pure_run {g:G} (ag:g.l5=true) (call:dd):g.run P call r h=aU.of h (g.j5 P r h):=by
 cases g<;>simp only [G.l5] at ag<;>try (cases ag;done)
 all_goals simp only [G.run,G.j5]
 case fh x=>rfl
 case pick c a b=>
  generalize c.aW r=q
  cases q<;>rfl
 case build z ba=>
  generalize hz z (iO r ba)=q
  cases q<;>rfl
 case ir k x=>
  cases k<;>simp only at ag<;>try (cases ag;done)
  simp only [pA.run]
  generalize x.aW r=q
  cases q<;>rfl
 case fn f eb=>rfl
 case xh f first=>rfl
 case sa t x=>rfl
 case fx n x bH aD m3=>
  unfold xL
  generalize x.aW r=q
  cases q<;>rfl
 case rC off x=>
  generalize x.aW r=q
  cases q<;>rfl
 case rD off n x=>
  generalize x.aW r=q
  cases q<;>rfl
 case ext x i=>
  generalize x.aW r=q
  cases q<;>rfl
 case len k x=>
  cases k<;>simp only at ag<;>first | rfl | (cases ag;done)
theorem JU {g:G} (ag:g.l5=true) {K:V→af→Prop}:g.wp P r h K=sP (g.j5 P r h) fun v=>K v h:=by
 have e:g.wp P r h K=∃v ab,g.run P ju r h=.val v ab∧K v ab:=by
  cases g<;>first | rfl | (simp [G.l5] at ag;done)
 rw [e,pure_run ag]
 apply propext
 cases bn:g.j5 P r h with
 | none=>exact ⟨fun ⟨v,ab,q,_⟩=>(by cases q),fun q=>q.elim⟩
 | some v=>
   constructor
   · rintro ⟨v1,aa,q,k⟩
     simp only [aU.of,aU.val.injEq] at q
     obtain ⟨rfl,rfl⟩:=q
     exact k
   · intro k
     exact ⟨v,h,rfl,k⟩
theorem Mu {d:Option Nat} {g:G} {rs:List Nat} {K:aR→V→af→Prop} (ag:g.l5=true):bA.wp P ⟨d,g,none,rs⟩ r h K=sP (g.j5 P (r.trim rs) h) fun v=>K (r.set d v) v h:=by
 rw [Mt,JU ag]
theorem Ms {d:Option Nat} {g:G} {j:Nat} {want:Bool} {rs:List Nat} {K:aR→V→af→Prop} (ag:g.l5=true):bA.wp P ⟨d,g,some (j,want),rs⟩ r h K=
 (eY (r.trim rs j)∧eB (took (r.trim rs j) want) ((g.j5 P (r.trim rs) h).isSome=true)∧
   K (r.set d (V.opt (took (r.trim rs j) want) ((g.j5 P (r.trim rs) h).getD .bad))) (V.opt (took (r.trim rs j) want) ((g.j5 P (r.trim rs) h).getD .bad)) h):=by
 rw [Mr,JU ag]
 generalize r.trim rs j=q
 generalize g.j5 P (r.trim rs) h=o
 apply propext
 cases q<;>simp only [gate,eY,took,false_and,true_and]
 case bool b=>
  cases b<;>cases want<;>cases o<;>simp [sP,eB,V.opt]
 case tuple ad=>simp [eB,V.opt]
@[congr] theorem agU {os:List bA} {r bq:aR} {h ab:af} {K:aR→af→Prop} (aN:r=bq) (bf:h=ab):px P os r h K=px P os bq ab K:=by rw [aN,bf]
@[congr] theorem agS {os:List bA} {r bq:aR} {h ab:af} {K:List fc→aR→af→Prop} (aN:r=bq) (bf:h=ab):jz P os r h K=jz P os bq ab K:=by rw [aN,bf]
@[congr] theorem afv {o:bA} {r bq:aR} {h ab:af} {K:aR→V→af→Prop} (aN:r=bq) (bf:h=ab):o.wp P r h K=o.wp P bq ab K:=by rw [aN,bf]
@[congr] theorem afw {g:G} {r bq:aR} {h ab:af} {K:V→af→Prop} (aN:r=bq) (bf:h=ab):g.wp P r h K=g.wp P bq ab K:=by rw [aN,bf]
@[congr] theorem agR {c:bz} {r bq:aR} {h ab:af} {Q:cY→aR→af→Prop} (aN:r=bq) (bf:h=ab):b_ P c r h Q=b_ P c bq ab Q:=by rw [aN,bf]
@[congr] theorem afu {f:FuncId} {a bg:List V} {h ab:af} {K:V→af→Prop} (aN:a=bg) (bf:h=ab):bI P f a h K=bI P f bg ab K:=by rw [aN,bf]
noncomputable def iC (k:b1) (off:Nat):Option V:=k.mm none fun n cs=>bif Nat.blt off n then some (T.get .bad (aq off) cs) else none
noncomputable def lu (n:Nat) (k:b1) (off:Nat):Option V:=k.mm none fun m cs=>bif Nat.ble (off+n) m then some (.agg (jk cs off n)) else none
theorem abc (b:aO) (off:Nat):k0 h (.ptr b off)=iC (h.get b) off:=(rfl)
theorem abe (n:Nat) (b:aO) (off:Nat):kZ n h (.ptr b off)=lu n (h.get b) off:=(rfl)
theorem LO {ad:List V} {off:Nat}:(bif Nat.blt off ad.length then some (T.get .bad (aq off) (cN .e 0 ad)) else none)=ad[off]? :=by
 have:=DN ad 0 off .e
 rw [Nat.zero_add] at this
 rw [this]
 by_cases aS:off<ad.length
 · rw [show Nat.blt off ad.length=true from by rw [Nat.blt_eq];exact aS,if_pos aS]
   simp [List.getElem?_eq_getElem aS]
 · rw [show Nat.blt off ad.length=false from by rw [←Bool.not_eq_true,Nat.blt_eq];exact aS]
   rw [List.getElem?_eq_none (by omega)]
   rfl
theorem LM (ad:List V) (cl:Nat) (st:Bool) (off:Nat):iC (.bb ad cl st) off=ad[off]? :=LO
theorem LN (ad:List V) (off:Nat):iC (.ro ad) off=ad[off]? :=LO
theorem LU {ad:List V} {off n:Nat}:(bif Nat.ble (off+n) ad.length then some (V.agg (jk (cN .e 0 ad) off n)) else none)=if off+n≤ad.length then some (.agg ((ad.drop off).take n)) else none:=by
 by_cases aS:off+n≤ad.length
 · rw [show Nat.ble (off+n) ad.length=true from by rw [Nat.ble_eq];exact aS,if_pos aS,ze ad n off aS]
   rfl
 · rw [show Nat.ble (off+n) ad.length=false from by rw [←Bool.not_eq_true,Nat.ble_eq];exact aS,if_neg aS]
   rfl
theorem z6 (n:Nat) (ad:List V) (cl:Nat) (st:Bool) (off:Nat):lu n (.bb ad cl st) off=if off+n≤ad.length then some (.agg ((ad.drop off).take n)) else none:=LU
theorem LS (n:Nat) (ad:List V) (off:Nat):lu n (.ro ad) off=if off+n≤ad.length then some (.agg ((ad.drop off).take n)) else none:=LU
theorem Rd.iB {b:aO} {ad:List V} (H:Rd h b ad) (off:Nat):iC (h.get b) off=ad[off]? :=by
 rcases H with H | ⟨_,_,H⟩<;>rw [H]
 · exact LN ad off
 · exact LM ad _ _ off
theorem Rd.iW {b:aO} {ad:List V} (H:Rd h b ad) (n off:Nat):lu n (h.get b) off=if off+n≤ad.length then some (.agg ((ad.drop off).take n)) else none:=by
 rcases H with H | ⟨_,_,H⟩<;>rw [H]
 · exact LS n ad off
 · exact z6 n ad _ _ off
def over:List V→List V→List V
 | ad,[]=>ad
 | [],_::_=>[]
 | _::ad,w::ws=>w::over ad ws
def mn:List V→Nat→List V→List V
 | ad,0,ws=>over ad ws
 | [],_+1,_=>[]
 | v::ad,n+1,ws=>v::mn ad n ws
theorem MM:∀(ad ws:List V),ws.length≤ad.length→over ad ws=ws++ad.drop ws.length
 | ad,[],_=>by cases ad<;>rfl
 | [],_::_,h=>by simp at h
 | v::ad,w::ws,h=>by
   simp only [over,List.cons_append,List.length_cons,List.drop_succ_cons]
   rw [MM ad ws (by simpa using h)]
theorem A5:∀(ad:List V) (off:Nat) (ws:List V),off+ws.length≤ad.length→mn ad off ws=hf ad off ws
 | ad,0,ws,h=>by
   cases ad<;>simp only [mn,hf,List.take_zero,List.nil_append,Nat.zero_add]<;>exact MM _ ws (by omega)
 | [],n+1,ws,h=>by simp at h
 | v::ad,n+1,ws,h=>by
   simp only [List.length_cons] at h
   simp only [mn,hf]
   rw [A5 ad n ws (by omega)]
   simp only [hf,List.take_succ_cons,List.cons_append]
   rw [show n+1+ws.length=n+ws.length+1 from by omega,List.drop_succ_cons]
theorem aea (ad:List V) (off:Nat) (ws:List V) (h:off+ws.length≤ad.length):(mn ad off ws).length=ad.length:=by
 rw [A5 ad off ws h,oe ad off ws h]
noncomputable def ux (n:Nat) (h:af) (b:aO) (off:Nat) (y:V) (k:b1):Option af:=
 bif Nat.beq y.cells.length n then k.on none fun m cs cl st=>
  bif Nat.ble (off+y.cells.length) m&&fk y.cells then some (h.set b (.cells m (cN cs off y.cells) cl st)) else none else none
theorem aeh (n:Nat) (b:aO) (off:Nat) (y:V):nj n h (.ptr b off) y=ux n h b off y (h.get b):=(rfl)
theorem aaG {n:Nat} {b:aO} {off:Nat} {y:V} {ad:List V} {cl:Nat} {st:Bool} (aa:y.cells.length=n) (ae:fk y.cells=true) (aI:off+n≤ad.length):
 ux n h b off y (.bb ad cl st)=some (h.set b (.bb (mn ad off y.cells) cl st)):=by
 unfold ux
 rw [show Nat.beq y.cells.length n=true from by rw [Nat.beq_eq];exact aa]
 simp only [cond_true,b1.bb,b1.on]
 rw [show Nat.ble (off+y.cells.length) ad.length=true from by rw [Nat.ble_eq,aa];exact aI,ae]
 simp only [Bool.and_true,cond_true,Option.some.injEq]
 rw [aea ad off _ (by rw [aa];exact aI),A5 ad off _ (by rw [aa];exact aI),Gp _ ad off (by rw [aa];exact aI)]
theorem lk (k:b1):(h.new k).get (aq h.next)=k:=by rw [af.gO,if_pos rfl]
theorem gO (b:aO) (k:b1):(h.new k).get b=if aq h.next=b then k else h.get b:=af.gO h b k
theorem c8 (b bC:aO) (k:b1):(h.set b k).get bC=if b=bC then k else h.get bC:=af.c8 h b bC k
def Old (h:af) (b:aO):Prop:=ei b<h.next
theorem FX {b:aO} {i:Nat} (ah:Old h b) (aD:h.next≤i):(aq i=b)=False:=by
 apply propext
 constructor
 · intro e
   unfold Old at ah
   rw [←e,c7] at ah
   omega
 · exact False.elim
theorem Mz {k:b1}:Old (h.new k) (aq h.next):=by unfold Old;rw [c7];exact Nat.lt_succ_self _
def y0 (off:Nat) (x:V):Option V:=x.hE none fun b o=>some (.ptr b (o+off))
theorem Va (off:Nat) (b:aO) (o:Nat):y0 off (.ptr b o)=some (.ptr b (o+off)):=(rfl)
theorem ab3 {α:Type} (ad:List V) (d:α) (f:List V→α):V.xp (.tuple ad) d f=f ad:=(rfl)
theorem ab2 {α:Type} (ad:List V) (d:α) (f:List V→α):V.pc (.agg ad) d f=f ad:=(rfl)
def kq (x:V):Option V:=(l' (.slice 0)).run x
theorem aa0 (b:aO) (off n c:Nat):kq (.slice b off n c)=some (.int .i64 n):=(rfl)
theorem aaY (b:aO) (off n c:Nat):kq (.ef b off n c)=some (.int .i64 n):=(rfl)
theorem aa1 (b:aO) (off n c:Nat):kq (.gT b off n c)=some (.int .i64 0):=(rfl)
theorem aaZ:kq .b6=some (.int .i64 0):=(rfl)
def z8 (x:V):Option V:=(l' .string).run x
theorem aa2 (s:List UInt8):z8 (.str s)=some (.int .i64 s.length):=(rfl)
def iU (n:Nat) (x i:V):Option V:=(se n).run x i
theorem Ff (n:Nat) (b:aO) (off len cap:Nat) (k:IntKind) (i:Int):iU n (.slice b off len cap) (.int k i)=if 0≤i∧i<len then some (.ptr b (off+i.toNat * n)) else none:=by
 simp only [iU,se,V.dT,qd,nZ]
 by_cases aa:0≤i<;>by_cases ae:(len:Int)≤i<;>simp [aa,ae]<;>omega
theorem Fe (n:Nat) (b:aO) (off len cap:Nat) (k:IntKind) (i:Int):iU n (.ef b off len cap) (.int k i)=if 0≤i∧i<len then some (.ptr b (off+i.toNat * n)) else none:=by
 simp only [iU,se,V.dT,qd,nZ]
 by_cases aa:0≤i<;>by_cases ae:(len:Int)≤i<;>simp [aa,ae]<;>omega
def yK (k:IntKind) (x:V):Option V:=x.dT none fun _ n=>some (.int k (k.wrap n))
theorem Ut (k bp:IntKind) (n:Int):yK k (.int bp n)=some (.int k (k.wrap n)):=(rfl)
end
end Go.Proofs.YthemdhlheglhoaaGreatDoor.a6
namespace Go.Proofs.YthemdhlheglhoaaGreatDoor.a6
variable [Lay]
open Go Go.RowKit
structure hg where
 all:List bA
 asks:List (Nat × List Nat)
 es:List fc
def hF (D:Option hg) (r:aR) (h:af) (v:V):Option hg:=
 match D with
 | none=>none
 | some d=>some ⟨d.all,d.asks,d.es++[⟨r,h,v⟩]⟩
inductive gU where
 | os (D:Option hg) (os:List bA)
 | c (b:bz)
 | a8 (id:Nat)
section
variable (P:Program)
noncomputable def q_ (D:Option hg) (es:List fc) (av:af):Prop:=
 match D with
 | none=>True
 | some d=>mz P d.all (d.es++es) av d.asks
noncomputable def bl:List gU→cY→aR→af→(cY→aR→af→Prop)→Prop
 | [],e,r,h,Q=>Q e r h
 | .os D os::aJ,e,r,h,Q=>match e with
   | .normal=>jz P os r h fun es bq ab=>q_ P D es ab∧bl aJ .normal bq ab Q
   | e=>bl aJ e r h Q
 | .c b::aJ,e,r,h,Q=>match e with
   | .normal=>b_ P b r h fun e bq ab=>bl aJ e bq ab Q
   | e=>bl aJ e r h Q
 | .a8 id::aJ,e,r,h,Q=>bl aJ (e.leave id) r h Q
noncomputable def c' (o:Option V) (d:Option Nat) (D:Option hg) (os:List bA) (aJ:List gU) (r:aR) (h:af) (Q:cY→aR→af→Prop):Prop:=
 sP o fun v=>bl P (.os (hF D r h v) os::aJ) .normal (r.set d v) h Q
noncomputable def ij (o:aU) (d:Option Nat) (D:Option hg) (os:List bA) (aJ:List gU) (r:aR) (a_:af) (Q:cY→aR→af→Prop):Prop:=
 match o with
 | .val v h=>bl P (.os (hF D r a_ v) os::aJ) .normal (r.set d v) h Q
 | _=>False
noncomputable def fg (v:V) (want:Bool) (d:Option Nat) (g:G) (rs:List Nat) (D:Option hg) (os:List bA) (aJ:List gU) (r:aR) (h:af) (Q:cY→aR→af→Prop):Prop:=
 gate v want (bl P (.os D (⟨d,g,none,rs⟩::os)::aJ) .normal r h Q) (bl P (.os (hF D r h (.tuple [])) os::aJ) .normal (r.set d (.tuple [])) h Q)
noncomputable def tf (v:V) (a b:bz) (aJ:List gU) (r:aR) (h:af) (Q:cY→aR→af→Prop):Prop:=
 match v with
 | .bool t=>(t=true→bl P (.c a::aJ) .normal r h Q)∧(t=false→bl P (.c b::aJ) .normal r h Q)
 | _=>False
noncomputable def nw (f:FuncId) (args:List V) (d:Option Nat) (D:Option hg) (os:List bA) (aJ:List gU) (r:aR) (h:af) (Q:cY→aR→af→Prop):Prop:=
 bI P f args h fun v ab=>bl P (.os (hF D r h v) os::aJ) .normal (r.set d v) ab Q
noncomputable def Be (xs:List V) (d:Option Nat) (D:Option hg) (os:List bA) (aJ:List gU) (r:aR) (h:af) (Q:cY→aR→af→Prop):Prop:=
 HO P xs h fun v ab=>bl P (.os (hF D r h v) os::aJ) .normal (r.set d v) ab Q
noncomputable def Dc (g:FuncId) (xs:List V) (d:Option Nat) (D:Option hg) (os:List bA) (aJ:List gU) (r:aR) (h:af) (Q:cY→aR→af→Prop):Prop:=
 if g=4294967296 then Be P xs d D os aJ r h Q else nw P g xs d D os aJ r h Q
noncomputable def te (f:V) (args:List V) (d:Option Nat) (D:Option hg) (os:List bA) (aJ:List gU) (r:aR) (h:af) (Q:cY→aR→af→Prop):Prop:=
 ∃g xs,f.target args=some (g,xs)∧Dc P g xs d D os aJ r h Q
noncomputable def uA (b:bz) (aJ:List gU) (r:aR) (h:af) (Q:cY→aR→af→Prop):Prop:=b_ P (.loop b) r h fun e bq ab=>bl P aJ e bq ab Q
end
section
variable {P:Program} {r:aR} {h:af} {Q:cY→aR→af→Prop} {aJ:List gU} {os:List bA} {D:Option hg}
theorem acS (r:aR) (h:af) (v:V):hF none r h v=none:=(rfl)
theorem acT (all:List bA) (asks:List (Nat × List Nat)) (es:List fc) (r:aR) (h:af) (v:V):hF (some ⟨all,asks,es⟩) r h v=some ⟨all,asks,es++[⟨r,h,v⟩]⟩:=(rfl)
theorem df {c:bz} (H:bl P [.c c] .normal r h Q):b_ P c r h Q:=H
theorem ZE {e:cY}:bl P [] e r h Q=Q e r h:=(rfl)
theorem YT {e:cY} {id:Nat}:bl P (.a8 id::aJ) e r h Q=bl P aJ (e.leave id) r h Q:=(rfl)
theorem ZM {a b:bz}:bl P (.c (.seq a b)::aJ) .normal r h Q=bl P (.c a::.c b::aJ) .normal r h Q:=by
 simp only [bl]
 rw [TK]
 congr 1
 funext e bq ab
 cases e<;>rfl
theorem YU {id:Nat} {b:bz}:bl P (.c (.block id b)::aJ) .normal r h Q=bl P (.c b::.a8 id::aJ) .normal r h Q:=(rfl)
theorem OR:∀(os:List bA) (r:aR) (h:af) (K:aR→af→Prop),jz P os r h (fun _ r h=>K r h)=px P os r h K
 | [],_,_,_=>rfl
 | o::os,r,h,K=>by
   simp only [jz,px]
   congr 1
   funext bq v ab
   exact OR os bq ab K
theorem ZJ {ops:List bA}:bl P (.c (.aB ops)::aJ) .normal r h Q=bl P (.os none ops::aJ) .normal r h Q:=by
 simp only [bl,q_,true_and]
 rw [OR,TJ]
theorem ZN:bl P (.c .skip::aJ) .normal r h Q=bl P aJ .normal r h Q:=(rfl)
theorem ZK:bl P (.c .ret::aJ) .normal r h Q=bl P aJ .ret r h Q:=(rfl)
theorem Y_ {i:Nat}:bl P (.c (.exit i)::aJ) .normal r h Q=bl P aJ (.exit i) r h Q:=(rfl)
theorem Y3 {b:bz}:bl P (.c b::aJ) .ret r h Q=bl P aJ .ret r h Q:=(rfl)
theorem Y0 {b:bz} {i:Nat}:bl P (.c b::aJ) (.exit i) r h Q=bl P aJ (.exit i) r h Q:=(rfl)
theorem Y1 {c:aT} {a b:bz}:bl P (.c (.cond c a b)::aJ) .normal r h Q=tf P (c.aW r) a b aJ r h Q:=by
 simp only [bl,b_]
 cases c.aW r<;>rfl
theorem Nw {f:aT} {ba:List Nat} {an:Nat} {a b:bz} {g:FuncId} {cs:List V} (bn:f.aW r=.func g cs) (aE:g≠c4) (ah:∃fn,P.funcs[g]? =some fn∧fn.body.isSome=true)
 (H:∀l,vx P l an r ba a b→l.st=0→l.dz=none→bI P g (.func c4 [.ptr (aq (h.next+1)) 0]::cs) ((h.new .eE).new (.cU l)) fun _ ab=>
   ∃dD,ab.get (aq (h.next+1))=.cU dD∧dD.st≠1∧bl P aJ (dD.dz.getD .normal) (r.set (some dN) (.tuple (.ptr (aq h.next) 0::(r dN).list))) (ab.set (aq (h.next+1)) .dead) Q):
 bl P (.c (.range f ba an a b)::aJ) .normal r h Q:=by
 simp only [bl,b_]
 exact ⟨g,cs,bn,aE,ah,H⟩
theorem Zu {b:bz}:bl P (.c (.loop b)::aJ) .normal r h Q=uA P b aJ r h Q:=(rfl)
theorem Y9 {ops:List bA} {asks:List (Nat × List Nat)}:bl P (.c (.draw ops asks)::aJ) .normal r h Q=bl P (.os (some ⟨ops,asks,[]⟩) ops::aJ) .normal r h Q:=(rfl)
theorem ZH:bl P (.os none []::aJ) .normal r h Q=bl P aJ .normal r h Q:=by
 simp only [bl,jz,q_,true_and]
theorem Y8 {all:List bA} {asks:List (Nat × List Nat)} {es:List fc}:bl P (.os (some ⟨all,asks,es⟩) []::aJ) .normal r h Q=(mz P all es h asks∧bl P aJ .normal r h Q):=by
 simp only [bl,jz,q_,List.append_nil]
theorem tb (D:Option hg) (r:aR) (h:af) (v:V) (es:List fc) (av:af):q_ P (hF D r h v) es av=q_ P D (⟨r,h,v⟩::es) av:=by
 cases D with
 | none=>rfl
 | some d=>simp only [hF,q_,List.append_assoc,List.cons_append,List.nil_append]
theorem gn {d:Option Nat} {g:G} {rs:List Nat} (ag:g.l5=true):bl P (.os D (⟨d,g,none,rs⟩::os)::aJ) .normal r h Q=c' P (g.j5 P (r.trim rs) h) d D os aJ r h Q:=by
 simp only [bl,jz,c']
 rw [Mu ag]
 simp only [tb]
theorem gm {d:Option Nat} {g:G} {j:Nat} {want:Bool} {rs:List Nat} (ag:g.l5=true):bl P (.os D (⟨d,g,some (j,want),rs⟩::os)::aJ) .normal r h Q=
 (eY (r.trim rs j)∧eB (took (r.trim rs j) want) ((g.j5 P (r.trim rs) h).isSome=true)∧
   c' P (some (V.opt (took (r.trim rs j) want) ((g.j5 P (r.trim rs) h).getD .bad))) d D os aJ r h Q):=by
 simp only [bl,jz,c',sP]
 rw [Ms ag]
 simp only [tb]
def G.Lo:G→Bool
 | .call .. | .lN .. =>true
 | _=>false
theorem kp {d:Option Nat} {g:G} {rs:List Nat} (ag:g.l5=false) (aF:g.Lo=false):bl P (.os D (⟨d,g,none,rs⟩::os)::aJ) .normal r h Q=ij P (g.run P ju (r.trim rs) h) d D os aJ r h Q:=by
 simp only [bl,jz]
 rw [Mt]
 have e:∀K:V→af→Prop,g.wp P (r.trim rs) h K=∃v ab,g.run P ju (r.trim rs) h=.val v ab∧K v ab:=by
  intro K
  cases g<;>first | rfl | (simp [G.Lo] at aF;done)
 rw [e]
 unfold ij
 simp only [bl,tb]
 cases g.run P ju (r.trim rs) h with
 | fail=>exact propext ⟨fun ⟨v,ab,q,_⟩=>(by cases q),fun q=>q.elim⟩
 | cp v1 aa=>exact propext ⟨fun ⟨v,ab,q,_⟩=>(by cases q),fun q=>q.elim⟩
 | val v1 aa=>
   apply propext
   constructor
   · rintro ⟨v,ab,q,k⟩
     simp only [aU.val.injEq] at q
     obtain ⟨rfl,rfl⟩:=q
     exact k
   · intro k
     exact ⟨_,_,rfl,k⟩
theorem jr {d:Option Nat} {g:G} {j:Nat} {want:Bool} {rs:List Nat} (ag:g.l5=false):bl P (.os D (⟨d,g,some (j,want),rs⟩::os)::aJ) .normal r h Q=fg P (r.trim rs j) want d g rs D os aJ r h Q:=by
 simp only [fg,bl,jz,tb]
 rw [Mr]
 rfl
theorem Lu {d:Option Nat} {f:FuncId} {args:List aT} {rs:List Nat}:bl P (.os D (⟨d,.call f args,none,rs⟩::os)::aJ) .normal r h Q=nw P f (aT.e3 (r.trim rs) args) d D os aJ r h Q:=by
 simp only [nw,bl,jz,tb]
 rfl
theorem YZ {d:Option Nat} {f:aT} {args:List aT} {rs:List Nat}:bl P (.os D (⟨d,.lN f args,none,rs⟩::os)::aJ) .normal r h Q=te P (f.aW (r.trim rs)) (aT.e3 (r.trim rs) args) d D os aJ r h Q:=by
 simp only [te,Dc,Be,nw,bl,jz,tb]
 rfl
theorem TP {f:V} {g:FuncId} {xs args:List V} {d:Option Nat} (av:f.target args=some (g,xs)):te P f args d D os aJ r h Q=Dc P g xs d D os aJ r h Q:=by
 apply propext
 constructor
 · rintro ⟨rE,agX,q,k⟩
   rw [av] at q
   simp only [Option.some.injEq,Prod.mk.injEq] at q
   obtain ⟨rfl,rfl⟩:=q
   exact k
 · intro k
   exact ⟨_,_,av,k⟩
theorem yE {g:FuncId} {cs args:List V} {d:Option Nat}:te P (.func g cs) args d D os aJ r h Q=if g=4294967296 then Be P (args++cs) d D os aJ r h Q else nw P g (args++cs) d D os aJ r h Q:=TP rfl
@[congr] theorem agJ {o bU:Option V} {d:Option Nat} (e:o=bU):c' P o d D os aJ r h Q=c' P bU d D os aJ r h Q:=by rw [e]
@[congr] theorem agI {o bU:aU} {d:Option Nat} (e:o=bU):ij P o d D os aJ r h Q=ij P bU d D os aJ r h Q:=by rw [e]
@[congr] theorem afL {v eQ:V} {a b:bz} (e:v=eQ):tf P v a b aJ r h Q=tf P eQ a b aJ r h Q:=by rw [e]
@[congr] theorem afX {v eQ:V} {want:Bool} {d:Option Nat} {g:G} {rs:List Nat} (e:v=eQ):fg P v want d g rs D os aJ r h Q=fg P eQ want d g rs D os aJ r h Q:=by rw [e]
@[congr] theorem afJ {f tr:V} {args vK:List V} {d:Option Nat} (aN:f=tr) (bf:args=vK):te P f args d D os aJ r h Q=te P tr vK d D os aJ r h Q:=by rw [aN,bf]
@[congr] theorem afI {f:FuncId} {args vK:List V} {d:Option Nat} (bf:args=vK):nw P f args d D os aJ r h Q=nw P f vK d D os aJ r h Q:=by rw [bf]
@[congr] theorem agT {e c0:cY} {bq:aR} {ab:af} (cz:e=c0) (aN:r=bq) (bf:h=ab):bl P aJ e r h Q=bl P aJ c0 bq ab Q:=by rw [cz,aN,bf]
@[congr] theorem ago {b:bz} {bq:aR} {ab:af} (aN:r=bq) (bf:h=ab):uA P b aJ r h Q=uA P b aJ bq ab Q:=by rw [aN,bf]
theorem aen {v:V} {d:Option Nat}:c' P (some v) d D os aJ r h Q=bl P (.os (hF D r h v) os::aJ) .normal (r.set d v) h Q:=(rfl)
theorem ad5 {v:V} {ab:af} {d:Option Nat}:ij P (.val v ab) d D os aJ r h Q=bl P (.os (hF D r h v) os::aJ) .normal (r.set d v) ab Q:=(rfl)
theorem IU {t:Bool} {a b:bz}:tf P (.bool t) a b aJ r h Q=((t=true→bl P (.c a::aJ) .normal r h Q)∧(t=false→bl P (.c b::aJ) .normal r h Q)):=(rfl)
theorem JW {b:Bool} {d:Option Nat} {g:G} {rs:List Nat}:fg P (.bool b) true d g rs D os aJ r h Q=((b=true→bl P (.os D (⟨d,g,none,rs⟩::os)::aJ) .normal r h Q)∧(b=false→bl P (.os (hF D r h (.tuple [])) os::aJ) .normal (r.set d (.tuple [])) h Q)):=(rfl)
theorem JV {b:Bool} {d:Option Nat} {g:G} {rs:List Nat}:fg P (.bool b) false d g rs D os aJ r h Q=((b=false→bl P (.os D (⟨d,g,none,rs⟩::os)::aJ) .normal r h Q)∧(b=true→bl P (.os (hF D r h (.tuple [])) os::aJ) .normal (r.set d (.tuple [])) h Q)):=(rfl)
theorem VI {ad:List V} {want:Bool} {d:Option Nat} {g:G} {rs:List Nat}:fg P (.tuple ad) want d g rs D os aJ r h Q=bl P (.os (hF D r h (.tuple [])) os::aJ) .normal (r.set d (.tuple [])) h Q:=(rfl)
theorem VC {c b:Bool} {want:Bool} {d:Option Nat} {f:FuncId} {args:List aT} {rs:List Nat} (v:V)
 (bn:(c&&(b == want))=true→e7 P f (aT.e3 (r.trim rs) args) h v h)
 (H:bl P (.os (hF D r h (V.opt (c&&(b == want)) v)) os::aJ) .normal (r.set d (V.opt (c&&(b == want)) v)) h Q):fg P (V.opt c (.bool b)) want d (.call f args) rs D os aJ r h Q:=by
 unfold fg
 rw [Lu]
 cases c with
 | false=>exact H
 | true=>
   simp only [V.opt,cond_true,Bool.true_and] at bn H ⊢
   cases b<;>cases want<;>simp only [gate]
   · exact ⟨fun _=>⟨v,h,bn rfl,H⟩,fun e=>by cases e⟩
   · exact ⟨fun e=>(by cases e),fun _=>H⟩
   · exact ⟨fun e=>(by cases e),fun _=>H⟩
   · exact ⟨fun _=>⟨v,h,bn rfl,H⟩,fun e=>by cases e⟩
def qs (v:V) (o:Option af):aU:=fY v o
theorem acq (v:V) (ab:af):qs v (some ab)=.val v ab:=(rfl)
def Ie (b:Bool) (o:aU):aU:=bif b then o else .fail
theorem QU (o:aU):Ie true o=o:=(rfl)
noncomputable def yv (n:Nat) (h:af) (o:Option (List V)):aU:=
 match o with
 | some cs=>qs (.slice (aq h.next) 0 n n) (fi h cs)
 | none=>.fail
theorem QV (n:Nat) (cs:List V):yv n h (some cs)=qs (.slice (aq h.next) 0 n n) (fi h cs):=(rfl)
theorem adw {n size:Nat} {z:List V} {ba:List (Nat × Nat × aT)}:(G.jh n size z ba).run P ju r h=yv n h (hz (hZ z n) (iO r ba)):=by
 simp only [G.run]
 cases hz (hZ z n) (iO r ba) with
 | none=>rfl
 | some cs=>
   simp only [yv,qs,fY]
   cases fi h cs<;>rfl
theorem Vf (cells:List V):hz cells []=some cells:=(rfl)
theorem Vd {cells:List V} {off size:Nat} {v:V} {rest:List (Nat × Nat × V)} (aa:v.e9=true) (ae:v.cells.length=size) (aI:off+size≤cells.length):
 hz cells ((off,size,v)::rest)=hz (mn cells off v.cells) rest:=by
 simp only [hz]
 rw [aa,show Nat.beq v.cells.length size=true from by rw [Nat.beq_eq];exact ae,show Nat.ble (off+v.cells.length) cells.length=true from by rw [Nat.ble_eq,ae];exact aI]
 simp only [Bool.and_true,cond_true]
 congr 1
 have hy:∀(ws cs:List V) (o:Nat),o+ws.length≤cs.length→oP cs o ws=hf cs o ws:=by
  intro ws
  induction ws with
  | nil=>intro cs o _;simp [oP,hf]
  | cons w ws bh=>
    intro cs o aS
    simp only [List.length_cons] at aS
    simp only [oP]
    rw [bh (cs.set o w) (o+1) (by simp;omega),NY cs o w ws (by omega)]
 rw [hy _ _ _ (by rw [ae];exact aI),A5 _ _ _ (by rw [ae];exact aI)]
def yx (o:Option (List V)):Option V:=
 match o with
 | some cs=>some (.agg cs)
 | none=>none
theorem QY (cs:List V):yx (some cs)=some (.agg cs):=(rfl)
theorem U5:iO r []=[]:=(rfl)
theorem U4 {o s:Nat} {x:aT} {ba:List (Nat × Nat × aT)}:iO r ((o,s,x)::ba)=(o,s,x.aW r)::iO r ba:=(rfl)
noncomputable def oB (P:Program) (o:bA) (e:fc) (H:af):Prop:=o.wp P e.r H fun _ eQ _=>eQ=e.v
theorem Qz {ops:List bA} {es:List fc} {av:af}:mz P ops es av []=True:=(rfl)
theorem Qy {ops:List bA} {es:List fc} {av:af} {p:Nat} {ey:List Nat} {rest:List (Nat × List Nat)}:mz P ops es av ((p,ey)::rest)=(oC P ops[p]? es[p]? es av ey∧mz P ops es av rest):=(rfl)
theorem Qv {o:Option bA} {e:Option fc} {es:List fc} {av:af}:oC P o e es av []=True:=(rfl)
theorem Qs {o:bA} {e:fc} {es:List fc} {av:af} {s:Nat} {ey:List Nat}:oC P (some o) (some e) es av (s::ey)=(oB P o e (tN es av s)∧oC P (some o) (some e) es av ey):=(rfl)
def D' (o:Option fc) (av:af):af:=
 match o with
 | some e=>e.h
 | none=>av
theorem WN (es:List fc) (av:af) (s:Nat):tN es av s=D' es[s]? av:=(rfl)
theorem WQ (e:fc) (av:af):D' (some e) av=e.h:=(rfl)
theorem WO (av:af):D' none av=av:=(rfl)
theorem H2 {d:Option Nat} {g:G} {rs:List Nat} {e:fc} {H:af} (ag:g.l5=true):oB P ⟨d,g,none,rs⟩ e H=(g.j5 P (e.r.trim rs) H=some e.v):=by
 unfold oB
 rw [Mu ag]
 apply propext
 cases g.j5 P (e.r.trim rs) H with
 | none=>exact ⟨fun q=>q.elim,fun q=>(by cases q)⟩
 | some v=>exact ⟨fun q=>by rw [show v=e.v from q],fun q=>by cases q;rfl⟩
theorem H0 {d:Option Nat} {g:G} {j:Nat} {want:Bool} {rs:List Nat} {e:fc} {H:af} (ag:g.l5=true):oB P ⟨d,g,some (j,want),rs⟩ e H=
 (eY (e.r.trim rs j)∧eB (took (e.r.trim rs j) want) ((g.j5 P (e.r.trim rs) H).isSome=true)∧V.opt (took (e.r.trim rs j) want) ((g.j5 P (e.r.trim rs) H).getD .bad)=e.v):=by
 unfold oB
 rw [Ms ag]
theorem Qt {d:Option Nat} {x:aT} {rs:List Nat} {e:fc} {H:af}:oB P ⟨d,.iB x,none,rs⟩ e H=(k0 H (x.aW (e.r.trim rs))=some e.v):=H2 rfl
theorem Qu {d:Option Nat} {n:Nat} {x:aT} {rs:List Nat} {e:fc} {H:af}:oB P ⟨d,.iW n x,none,rs⟩ e H=(kZ n H (x.aW (e.r.trim rs))=some e.v):=H2 rfl
theorem Qw {d:Option Nat} {x:aT} {j:Nat} {want:Bool} {rs:List Nat} {e:fc} {H:af}:oB P ⟨d,.iB x,some (j,want),rs⟩ e H=
 (eY (e.r.trim rs j)∧eB (took (e.r.trim rs j) want) ((k0 H (x.aW (e.r.trim rs))).isSome=true)∧V.opt (took (e.r.trim rs j) want) ((k0 H (x.aW (e.r.trim rs))).getD .bad)=e.v):=H0 rfl
theorem Qx {d:Option Nat} {n:Nat} {x:aT} {j:Nat} {want:Bool} {rs:List Nat} {e:fc} {H:af}:oB P ⟨d,.iW n x,some (j,want),rs⟩ e H=
 (eY (e.r.trim rs j)∧eB (took (e.r.trim rs j) want) ((kZ n H (x.aW (e.r.trim rs))).isSome=true)∧V.opt (took (e.r.trim rs j) want) ((kZ n H (x.aW (e.r.trim rs))).getD .bad)=e.v):=H0 rfl
end
end Go.Proofs.YthemdhlheglhoaaGreatDoor.a6
namespace Go.Proofs.YthemdhlheglhoaaGreatDoor.a6
variable [Lay]
open Go Go.RowKit
noncomputable def AV (x:V) (h:af):aU:=
 match x with
 | .str s=>.val (.ptr (aq h.next) 0) (h.new (.iter s 0))
 | _=>.fail
theorem adr (s:List UInt8) (h:af):AV (.str s) h=.val (.ptr (aq h.next) 0) (h.new (.iter s 0)):=(rfl)
section
variable {P:Program} {r:aR} {h:af} {Q:cY→aR→af→Prop} {aJ:List gU} {os:List bA} {D:Option hg} {d:Option Nat} {rs:List Nat}
theorem ZA {x:aT}:bl P (.os D (⟨d,(.fh x),none,rs⟩::os)::aJ) .normal r h Q=c' P (some (x.aW (r.trim rs))) d D os aJ r h Q:=gn rfl
theorem aap {x:aT} {j:Nat} {want:Bool}:bl P (.os D (⟨d,(.fh x),some (j,want),rs⟩::os)::aJ) .normal r h Q=(eY (r.trim rs j)∧eB (took (r.trim rs j) want) ((some (x.aW (r.trim rs))).isSome=true)∧c' P (some (V.opt (took (r.trim rs j) want) ((some (x.aW (r.trim rs))).getD .bad))) d D os aJ r h Q):=gm rfl
theorem ZI {c a b:aT}:bl P (.os D (⟨d,(.pick c a b),none,rs⟩::os)::aJ) .normal r h Q=c' P (xB (c.aW (r.trim rs)) (a.aW (r.trim rs)) (b.aW (r.trim rs))) d D os aJ r h Q:=gn rfl
theorem aau {c a b:aT} {j:Nat} {want:Bool}:bl P (.os D (⟨d,(.pick c a b),some (j,want),rs⟩::os)::aJ) .normal r h Q=(eY (r.trim rs j)∧eB (took (r.trim rs j) want) ((xB (c.aW (r.trim rs)) (a.aW (r.trim rs)) (b.aW (r.trim rs))).isSome=true)∧c' P (some (V.opt (took (r.trim rs j) want) ((xB (c.aW (r.trim rs)) (a.aW (r.trim rs)) (b.aW (r.trim rs))).getD .bad))) d D os aJ r h Q):=gm rfl
theorem YY {z:List V} {ba:List (Nat × Nat × aT)}:bl P (.os D (⟨d,(.build z ba),none,rs⟩::os)::aJ) .normal r h Q=c' P (yx (hz z (iO (r.trim rs) ba))) d D os aJ r h Q:=gn rfl
theorem ZZ {z:List V} {ba:List (Nat × Nat × aT)} {j:Nat} {want:Bool}:bl P (.os D (⟨d,(.build z ba),some (j,want),rs⟩::os)::aJ) .normal r h Q=(eY (r.trim rs j)∧eB (took (r.trim rs j) want) ((yx (hz z (iO (r.trim rs) ba))).isSome=true)∧c' P (some (V.opt (took (r.trim rs j) want) ((yx (hz z (iO (r.trim rs) ba))).getD .bad))) d D os aJ r h Q):=gm rfl
theorem Zm {x:aT}:bl P (.os D (⟨d,(.iB x),none,rs⟩::os)::aJ) .normal r h Q=c' P (k0 h (x.aW (r.trim rs))) d D os aJ r h Q:=gn rfl
theorem aaf {x:aT} {j:Nat} {want:Bool}:bl P (.os D (⟨d,(.iB x),some (j,want),rs⟩::os)::aJ) .normal r h Q=(eY (r.trim rs j)∧eB (took (r.trim rs j) want) ((k0 h (x.aW (r.trim rs))).isSome=true)∧c' P (some (V.opt (took (r.trim rs j) want) ((k0 h (x.aW (r.trim rs))).getD .bad))) d D os aJ r h Q):=gm rfl
theorem Zn {n:Nat} {x:aT}:bl P (.os D (⟨d,(.iW n x),none,rs⟩::os)::aJ) .normal r h Q=c' P (kZ n h (x.aW (r.trim rs))) d D os aJ r h Q:=gn rfl
theorem aag {n:Nat} {x:aT} {j:Nat} {want:Bool}:bl P (.os D (⟨d,(.iW n x),some (j,want),rs⟩::os)::aJ) .normal r h Q=(eY (r.trim rs j)∧eB (took (r.trim rs j) want) ((kZ n h (x.aW (r.trim rs))).isSome=true)∧c' P (some (V.opt (took (r.trim rs j) want) ((kZ n h (x.aW (r.trim rs))).getD .bad))) d D os aJ r h Q):=gm rfl
theorem ZF {x:aT}:bl P (.os D (⟨d,(.qo x),none,rs⟩::os)::aJ) .normal r h Q=c' P (qn (x.aW (r.trim rs))) d D os aJ r h Q:=gn rfl
theorem aas {x:aT} {j:Nat} {want:Bool}:bl P (.os D (⟨d,(.qo x),some (j,want),rs⟩::os)::aJ) .normal r h Q=(eY (r.trim rs j)∧eB (took (r.trim rs j) want) ((qn (x.aW (r.trim rs))).isSome=true)∧c' P (some (V.opt (took (r.trim rs j) want) ((qn (x.aW (r.trim rs))).getD .bad))) d D os aJ r h Q):=gm rfl
theorem YS {k:ej} {x y:aT}:bl P (.os D (⟨d,(.bin k x y),none,rs⟩::os)::aJ) .normal r h Q=c' P (k.run P (x.aW (r.trim rs)) (y.aW (r.trim rs))) d D os aJ r h Q:=gn rfl
theorem ZW {k:ej} {x y:aT} {j:Nat} {want:Bool}:bl P (.os D (⟨d,(.bin k x y),some (j,want),rs⟩::os)::aJ) .normal r h Q=(eY (r.trim rs j)∧eB (took (r.trim rs j) want) ((k.run P (x.aW (r.trim rs)) (y.aW (r.trim rs))).isSome=true)∧c' P (some (V.opt (took (r.trim rs j) want) ((k.run P (x.aW (r.trim rs)) (y.aW (r.trim rs))).getD .bad))) d D os aJ r h Q):=gm rfl
theorem ZS {o:UnOp} {x:aT}:bl P (.os D (⟨d,(.un o x),none,rs⟩::os)::aJ) .normal r h Q=c' P (oh o (x.aW (r.trim rs))) d D os aJ r h Q:=gn rfl
theorem aaz {o:UnOp} {x:aT} {j:Nat} {want:Bool}:bl P (.os D (⟨d,(.un o x),some (j,want),rs⟩::os)::aJ) .normal r h Q=(eY (r.trim rs j)∧eB (took (r.trim rs j) want) ((oh o (x.aW (r.trim rs))).isSome=true)∧c' P (some (V.opt (took (r.trim rs j) want) ((oh o (x.aW (r.trim rs))).getD .bad))) d D os aJ r h Q):=gm rfl
theorem Ze {f:FuncId} {cs:List aT}:bl P (.os D (⟨d,(.fn f cs),none,rs⟩::os)::aJ) .normal r h Q=c' P (some (V.func f (aT.e3 (r.trim rs) cs))) d D os aJ r h Q:=gn rfl
theorem Z_ {f:FuncId} {cs:List aT} {j:Nat} {want:Bool}:bl P (.os D (⟨d,(.fn f cs),some (j,want),rs⟩::os)::aJ) .normal r h Q=(eY (r.trim rs j)∧eB (took (r.trim rs j) want) ((some (V.func f (aT.e3 (r.trim rs) cs))).isSome=true)∧c' P (some (V.opt (took (r.trim rs j) want) ((some (V.func f (aT.e3 (r.trim rs) cs))).getD .bad))) d D os aJ r h Q):=gm rfl
theorem Zj {t:TypeId} {x:aT}:bl P (.os D (⟨d,(.sa t x),none,rs⟩::os)::aJ) .normal r h Q=c' P (some (V.iface t (x.aW (r.trim rs)))) d D os aJ r h Q:=gn rfl
theorem aac {t:TypeId} {x:aT} {j:Nat} {want:Bool}:bl P (.os D (⟨d,(.sa t x),some (j,want),rs⟩::os)::aJ) .normal r h Q=(eY (r.trim rs j)∧eB (took (r.trim rs j) want) ((some (V.iface t (x.aW (r.trim rs)))).isSome=true)∧c' P (some (V.opt (took (r.trim rs j) want) ((some (V.iface t (x.aW (r.trim rs)))).getD .bad))) d D os aJ r h Q):=gm rfl
theorem ZP {x:aT} {bH aD m3:Option aT}:bl P (.os D (⟨d,(.od x bH aD m3),none,rs⟩::os)::aJ) .normal r h Q=c' P (kx (x.aW (r.trim rs)) (aT.opt (r.trim rs) bH) (aT.opt (r.trim rs) aD) (aT.opt (r.trim rs) m3)) d D os aJ r h Q:=gn rfl
theorem aax {x:aT} {bH aD m3:Option aT} {j:Nat} {want:Bool}:bl P (.os D (⟨d,(.od x bH aD m3),some (j,want),rs⟩::os)::aJ) .normal r h Q=(eY (r.trim rs j)∧eB (took (r.trim rs j) want) ((kx (x.aW (r.trim rs)) (aT.opt (r.trim rs) bH) (aT.opt (r.trim rs) aD) (aT.opt (r.trim rs) m3)).isSome=true)∧c' P (some (V.opt (took (r.trim rs j) want) ((kx (x.aW (r.trim rs)) (aT.opt (r.trim rs) bH) (aT.opt (r.trim rs) aD) (aT.opt (r.trim rs) m3)).getD .bad))) d D os aJ r h Q):=gm rfl
theorem ZO {n:Nat} {x:aT} {bH aD m3:Option aT}:bl P (.os D (⟨d,(.fx n x bH aD m3),none,rs⟩::os)::aJ) .normal r h Q=c' P (xL n (x.aW (r.trim rs)) (aT.opt (r.trim rs) bH) (aT.opt (r.trim rs) aD) (aT.opt (r.trim rs) m3)) d D os aJ r h Q:=gn rfl
theorem aaw {n:Nat} {x:aT} {bH aD m3:Option aT} {j:Nat} {want:Bool}:bl P (.os D (⟨d,(.fx n x bH aD m3),some (j,want),rs⟩::os)::aJ) .normal r h Q=(eY (r.trim rs j)∧eB (took (r.trim rs j) want) ((xL n (x.aW (r.trim rs)) (aT.opt (r.trim rs) bH) (aT.opt (r.trim rs) aD) (aT.opt (r.trim rs) m3)).isSome=true)∧c' P (some (V.opt (took (r.trim rs j) want) ((xL n (x.aW (r.trim rs)) (aT.opt (r.trim rs) bH) (aT.opt (r.trim rs) aD) (aT.opt (r.trim rs) m3)).getD .bad))) d D os aJ r h Q):=gm rfl
theorem Zb {o:Nat} {x:aT}:bl P (.os D (⟨d,(.hy o x),none,rs⟩::os)::aJ) .normal r h Q=c' P (y0 o (x.aW (r.trim rs))) d D os aJ r h Q:=gn rfl
theorem Z8 {o:Nat} {x:aT} {j:Nat} {want:Bool}:bl P (.os D (⟨d,(.hy o x),some (j,want),rs⟩::os)::aJ) .normal r h Q=(eY (r.trim rs j)∧eB (took (r.trim rs j) want) ((y0 o (x.aW (r.trim rs))).isSome=true)∧c' P (some (V.opt (took (r.trim rs j) want) ((y0 o (x.aW (r.trim rs))).getD .bad))) d D os aJ r h Q):=gm rfl
theorem Zc {o:Nat} {x:aT}:bl P (.os D (⟨d,(.rC o x),none,rs⟩::os)::aJ) .normal r h Q=c' P ((x.aW (r.trim rs)).pc none fun cs=>cs[o]?) d D os aJ r h Q:=gn rfl
theorem Z9 {o:Nat} {x:aT} {j:Nat} {want:Bool}:bl P (.os D (⟨d,(.rC o x),some (j,want),rs⟩::os)::aJ) .normal r h Q=(eY (r.trim rs j)∧eB (took (r.trim rs j) want) (((x.aW (r.trim rs)).pc none fun cs=>cs[o]?).isSome=true)∧c' P (some (V.opt (took (r.trim rs j) want) (((x.aW (r.trim rs)).pc none fun cs=>cs[o]?).getD .bad))) d D os aJ r h Q):=gm rfl
theorem Zd {o n:Nat} {x:aT}:bl P (.os D (⟨d,(.rD o n x),none,rs⟩::os)::aJ) .normal r h Q=c' P ((x.aW (r.trim rs)).pc none fun cs=>some (V.agg ((cs.drop o).take n))) d D os aJ r h Q:=gn rfl
theorem Z' {o n:Nat} {x:aT} {j:Nat} {want:Bool}:bl P (.os D (⟨d,(.rD o n x),some (j,want),rs⟩::os)::aJ) .normal r h Q=(eY (r.trim rs j)∧eB (took (r.trim rs j) want) (((x.aW (r.trim rs)).pc none fun cs=>some (V.agg ((cs.drop o).take n))).isSome=true)∧c' P (some (V.opt (took (r.trim rs j) want) (((x.aW (r.trim rs)).pc none fun cs=>some (V.agg ((cs.drop o).take n))).getD .bad))) d D os aJ r h Q):=gm rfl
theorem Zh {n:Nat} {x i:aT}:bl P (.os D (⟨d,(.cH n x i),none,rs⟩::os)::aJ) .normal r h Q=c' P (iU n (x.aW (r.trim rs)) (i.aW (r.trim rs))) d D os aJ r h Q:=gn rfl
theorem aaa {n:Nat} {x i:aT} {j:Nat} {want:Bool}:bl P (.os D (⟨d,(.cH n x i),some (j,want),rs⟩::os)::aJ) .normal r h Q=(eY (r.trim rs j)∧eB (took (r.trim rs j) want) ((iU n (x.aW (r.trim rs)) (i.aW (r.trim rs))).isSome=true)∧c' P (some (V.opt (took (r.trim rs j) want) ((iU n (x.aW (r.trim rs)) (i.aW (r.trim rs))).getD .bad))) d D os aJ r h Q):=gm rfl
theorem Zi {m n:Nat} {x i:aT}:bl P (.os D (⟨d,(.um m n x i),none,rs⟩::os)::aJ) .normal r h Q=c' P ((sd m n).run (x.aW (r.trim rs)) (i.aW (r.trim rs))) d D os aJ r h Q:=gn rfl
theorem aab {m n:Nat} {x i:aT} {j:Nat} {want:Bool}:bl P (.os D (⟨d,(.um m n x i),some (j,want),rs⟩::os)::aJ) .normal r h Q=(eY (r.trim rs j)∧eB (took (r.trim rs j) want) (((sd m n).run (x.aW (r.trim rs)) (i.aW (r.trim rs))).isSome=true)∧c' P (some (V.opt (took (r.trim rs j) want) (((sd m n).run (x.aW (r.trim rs)) (i.aW (r.trim rs))).getD .bad))) d D os aJ r h Q):=gm rfl
theorem Zl {x i:aT}:bl P (.os D (⟨d,(.ko x i),none,rs⟩::os)::aJ) .normal r h Q=c' P (o8.run (x.aW (r.trim rs)) (i.aW (r.trim rs))) d D os aJ r h Q:=gn rfl
theorem aae {x i:aT} {j:Nat} {want:Bool}:bl P (.os D (⟨d,(.ko x i),some (j,want),rs⟩::os)::aJ) .normal r h Q=(eY (r.trim rs j)∧eB (took (r.trim rs j) want) ((o8.run (x.aW (r.trim rs)) (i.aW (r.trim rs))).isSome=true)∧c' P (some (V.opt (took (r.trim rs j) want) ((o8.run (x.aW (r.trim rs)) (i.aW (r.trim rs))).getD .bad))) d D os aJ r h Q):=gm rfl
theorem Zk {t:TypeId} {x i:aT}:bl P (.os D (⟨d,(.ib t x i),none,rs⟩::os)::aJ) .normal r h Q=c' P ((o7 P t).run (x.aW (r.trim rs)) (i.aW (r.trim rs))) d D os aJ r h Q:=gn rfl
theorem aad {t:TypeId} {x i:aT} {j:Nat} {want:Bool}:bl P (.os D (⟨d,(.ib t x i),some (j,want),rs⟩::os)::aJ) .normal r h Q=(eY (r.trim rs j)∧eB (took (r.trim rs j) want) (((o7 P t).run (x.aW (r.trim rs)) (i.aW (r.trim rs))).isSome=true)∧c' P (some (V.opt (took (r.trim rs j) want) (((o7 P t).run (x.aW (r.trim rs)) (i.aW (r.trim rs))).getD .bad))) d D os aJ r h Q):=gm rfl
theorem Zt {k:kB} {z:V} {ok:Bool} {x i:aT}:bl P (.os D (⟨d,(.look k z ok x i),none,rs⟩::os)::aJ) .normal r h Q=c' P (ma k.eq z ok h (x.aW (r.trim rs)) (i.aW (r.trim rs))) d D os aJ r h Q:=gn rfl
theorem aal {k:kB} {z:V} {ok:Bool} {x i:aT} {j:Nat} {want:Bool}:bl P (.os D (⟨d,(.look k z ok x i),some (j,want),rs⟩::os)::aJ) .normal r h Q=(eY (r.trim rs j)∧eB (took (r.trim rs j) want) ((ma k.eq z ok h (x.aW (r.trim rs)) (i.aW (r.trim rs))).isSome=true)∧c' P (some (V.opt (took (r.trim rs j) want) ((ma k.eq z ok h (x.aW (r.trim rs)) (i.aW (r.trim rs))).getD .bad))) d D os aJ r h Q):=gm rfl
theorem Za {x:aT} {i:Nat}:bl P (.os D (⟨d,(.ext x i),none,rs⟩::os)::aJ) .normal r h Q=c' P ((x.aW (r.trim rs)).xp none fun ad=>ad[i]?) d D os aJ r h Q:=gn rfl
theorem Z7 {x:aT} {i:Nat} {j:Nat} {want:Bool}:bl P (.os D (⟨d,(.ext x i),some (j,want),rs⟩::os)::aJ) .normal r h Q=(eY (r.trim rs j)∧eB (took (r.trim rs j) want) (((x.aW (r.trim rs)).xp none fun ad=>ad[i]?).isSome=true)∧c' P (some (V.opt (took (r.trim rs j) want) (((x.aW (r.trim rs)).xp none fun ad=>ad[i]?).getD .bad))) d D os aJ r h Q):=gm rfl
theorem Zy {args:List aT}:bl P (.os D (⟨d,(.uD args),none,rs⟩::os)::aJ) .normal r h Q=c' P (iY (fun b a=>!Int.leB a b) (aT.e3 (r.trim rs) args)) d D os aJ r h Q:=gn rfl
theorem aao {args:List aT} {j:Nat} {want:Bool}:bl P (.os D (⟨d,(.uD args),some (j,want),rs⟩::os)::aJ) .normal r h Q=(eY (r.trim rs j)∧eB (took (r.trim rs j) want) ((iY (fun b a=>!Int.leB a b) (aT.e3 (r.trim rs) args)).isSome=true)∧c' P (some (V.opt (took (r.trim rs j) want) ((iY (fun b a=>!Int.leB a b) (aT.e3 (r.trim rs) args)).getD .bad))) d D os aJ r h Q):=gm rfl
theorem ZB {args:List aT}:bl P (.os D (⟨d,(.dm args),none,rs⟩::os)::aJ) .normal r h Q=c' P (iY (fun b a=>!Int.leB b a) (aT.e3 (r.trim rs) args)) d D os aJ r h Q:=gn rfl
theorem aaq {args:List aT} {j:Nat} {want:Bool}:bl P (.os D (⟨d,(.dm args),some (j,want),rs⟩::os)::aJ) .normal r h Q=(eY (r.trim rs j)∧eB (took (r.trim rs j) want) ((iY (fun b a=>!Int.leB b a) (aT.e3 (r.trim rs) args)).isSome=true)∧c' P (some (V.opt (took (r.trim rs j) want) ((iY (fun b a=>!Int.leB b a) (aT.e3 (r.trim rs) args)).getD .bad))) d D os aJ r h Q):=gm rfl
theorem Y5 {k:IntKind} {x:aT}:bl P (.os D (⟨d,(.ir (.int k) x),none,rs⟩::os)::aJ) .normal r h Q=c' P (yK k (x.aW (r.trim rs))) d D os aJ r h Q:=gn rfl
theorem Z4 {k:IntKind} {x:aT} {j:Nat} {want:Bool}:bl P (.os D (⟨d,(.ir (.int k) x),some (j,want),rs⟩::os)::aJ) .normal r h Q=(eY (r.trim rs j)∧eB (took (r.trim rs j) want) ((yK k (x.aW (r.trim rs))).isSome=true)∧c' P (some (V.opt (took (r.trim rs j) want) ((yK k (x.aW (r.trim rs))).getD .bad))) d D os aJ r h Q):=gm rfl
theorem Zq {x:aT}:bl P (.os D (⟨d,(.len .slice x),none,rs⟩::os)::aJ) .normal r h Q=c' P (kq (x.aW (r.trim rs))) d D os aJ r h Q:=gn rfl
theorem aaj {x:aT} {j:Nat} {want:Bool}:bl P (.os D (⟨d,(.len .slice x),some (j,want),rs⟩::os)::aJ) .normal r h Q=(eY (r.trim rs j)∧eB (took (r.trim rs j) want) ((kq (x.aW (r.trim rs))).isSome=true)∧c' P (some (V.opt (took (r.trim rs j) want) ((kq (x.aW (r.trim rs))).getD .bad))) d D os aJ r h Q):=gm rfl
theorem Zr {x:aT}:bl P (.os D (⟨d,(.len .str x),none,rs⟩::os)::aJ) .normal r h Q=c' P (z8 (x.aW (r.trim rs))) d D os aJ r h Q:=gn rfl
theorem aak {x:aT} {j:Nat} {want:Bool}:bl P (.os D (⟨d,(.len .str x),some (j,want),rs⟩::os)::aJ) .normal r h Q=(eY (r.trim rs j)∧eB (took (r.trim rs j) want) ((z8 (x.aW (r.trim rs))).isSome=true)∧c' P (some (V.opt (took (r.trim rs j) want) ((z8 (x.aW (r.trim rs))).getD .bad))) d D os aJ r h Q):=gm rfl
theorem Zo {n:Nat} {x:aT}:bl P (.os D (⟨d,(.len (.arr n) x),none,rs⟩::os)::aJ) .normal r h Q=c' P (some (V.int .i64 n)) d D os aJ r h Q:=gn rfl
theorem aah {n:Nat} {x:aT} {j:Nat} {want:Bool}:bl P (.os D (⟨d,(.len (.arr n) x),some (j,want),rs⟩::os)::aJ) .normal r h Q=(eY (r.trim rs j)∧eB (took (r.trim rs j) want) ((some (V.int .i64 n)).isSome=true)∧c' P (some (V.opt (took (r.trim rs j) want) ((some (V.int .i64 n)).getD .bad))) d D os aJ r h Q):=gm rfl
theorem ZD {z:List V}:bl P (.os D (⟨d,(.new z),none,rs⟩::os)::aJ) .normal r h Q=ij P (qs (.ptr (aq h.next) 0) (fi h z)) d D os aJ r h Q:=kp rfl rfl
theorem aar {z:List V} {j:Nat} {want:Bool}:bl P (.os D (⟨d,(.new z),some (j,want),rs⟩::os)::aJ) .normal r h Q=fg P (r.trim rs j) want d (.new z) rs D os aJ r h Q:=jr rfl
theorem YW {x:aT}:bl P (.os D (⟨d,(.box x),none,rs⟩::os)::aJ) .normal r h Q=ij P (Ie (x.aW (r.trim rs)).e9 (qs (.ptr (aq h.next) 0) (fi h (x.aW (r.trim rs)).cells))) d D os aJ r h Q:=kp rfl rfl
theorem ZX {x:aT} {j:Nat} {want:Bool}:bl P (.os D (⟨d,(.box x),some (j,want),rs⟩::os)::aJ) .normal r h Q=fg P (r.trim rs j) want d (.box x) rs D os aJ r h Q:=jr rfl
theorem YX {n m:Nat} {z:List V} {ba:List (Nat × Nat × aT)}:bl P (.os D (⟨d,(.jh n m z ba),none,rs⟩::os)::aJ) .normal r h Q=ij P (yv n h (hz (hZ z n) (iO (r.trim rs) ba))) d D os aJ r h Q:=by rw [kp rfl rfl,adw]
theorem ZY {n m:Nat} {z:List V} {ba:List (Nat × Nat × aT)} {j:Nat} {want:Bool}:bl P (.os D (⟨d,(.jh n m z ba),some (j,want),rs⟩::os)::aJ) .normal r h Q=fg P (r.trim rs j) want d (.jh n m z ba) rs D os aJ r h Q:=jr rfl
theorem ZQ {n:Nat} {x y:aT}:bl P (.os D (⟨d,(.st n x y),none,rs⟩::os)::aJ) .normal r h Q=ij P (qs .bad (nj n h (x.aW (r.trim rs)) (y.aW (r.trim rs)))) d D os aJ r h Q:=kp rfl rfl
theorem aay {n:Nat} {x y:aT} {j:Nat} {want:Bool}:bl P (.os D (⟨d,(.st n x y),some (j,want),rs⟩::os)::aJ) .normal r h Q=fg P (r.trim rs j) want d (.st n x y) rs D os aJ r h Q:=jr rfl
theorem Zx {n:Nat} {z:List V} {l c:aT}:bl P (.os D (⟨d,(.xg n z l c),none,rs⟩::os)::aJ) .normal r h Q=ij P (Ag n z (l.aW (r.trim rs)) (c.aW (r.trim rs)) h) d D os aJ r h Q:=kp rfl rfl
theorem aan {n:Nat} {z:List V} {l c:aT} {j:Nat} {want:Bool}:bl P (.os D (⟨d,(.xg n z l c),some (j,want),rs⟩::os)::aJ) .normal r h Q=fg P (r.trim rs j) want d (.xg n z l c) rs D os aJ r h Q:=jr rfl
theorem ZT {k:kB} {m i x:aT}:bl P (.os D (⟨d,(.nm k m i x),none,rs⟩::os)::aJ) .normal r h Q=ij P (qs .bad (lG k.eq h (m.aW (r.trim rs)) (i.aW (r.trim rs)) (x.aW (r.trim rs)))) d D os aJ r h Q:=kp rfl rfl
theorem aaA {k:kB} {m i x:aT} {j:Nat} {want:Bool}:bl P (.os D (⟨d,(.nm k m i x),some (j,want),rs⟩::os)::aJ) .normal r h Q=fg P (r.trim rs j) want d (.nm k m i x) rs D os aJ r h Q:=jr rfl
theorem Zw {x:Option aT}:bl P (.os D (⟨d,(.sn x),none,rs⟩::os)::aJ) .normal r h Q=ij P (qk (aT.opt (r.trim rs) x) h) d D os aJ r h Q:=kp rfl rfl
theorem aam {x:Option aT} {j:Nat} {want:Bool}:bl P (.os D (⟨d,(.sn x),some (j,want),rs⟩::os)::aJ) .normal r h Q=fg P (r.trim rs j) want d (.sn x) rs D os aJ r h Q:=jr rfl
theorem ZL {x:aT}:bl P (.os D (⟨d,(.uU x),none,rs⟩::os)::aJ) .normal r h Q=ij P (AV (x.aW (r.trim rs)) h) d D os aJ r h Q:=(kp rfl rfl).trans (by first | rfl | (unfold AV;simp only [G.run];cases x.aW (r.trim rs)<;>rfl) | (unfold AV;cases x.aW (r.trim rs)<;>rfl))
theorem aav {x:aT} {j:Nat} {want:Bool}:bl P (.os D (⟨d,(.uU x),some (j,want),rs⟩::os)::aJ) .normal r h Q=fg P (r.trim rs j) want d (.uU x) rs D os aJ r h Q:=jr rfl
theorem ZG {x:aT}:bl P (.os D (⟨d,(.uJ x),none,rs⟩::os)::aJ) .normal r h Q=ij P (sq (x.aW (r.trim rs)) h) d D os aJ r h Q:=kp rfl rfl
theorem aat {x:aT} {j:Nat} {want:Bool}:bl P (.os D (⟨d,(.uJ x),some (j,want),rs⟩::os)::aJ) .normal r h Q=fg P (r.trim rs j) want d (.uJ x) rs D os aJ r h Q:=jr rfl
theorem YQ {n:Nat} {s x:aT}:bl P (.os D (⟨d,(.app n s x),none,rs⟩::os)::aJ) .normal r h Q=ij P (lh n (s.aW (r.trim rs)) (x.aW (r.trim rs)) h) d D os aJ r h Q:=kp rfl rfl
theorem ZV {n:Nat} {s x:aT} {j:Nat} {want:Bool}:bl P (.os D (⟨d,(.app n s x),some (j,want),rs⟩::os)::aJ) .normal r h Q=fg P (r.trim rs j) want d (.app n s x) rs D os aJ r h Q:=jr rfl
theorem Y2 {n:Nat} {hv s:aT}:bl P (.os D (⟨d,(.copy n hv s),none,rs⟩::os)::aJ) .normal r h Q=ij P (copyV n (hv.aW (r.trim rs)) (s.aW (r.trim rs)) h) d D os aJ r h Q:=kp rfl rfl
theorem Z2 {n:Nat} {hv s:aT} {j:Nat} {want:Bool}:bl P (.os D (⟨d,(.copy n hv s),some (j,want),rs⟩::os)::aJ) .normal r h Q=fg P (r.trim rs j) want d (.copy n hv s) rs D os aJ r h Q:=jr rfl
theorem Zp {x:aT}:bl P (.os D (⟨d,(.len .map x),none,rs⟩::os)::aJ) .normal r h Q=ij P (xb [x.aW (r.trim rs)] h) d D os aJ r h Q:=kp rfl rfl
theorem aai {x:aT} {j:Nat} {want:Bool}:bl P (.os D (⟨d,(.len .map x),some (j,want),rs⟩::os)::aJ) .normal r h Q=fg P (r.trim rs j) want d (.len .map x) rs D os aJ r h Q:=jr rfl
theorem Y4 {x:aT}:bl P (.os D (⟨d,(.ir .bytes x),none,rs⟩::os)::aJ) .normal r h Q=ij P (vY.run (x.aW (r.trim rs)) h) d D os aJ r h Q:=kp rfl rfl
theorem Z3 {x:aT} {j:Nat} {want:Bool}:bl P (.os D (⟨d,(.ir .bytes x),some (j,want),rs⟩::os)::aJ) .normal r h Q=fg P (r.trim rs j) want d (.ir .bytes x) rs D os aJ r h Q:=jr rfl
theorem Y7 {x:aT}:bl P (.os D (⟨d,(.ir .str x),none,rs⟩::os)::aJ) .normal r h Q=ij P (pP.run (x.aW (r.trim rs)) h) d D os aJ r h Q:=kp rfl rfl
theorem Z6 {x:aT} {j:Nat} {want:Bool}:bl P (.os D (⟨d,(.ir .str x),some (j,want),rs⟩::os)::aJ) .normal r h Q=fg P (r.trim rs j) want d (.ir .str x) rs D os aJ r h Q:=jr rfl
theorem Y6 {s hv:TypeId} {x:aT}:bl P (.os D (⟨d,(.ir (.other s hv) x),none,rs⟩::os)::aJ) .normal r h Q=ij P ((nx P s hv).run (x.aW (r.trim rs)) h) d D os aJ r h Q:=kp rfl rfl
theorem Z5 {s hv:TypeId} {x:aT} {j:Nat} {want:Bool}:bl P (.os D (⟨d,(.ir (.other s hv) x),some (j,want),rs⟩::os)::aJ) .normal r h Q=fg P (r.trim rs j) want d (.ir (.other s hv) x) rs D os aJ r h Q:=jr rfl
theorem Z0 {f:FuncId} {args:List aT} {j:Nat} {want:Bool}:bl P (.os D (⟨d,(.call f args),some (j,want),rs⟩::os)::aJ) .normal r h Q=fg P (r.trim rs j) want d (.call f args) rs D os aJ r h Q:=jr rfl
theorem Z1 {f:aT} {args:List aT} {j:Nat} {want:Bool}:bl P (.os D (⟨d,(.lN f args),some (j,want),rs⟩::os)::aJ) .normal r h Q=fg P (r.trim rs j) want d (.lN f args) rs D os aJ r h Q:=jr rfl
end
end Go.Proofs.YthemdhlheglhoaaGreatDoor.a6
namespace Go.Proofs.YthemdhlheglhoaaGreatDoor.a6
variable [Lay]
open Go Go.RowKit
theorem abD (h:af) (ad:List V):fi h ad=if ad.length≤top then some (h.new (.bb ad 0 false)) else none:=by
 by_cases ai:ad.length≤top
 · rw [if_pos ai,abC ai]
 · rw [if_neg ai]
   unfold fi
   rw [show Nat.ble ad.length top=false from by rw [←Bool.not_eq_true,Nat.ble_eq];exact ai]
   rfl
theorem aaF (h:af) (n:Nat) (b:aO) (off:Nat) (y:V) (ad:List V) (cl:Nat) (st:Bool):
 ux n h b off y (.bb ad cl st)=if y.cells.length=n∧fk y.cells=true∧off+n≤ad.length then some (h.set b (.bb (mn ad off y.cells) cl st)) else none:=by
 by_cases aF:y.cells.length=n∧fk y.cells=true∧off+n≤ad.length
 · rw [if_pos aF,aaG aF.1 aF.2.1 aF.2.2]
 · rw [if_neg aF]
   unfold ux
   by_cases aa:y.cells.length=n
   · rw [show Nat.beq y.cells.length n=true from by rw [Nat.beq_eq];exact aa]
     simp only [cond_true,b1.bb,b1.on]
     by_cases ae:fk y.cells=true
     · have aI:¬off+y.cells.length≤ad.length:=fun q=>aF ⟨aa,ae,by omega⟩
       rw [show Nat.ble (off+y.cells.length) ad.length=false from by rw [←Bool.not_eq_true,Nat.ble_eq];exact aI]
       rfl
     · rw [show fk y.cells=false from by simpa using ae,Bool.and_false]
       rfl
   · rw [show Nat.beq y.cells.length n=false from by rw [←Bool.not_eq_true,Nat.beq_eq];exact aa]
     rfl
theorem Ve (cells:List V) (off size:Nat) (v:V) (rest:List (Nat × Nat × V)):
 hz cells ((off,size,v)::rest)=if v.e9=true∧v.cells.length=size∧off+size≤cells.length then hz (mn cells off v.cells) rest else none:=by
 by_cases aF:v.e9=true∧v.cells.length=size∧off+size≤cells.length
 · rw [if_pos aF,Vd aF.1 aF.2.1 aF.2.2]
 · rw [if_neg aF]
   simp only [hz]
   cases ah:(v.e9&&(Nat.beq v.cells.length size&&Nat.ble (off+v.cells.length) cells.length)) with
   | false=>rfl
   | true=>
     simp only [Bool.and_eq_true,Nat.beq_eq,Nat.ble_eq] at ah
     exact absurd ⟨ah.1,ah.2.1,by omega⟩ aF
theorem TU (b:Bool):V.cells (.bool b:V)=[.bool b]:=rfl
theorem ab5 (b:Bool):V.one (.bool b:V)=true:=rfl
theorem VL (b:Bool):V.e9 (.bool b:V)=true:=rfl
theorem TY (k:IntKind) (n:Int):V.cells (.int k n:V)=[.int k n]:=rfl
theorem MC (k:IntKind) (n:Int):V.one (.int k n:V)=true:=rfl
theorem VP (k:IntKind) (n:Int):V.e9 (.int k n:V)=true:=rfl
theorem T7 (s:List UInt8):V.cells (.str s:V)=[.str s]:=rfl
theorem MD (s:List UInt8):V.one (.str s:V)=true:=rfl
theorem VY (s:List UInt8):V.e9 (.str s:V)=true:=rfl
theorem T3:V.cells (.lC:V)=[.lC]:=rfl
theorem acb:V.one (.lC:V)=true:=rfl
theorem VU:V.e9 (.lC:V)=true:=rfl
theorem T5 (b:aO) (o:Nat):V.cells (.ptr b o:V)=[.ptr b o]:=rfl
theorem ace (b:aO) (o:Nat):V.one (.ptr b o:V)=true:=rfl
theorem VW (b:aO) (o:Nat):V.e9 (.ptr b o:V)=true:=rfl
theorem T6 (b:aO) (o l c:Nat):V.cells (.slice b o l c:V)=[.slice b o l c]:=rfl
theorem acf (b:aO) (o l c:Nat):V.one (.slice b o l c:V)=true:=rfl
theorem VX (b:aO) (o l c:Nat):V.e9 (.slice b o l c:V)=true:=rfl
theorem TW (b:aO) (o l c:Nat):V.cells (.ef b o l c:V)=[.ef b o l c]:=rfl
theorem ab7 (b:aO) (o l c:Nat):V.one (.ef b o l c:V)=true:=rfl
theorem VN (b:aO) (o l c:Nat):V.e9 (.ef b o l c:V)=true:=rfl
theorem T8 (b:aO) (o l c:Nat):V.cells (.gT b o l c:V)=[.gT b o l c]:=rfl
theorem acg (b:aO) (o l c:Nat):V.one (.gT b o l c:V)=true:=rfl
theorem VZ (b:aO) (o l c:Nat):V.e9 (.gT b o l c:V)=true:=rfl
theorem T4:V.cells (.b6:V)=[.b6]:=rfl
theorem acd:V.one (.b6:V)=true:=rfl
theorem VV:V.e9 (.b6:V)=true:=rfl
theorem T2:V.cells (.kr:V)=[.kr]:=rfl
theorem aca:V.one (.kr:V)=true:=rfl
theorem VT:V.e9 (.kr:V)=true:=rfl
theorem TZ (b:aO):V.cells (.map b:V)=[.map b]:=rfl
theorem ab9 (b:aO):V.one (.map b:V)=true:=rfl
theorem VQ (b:aO):V.e9 (.map b:V)=true:=rfl
theorem TV (f:FuncId) (cs:List V):V.cells (.func f cs:V)=[.func f cs]:=rfl
theorem ab6 (f:FuncId) (cs:List V):V.one (.func f cs:V)=true:=rfl
theorem VM (f:FuncId) (cs:List V):V.e9 (.func f cs:V)=true:=rfl
theorem T1:V.cells (.k3:V)=[.k3]:=rfl
theorem ab_:V.one (.k3:V)=true:=rfl
theorem VS:V.e9 (.k3:V)=true:=rfl
theorem TX (t:TypeId) (v:V):V.cells (.iface t v:V)=[.iface t v]:=rfl
theorem ab8 (t:TypeId) (v:V):V.one (.iface t v:V)=true:=rfl
theorem VO (t:TypeId) (v:V):V.e9 (.iface t v:V)=true:=rfl
theorem T0:V.cells (.nilIface:V)=[.nilIface]:=rfl
theorem ab':V.one (.nilIface:V)=true:=rfl
theorem VR:V.e9 (.nilIface:V)=true:=rfl
theorem TT (cs:List V):V.cells (.agg cs)=cs:=rfl
theorem VK (cs:List V):V.e9 (.agg cs)=true:=rfl
theorem V0 (cs:List V):V.e9 (.tuple cs)=true:=rfl
theorem P3 (n:Nat):n+1+1=n+2:=rfl
theorem P9 (n:Nat):n+2+1=n+3:=rfl
theorem P' (n:Nat):n+3+1=n+4:=rfl
theorem P_ (n:Nat):n+4+1=n+5:=rfl
theorem Qa (n:Nat):n+5+1=n+6:=rfl
theorem Qb (n:Nat):n+6+1=n+7:=rfl
theorem Qc (n:Nat):n+7+1=n+8:=rfl
theorem Qd (n:Nat):n+8+1=n+9:=rfl
theorem Qe (n:Nat):n+9+1=n+10:=rfl
theorem P2 (n:Nat):n+10+1=n+11:=rfl
theorem P4 (n:Nat):n+11+1=n+12:=rfl
theorem P5 (n:Nat):n+12+1=n+13:=rfl
theorem P6 (n:Nat):n+13+1=n+14:=rfl
theorem P7 (n:Nat):n+14+1=n+15:=rfl
theorem P8 (n:Nat):n+15+1=n+16:=rfl
theorem pb (n:Nat):(n+1=n)=False:=eq_false (by omega)
theorem afc (n:Nat):(n=n+1)=False:=eq_false (by omega)
theorem me (n:Nat):(n+2=n)=False:=eq_false (by omega)
theorem afd (n:Nat):(n=n+2)=False:=eq_false (by omega)
theorem xm (n:Nat):(n+3=n)=False:=eq_false (by omega)
theorem afe (n:Nat):(n=n+3)=False:=eq_false (by omega)
theorem Mq (n:Nat):(n+4=n)=False:=eq_false (by omega)
theorem aff (n:Nat):(n=n+4)=False:=eq_false (by omega)
theorem FW (n:Nat):(n+5=n)=False:=eq_false (by omega)
theorem afg (n:Nat):(n=n+5)=False:=eq_false (by omega)
theorem abS (n:Nat):(n+6=n)=False:=eq_false (by omega)
theorem afh (n:Nat):(n=n+6)=False:=eq_false (by omega)
theorem abT (n:Nat):(n+7=n)=False:=eq_false (by omega)
theorem afi (n:Nat):(n=n+7)=False:=eq_false (by omega)
theorem abU (n:Nat):(n+8=n)=False:=eq_false (by omega)
theorem afj (n:Nat):(n=n+8)=False:=eq_false (by omega)
theorem VH {P:Program} {r:aR} {h:af} {Q:cY→aR→af→Prop} {aJ:List gU} {os:List bA} {D:Option hg} {d:Option Nat} {g:G} {rs:List Nat}:fg P (.bool true) true d g rs D os aJ r h Q=bl P (.os D (⟨d,g,none,rs⟩::os)::aJ) .normal r h Q:=by
 rw [JW];simp
theorem VE {P:Program} {r:aR} {h:af} {Q:cY→aR→af→Prop} {aJ:List gU} {os:List bA} {D:Option hg} {d:Option Nat} {g:G} {rs:List Nat}:fg P (.bool false) false d g rs D os aJ r h Q=bl P (.os D (⟨d,g,none,rs⟩::os)::aJ) .normal r h Q:=by
 rw [JV];simp
theorem VG {P:Program} {r:aR} {h:af} {Q:cY→aR→af→Prop} {aJ:List gU} {os:List bA} {D:Option hg} {d:Option Nat} {g:G} {rs:List Nat}:fg P (.bool true) false d g rs D os aJ r h Q=bl P (.os (hF D r h (.tuple [])) os::aJ) .normal (r.set d (.tuple [])) h Q:=by
 rw [JV];simp
theorem VF {P:Program} {r:aR} {h:af} {Q:cY→aR→af→Prop} {aJ:List gU} {os:List bA} {D:Option hg} {d:Option Nat} {g:G} {rs:List Nat}:fg P (.bool false) true d g rs D os aJ r h Q=bl P (.os (hF D r h (.tuple [])) os::aJ) .normal (r.set d (.tuple [])) h Q:=by
 rw [JW];simp
theorem QN (c:Bool) (a b:V):V.bif (!c) a (V.opt c b)=V.bif (!c) a b:=by cases c<;>rfl
theorem Yu (A:Prop):(True→A)=A:=propext ⟨fun q=>q trivial,fun q _=>q⟩
theorem Yt (A:Prop):(False→A)=True:=propext ⟨fun _=>trivial,fun _ q=>q.elim⟩
section
variable {P:Program}
theorem gE {b:bz} {aJ:List gU} {r:aR} {h:af} {Q:cY→aR→af→Prop} (I:aR→af→Prop) (μ:aR→af→Nat) (a_:I r h)
 (step:∀r h,I r h→bl P [.c b] .normal r h fun e bq ab=>e.andThen (I bq ab∧μ bq ab<μ r h) (bl P aJ e bq ab Q)):uA P b aJ r h Q:=
 ⟨I,μ,a_,step⟩
theorem VD {b want:Bool} {d:Option Nat} {f:FuncId} {args:List aT} {rs:List Nat} {os:List bA} {D:Option hg} {aJ:List gU} {r:aR} {h:af} {Q:cY→aR→af→Prop} (v:V)
 (bn:(b == want)=true→e7 P f (aT.e3 (r.trim rs) args) h v h)
 (H:bl P (.os (hF D r h (V.opt (b == want) v)) os::aJ) .normal (r.set d (V.opt (b == want) v)) h Q):fg P (.bool b) want d (.call f args) rs D os aJ r h Q:=by
 have:=VC (P:=P) (c:=true) (b:=b) (want:=want) (d:=d) (f:=f) (args:=args) (rs:=rs) (D:=D) (os:=os) (aJ:=aJ) (r:=r) (h:=h) (Q:=Q) v
 simp only [V.opt,cond_true,Bool.true_and] at this
 exact this bn H
theorem zc {b:Bool} {d:Option Nat} {f:FuncId} {args:List aT} {rs:List Nat} {os:List bA} {D:Option hg} {aJ:List gU} {r:aR} {h:af} {Q:cY→aR→af→Prop} (v:V)
 (bn:(!b)=true→e7 P f (aT.e3 (r.trim rs) args) h v h)
 (H:bl P (.os (hF D r h (V.opt (!b) v)) os::aJ) .normal (r.set d (V.opt (!b) v)) h Q):fg P (.bool b) false d (.call f args) rs D os aJ r h Q:=by
 refine VD v ?_ ?_<;>rw [beq_false]<;>assumption
def V.toN:V→Nat
 | .int _ n=>n.toNat
 | _=>0
theorem aeE (k:IntKind) (n:Int):V.toN (.int k n)=n.toNat:=rfl
theorem fe {f:FuncId} {args:List V} {d:Option Nat} {os:List bA} {D:Option hg} {aJ:List gU} {r:aR} {h:af} {Q:cY→aR→af→Prop} {v:V}
 (c:e7 P f args h v h) (H:bl P (.os (hF D r h v) os::aJ) .normal (r.set d v) h Q):nw P f args d D os aJ r h Q:=⟨v,h,c,H⟩
theorem cF {f:FuncId} {args:List V} {d:Option Nat} {os:List bA} {D:Option hg} {aJ:List gU} {r:aR} {h:af} {Q:cY→aR→af→Prop} {K:V→af→Prop}
 (c:bI P f args h K) (H:∀v ab,K v ab→bl P (.os (hF D r h v) os::aJ) .normal (r.set d v) ab Q):nw P f args d D os aJ r h Q:=c.mono H
structure Ext (h ab:af):Prop where
 next:h.next≤ab.next
 get:∀b,Old h b→ab.get b=h.get b
theorem Ext.refl (h:af):Ext h h:=⟨Nat.le_refl _,fun _ _=>rfl⟩
theorem Ext.bO {h ab:af} (e:Ext h ab) {b:aO} (ah:Old h b):Old ab b:=Nat.lt_of_lt_of_le ah e.next
theorem Ext.trans {h ab ka:af} (e:Ext h ab) (c0:Ext ab ka):Ext h ka:=
 ⟨Nat.le_trans e.next c0.next,fun b ah=>(c0.get b (e.bO ah)).trans (e.get b ah)⟩
theorem Ext.new {h ab:af} (e:Ext h ab) (k:b1):Ext h (ab.new k):=
 ⟨Nat.le_succ_of_le e.next,fun b ah=>by
   rw [gO,if_neg (fun q=>(FX (h:=h) ah e.next) ▸ q)]
   exact e.get b ah⟩
theorem Ext.set {h ab:af} (e:Ext h ab) {i:Nat} (aD:h.next≤i) (k:b1):Ext h (ab.set (aq i) k):=
 ⟨e.next,fun b ah=>by
   rw [c8,if_neg (fun q=>(FX (h:=h) ah aD) ▸ q)]
   exact e.get b ah⟩
theorem Ext.rd {h ab:af} (e:Ext h ab) {b:aO} (ah:Old h b) {ad:List V} (H:Rd h b ad):Rd ab b ad:=by
 unfold Rd at H ⊢
 rw [e.get b ah]
 exact H
def j7 (h:af) (b:aO) (off:Nat) (ad:List V):Prop:=Old h b∧∃us,Rd h b us∧off+ad.length≤us.length∧(us.drop off).take ad.length=ad
theorem j7.ext {h ab:af} (e:Ext h ab) {b:aO} {off:Nat} {ad:List V} (H:j7 h b off ad):j7 ab b off ad:=by
 obtain ⟨a_,us,aa,ae,aI⟩:=H
 exact ⟨e.bO a_,us,e.rd a_ aa,ae,aI⟩
theorem j7.iB {h:af} {b:aO} {off:Nat} {ad:List V} (H:j7 h b off ad) {i:Nat} (aD:i<ad.length):iC (h.get b) (off+i)=some ad[i]:=by
 obtain ⟨_,us,aa,ae,aI⟩:=H
 rw [aa.iB,List.getElem?_eq_getElem (by omega)]
 congr 1
 have:((us.drop off).take ad.length)[i]? =ad[i]? :=by rw [aI]
 rw [List.getElem?_take_of_lt aD,List.getElem?_drop,List.getElem?_eq_getElem (by omega),List.getElem?_eq_getElem aD] at this
 simpa using this
theorem j7.iW {h:af} {b:aO} {off:Nat} {ad:List V} (H:j7 h b off ad) {i n:Nat} (aD:i+n≤ad.length):lu n (h.get b) (off+i)=some (.agg ((ad.drop i).take n)):=by
 obtain ⟨_,us,aa,ae,aI⟩:=H
 rw [aa.iW,if_pos (by omega)]
 congr 2
 have:(((us.drop off).take ad.length).drop i).take n=(ad.drop i).take n:=by rw [aI]
 rw [←this,List.drop_take,List.drop_drop,List.take_take]
 congr 1
 omega
def hj (h:af) (size:Nat) (v:V) (n:Nat) (ad:List V):Prop:=
 ad.length=n * size∧match v with
  | .b6=>n=0
  | .slice b off len _=>len=n∧j7 h b off ad
  | .ef b off len _=>len=n∧j7 h b off ad
  | .gT _ _ _ _=>n=0
  | _=>False
theorem hj.ext {h ab:af} (e:Ext h ab) {size:Nat} {v:V} {n:Nat} {ad:List V} (H:hj h size v n ad):hj ab size v n ad:=by
 refine ⟨H.1,?_⟩
 have cR:=H.2
 cases v<;>simp only at cR ⊢<;>first | exact cR | exact ⟨cR.1,cR.2.ext e⟩
theorem hj.len {h:af} {size:Nat} {v:V} {n:Nat} {ad:List V} (H:hj h size v n ad):kq v=some (.int .i64 n):=by
 have cR:=H.2
 cases v<;>simp only at cR<;>first
  | (rw [←cR.1];rfl)
  | (subst cR;rfl)
  | (exact cR.elim)
theorem hj.cH {h:af} {size:Nat} {v:V} {n:Nat} {ad:List V} (H:hj h size v n ad) {k:IntKind} {i:Nat} (aD:i<n):
 ∃b off,iU size v (.int k i)=some (.ptr b (off+i * size))∧j7 h b off ad:=by
 have cR:=H.2
 cases v<;>simp only at cR<;>first
  | omega
  | (exact cR.elim)
  | skip
 · rename_i b off len cap
   obtain ⟨rfl,aa⟩:=cR
   refine ⟨b,off,?_,aa⟩
   rw [Ff,if_pos (by omega)]
   simp
 · rename_i b off len cap
   obtain ⟨rfl,aa⟩:=cR
   refine ⟨b,off,?_,aa⟩
   rw [Fe,if_pos (by omega)]
   simp
end
end Go.Proofs.YthemdhlheglhoaaGreatDoor.a6
namespace Go.Proofs.YthemdhlheglhoaaGreatDoor.a6
variable [Lay]
open Go Go.RowKit
structure Mod (M:aO→Prop) (h ab:af):Prop where
 next:h.next≤ab.next
 get:∀b,Old h b→¬M b→ab.get b=h.get b
theorem Mod.refl (M:aO→Prop) (h:af):Mod M h h:=⟨Nat.le_refl _,fun _ _ _=>rfl⟩
theorem Mod.bO {M:aO→Prop} {h ab:af} (e:Mod M h ab) {b:aO} (ah:Old h b):Old ab b:=Nat.lt_of_lt_of_le ah e.next
theorem Mod.trans {M:aO→Prop} {h ab ka:af} (e:Mod M h ab) (c0:Mod M ab ka):Mod M h ka:=
 ⟨Nat.le_trans e.next c0.next,fun b ah hm=>(c0.get b (e.bO ah) hm).trans (e.get b ah hm)⟩
theorem Mod.mono {M HE:aO→Prop} {h ab:af} (e:Mod M h ab) (hm:∀b,Old h b→M b→HE b):Mod HE h ab:=
 ⟨e.next,fun b ah aV=>e.get b ah fun q=>aV (hm b ah q)⟩
theorem Mod.new {M:aO→Prop} {h ab:af} (e:Mod M h ab) (k:b1):Mod M h (ab.new k):=
 ⟨Nat.le_succ_of_le e.next,fun b ah hm=>by
   rw [gO,if_neg (fun q=>(FX (h:=h) ah e.next) ▸ q)]
   exact e.get b ah hm⟩
theorem Mod.set {M:aO→Prop} {h ab:af} (e:Mod M h ab) {b:aO} (ah:Old h b→M b) (k:b1):Mod M h (ab.set b k):=
 ⟨e.next,fun bC fT hm=>by
   rw [c8]
   by_cases q:b=bC
   · subst q
     exact absurd (ah fT) hm
   · rw [if_neg q]
     exact e.get bC fT hm⟩
theorem Ext.mod {h ab:af} (e:Ext h ab) (M:aO→Prop):Mod M h ab:=⟨e.next,fun b ah _=>e.get b ah⟩
theorem Ext.lz {h ab ka:af} (e:Ext h ab) {M:aO→Prop} (m:Mod M ab ka) (hm:∀b,M b→h.next≤ei b):Ext h ka:=
 ⟨Nat.le_trans e.next m.next,fun b ah=>by
   have kg:¬M b:=fun q=>by have:=hm b q;unfold Old at ah;omega
   exact (m.get b (e.bO ah) kg).trans (e.get b ah)⟩
theorem Mod.at {M:aO→Prop} {h ab:af} (e:Mod M h ab) {b:aO} {off:Nat} {ad:List V} (H:j7 h b off ad) (hm:¬M b):j7 ab b off ad:=by
 obtain ⟨a_,us,aa,ae,aI⟩:=H
 refine ⟨e.bO a_,us,?_,ae,aI⟩
 unfold Rd at aa ⊢
 rw [e.get b a_ hm]
 exact aa
theorem fj {h:af} {i:Nat} (aD:i<h.next):Old h (aq i):=by unfold Old;rw [c7];exact aD
theorem xj {h:af} {b:aO} {i:Nat} (ah:Old h b) (aD:h.next≤i):(b=aq i)=False:=by
 apply eq_false
 intro e
 unfold Old at ah
 rw [e,c7] at ah
 omega
def V.a8:V→aO→Prop
 | .slice b _ _ _,bC=>bC=b
 | .ef b _ _ _,bC=>bC=b
 | _,_=>False
theorem hj.one {h:af} {size:Nat} {v:V} {n:Nat} {ad:List V} (H:hj h size v n ad):v.one=true∧v.cells=[v]∧v.e9=true:=by
 have q:=H.2
 cases v<;>simp only at q<;>first | exact ⟨rfl,rfl,rfl⟩ | exact q.elim
theorem hj.mod {M:aO→Prop} {h ab:af} (e:Mod M h ab) {size:Nat} {v:V} {n:Nat} {ad:List V} (H:hj h size v n ad) (hm:∀b,v.a8 b→¬M b):hj ab size v n ad:=by
 refine ⟨H.1,?_⟩
 have cR:=H.2
 cases v<;>simp only at cR ⊢<;>first | exact cR | exact ⟨cR.1,e.at cR.2 (hm _ rfl)⟩
theorem hj.bO {h:af} {size:Nat} {v:V} {n:Nat} {ad:List V} (H:hj h size v n ad) {b:aO} (ah:v.a8 b):Old h b:=by
 have cR:=H.2
 cases v<;>simp only [V.a8] at cR ah<;>first | (exact ah.elim) | (subst ah;exact cR.2.1)
def ed (B:Nat) (h:af) (size:Nat) (v:V) (n:Nat) (ad:List V):Prop:=
 ad.length=n * size∧match v with
  | .b6=>n=0
  | .slice b off len cap=>len=n∧B≤ei b∧Old h b∧n≤cap∧cap≤top∧∃us cl st,h.get b=.bb us cl st∧off+cap * size≤us.length∧(us.drop off).take ad.length=ad
  | .ef b off len idx=>len=n∧B≤ei b∧Old h b∧off=0∧idx=0∧∃us st,h.get b=.bb us size st∧ad.length≤us.length∧us.take ad.length=ad
  | _=>False
theorem ed.v {B:Nat} {h:af} {size:Nat} {v:V} {n:Nat} {ad:List V} (H:ed B h size v n ad):hj h size v n ad:=by
 obtain ⟨aa,ae⟩:=H
 refine ⟨aa,?_⟩
 cases v<;>simp only at ae ⊢<;>first | exact ae | skip
 · obtain ⟨au,_,aC,aM,_,us,cl,st,bG,dJ,e0⟩:=ae
   refine ⟨au,aC,us,.inr ⟨cl,st,bG⟩,?_,e0⟩
   rw [aa]
   have:=Nat.mul_le_mul_right size aM
   omega
 · obtain ⟨au,_,aC,aM,_,us,st,bG,dJ,e0⟩:=ae
   subst aM
   exact ⟨au,aC,us,.inr ⟨size,st,bG⟩,by omega,by simpa using e0⟩
theorem ed.base {B:Nat} {h:af} {size:Nat} {v:V} {n:Nat} {ad:List V} (H:ed B h size v n ad) {b:aO} (ah:v.a8 b):B≤ei b:=by
 have cR:=H.2
 cases v<;>simp only [V.a8] at cR ah<;>first | (exact ah.elim) | (subst ah;exact cR.2.1)
theorem ed.mono {B Hm:Nat} {h:af} {size:Nat} {v:V} {n:Nat} {ad:List V} (H:ed B h size v n ad) (cJ:Hm≤B):ed Hm h size v n ad:=by
 refine ⟨H.1,?_⟩
 have cR:=H.2
 cases v<;>simp only at cR ⊢<;>first | exact cR | exact ⟨cR.1,Nat.le_trans cJ cR.2.1,cR.2.2⟩
theorem ed.mod {M:aO→Prop} {h ab:af} (e:Mod M h ab) {B size:Nat} {v:V} {n:Nat} {ad:List V} (H:ed B h size v n ad) (hm:∀b,v.a8 b→¬M b):ed B ab size v n ad:=by
 refine ⟨H.1,?_⟩
 have cR:=H.2
 cases v<;>simp only at cR ⊢<;>first | exact cR | skip
 · obtain ⟨au,aC,aM,bG,dJ,us,cl,st,e0,hY⟩:=cR
   exact ⟨au,aC,e.bO aM,bG,dJ,us,cl,st,by rw [e.get _ aM (hm _ rfl)];exact e0,hY⟩
 · obtain ⟨au,aC,aM,bG,dJ,us,st,e0,hY⟩:=cR
   exact ⟨au,aC,e.bO aM,bG,dJ,us,st,by rw [e.get _ aM (hm _ rfl)];exact e0,hY⟩
theorem ed.ext {h ab:af} (e:Ext h ab) {B size:Nat} {v:V} {n:Nat} {ad:List V} (H:ed B h size v n ad):ed B ab size v n ad:=
 H.mod (e.mod fun _=>False) fun _ _ q=>q
theorem aaX {h:af} {size:Nat} {v:V} {n:Nat} {ad:List V} (H:hj h size v n ad):l_ v=some n:=by
 have cR:=H.2
 cases v<;>simp only at cR<;>first
  | (rw [←cR.1];rfl)
  | (subst cR;rfl)
  | (exact cR.elim)
theorem GX {h:af} {b:aO} {off size n:Nat} {ad:List V} (H:j7 h b off ad) (ai:ad.length=n * size):mo h size b off n=some ad:=by
 obtain ⟨_,us,aa,ae,aI⟩:=H
 unfold mo
 rw [aa.mm,show Nat.ble (off+n * size) us.length=true from by rw [Nat.ble_eq];omega,ze us _ off (by omega),←ai,aI]
 rfl
theorem aeb {h:af} {size:Nat} {v:V} {n:Nat} {ad:List V} (H:hj h size v n ad):sF h size v n=some ad:=by
 obtain ⟨aa,ae⟩:=H
 cases v<;>simp only at ae<;>first
  | (exact ae.elim)
  | (obtain ⟨_,aI⟩:=ae;exact GX aI aa)
  | (subst ae
     have:ad=[]:=List.eq_nil_of_length_eq_zero (by omega)
     subst this
     rfl)
theorem ed.grown {B:Nat} {h:af} {size:Nat} {ad:List V} {n:Nat} {st:Bool} (ai:ad.length=n * size) (cJ:B≤h.next):ed B (h.new (.bb ad size st)) size (.ef (aq h.next) 0 n 0) n ad:=
 ⟨ai,rfl,by rw [c7];exact cJ,Mz,rfl,rfl,ad,st,lk _,Nat.le_refl _,List.take_length⟩
theorem Qj {h:af} {size:Nat} {s x:V} {m:Nat} {ad:List V} (cR:hj h size x m ad) (hm:m≤top):lh size s x h=(match s with
 | .b6=>ta size m ad h
 | .slice b off len cap=>s_ size b off len cap m ad h
 | .ef b off len idx=>s' size b off len idx m ad h
 | _=>.fail):=by
 unfold lh
 rw [aaX cR]
 simp only
 rw [aeb cR]
 simp only
 rw [show Nat.ble m top=true from by rw [Nat.ble_eq];exact hm]
 rfl
theorem N' (A:List V) (o:Nat) (W:List V) (h:o+W.length≤A.length) (q:Nat):(hf A o W)[q]? =if q<o then A[q]? else if q<o+W.length then W[q-o]? else A[q]? :=by
 have ai:(A.take o).length=o:=by rw [List.length_take];omega
 unfold hf
 rw [List.append_assoc]
 by_cases bE:q<o
 · rw [if_pos bE,List.getElem?_append_left (by omega),List.getElem?_take_of_lt bE]
 · rw [if_neg bE,List.getElem?_append_right (by omega),ai]
   by_cases bR:q<o+W.length
   · rw [if_pos bR,List.getElem?_append_left (by omega)]
   · rw [if_neg bR,List.getElem?_append_right (by omega),List.getElem?_drop]
     congr 1
     omega
theorem N_ (A:List V) (o j:Nat) (L W:List V) (jM:o+L.length≤A.length) (dW:(A.drop o).take L.length=L) (bB:j+W.length≤L.length):((hf A (o+j) W).drop o).take L.length=hf L j W:=by
 apply List.ext_getElem?
 intro q
 have ai:((A.drop o).take L.length)[q]? =L[q]? :=by rw [dW]
 rw [N' L j W bB]
 by_cases az:q<L.length
 · rw [List.getElem?_take_of_lt az,List.getElem?_drop,N' A (o+j) W (by omega)]
   rw [List.getElem?_take_of_lt az,List.getElem?_drop] at ai
   by_cases bE:q<j
   · rw [if_pos (by omega),if_pos bE,ai]
   · rw [if_neg (by omega),if_neg bE]
     by_cases bR:q<j+W.length
     · rw [if_pos (by omega),if_pos bR]
       congr 1
       omega
     · rw [if_neg (by omega),if_neg bR,ai]
 · rw [List.getElem?_take_eq_none (by omega),if_neg (by omega),if_neg (by omega),List.getElem?_eq_none (by omega)]
theorem Qm {B:Nat} {h:af} {size:Nat} {s x:V} {n m:Nat} {us ad:List V} (b5:1≤size) (H1:ed B h size s n us) (cR:hj h size x m ad) (cJ:B≤h.next) (hlen:(n+m) * size≤top) (aS:fk ad=true):
 ∃v ab,lh size s x h=.val v ab∧ed B ab size v (n+m) (us++ad)∧Mod s.a8 h ab∧∀b,v.a8 b→s.a8 b∨h.next≤ei b:=by
 have kg:n+m≤top:=Nat.le_trans (Nat.le_mul_of_pos_right _ b5) hlen
 have hA:=H1.1
 have hB:=cR.1
 have jQ:(us++ad).length=(n+m) * size:=by rw [List.length_append,hA,hB,Nat.add_mul]
 rw [Qj cR (by omega)]
 have ae:=H1.2
 cases s<;>simp only at ae ⊢<;>try (exact ae.elim)
 case b6=>
  subst ae
  have:us=[]:=List.eq_nil_of_length_eq_zero (by omega)
  subst this
  unfold ta
  by_cases hm:m=0
  · subst hm
    have:ad=[]:=List.eq_nil_of_length_eq_zero (by omega)
    subst this
    exact ⟨.b6,h,rfl,⟨by simp,rfl⟩,Mod.refl _ _,fun b ah=>.inl ah⟩
  · rw [show Nat.beq m 0=false from by rw [←Bool.not_eq_true,Nat.beq_eq];exact hm]
    simp only [cond_false]
    rw [FM (by rw [hB];simpa using hlen) b5]
    refine ⟨_,_,rfl,?_,(Mod.refl _ _).new _,fun b ah=>.inr (by rw [show b=aq h.next from ah,c7];exact Nat.le_refl _)⟩
    have:=ed.grown (B:=B) (h:=h) (size:=size) (ad:=ad) (n:=m) (st:=false) hB cJ
    simpa using this
 case slice b off len cap=>
  obtain ⟨rfl,aC,aM,bG,dJ,jb,cl,st,e0,hY,kv⟩:=ae
  unfold s_
  by_cases aF:len+m≤cap
  · rw [show Nat.ble (len+m) cap=true from by rw [Nat.ble_eq];exact aF]
    simp only [cond_true]
    have er:off+len * size+ad.length≤jb.length:=by
     have:=Nat.mul_le_mul_right size aF
     rw [Nat.add_mul] at this
     rw [hB]
     omega
    rw [Own.lay (ad:=jb) (cl:=cl) (st:=st) e0 er aS]
    refine ⟨_,_,rfl,⟨jQ,rfl,aC,aM,aF,dJ,_,cl,st,c8 _ _ _ |>.trans (if_pos rfl),?_,?_⟩,(Mod.refl (V.a8 (.slice b off len cap)) h).set (fun _=>rfl) _,fun bC ah=>.inl ah⟩
    · rw [oe _ _ _ er];exact hY
    · rw [List.length_append]
      unfold hf
      have eg:off+us.length≤jb.length:=by rw [hA];omega
      have aN:jb.take (off+len * size)=jb.take off++us:=by
       rw [←hA,List.take_add,kv]
      rw [aN,List.append_assoc,List.append_assoc,List.drop_append,List.drop_eq_nil_of_le (by rw [List.length_take];omega),List.nil_append]
      rw [show off - (jb.take off).length=0 from by rw [List.length_take];omega,List.drop_zero]
      rw [←List.append_assoc,List.take_left' (by rw [List.length_append])]
  · rw [show Nat.ble (len+m) cap=false from by rw [←Bool.not_eq_true,Nat.ble_eq];exact aF]
    simp only [cond_false]
    rw [show (Nat.ble (len+m) top&&Nat.ble cap top)=true from by simp only [Bool.and_eq_true,Nat.ble_eq];exact ⟨kg,dJ⟩]
    simp only [cond_true]
    have DZ:j7 h b off us:=⟨aM,jb,.inr ⟨cl,st,e0⟩,by rw [hA];have:=Nat.mul_le_mul_right size bG;omega,kv⟩
    rw [GX DZ hA]
    simp only
    rw [FM (by rw [jQ];exact hlen) b5]
    exact ⟨_,_,rfl,ed.grown jQ cJ,(Mod.refl _ _).new _,fun b ah=>.inr (by rw [show b=aq h.next from ah,c7];exact Nat.le_refl _)⟩
 case ef b off len idx=>
  obtain ⟨rfl,aC,aM,rfl,rfl,jb,st,e0,hY,kv⟩:=ae
  unfold s'
  by_cases hm:m=0
  · subst hm
    have:ad=[]:=List.eq_nil_of_length_eq_zero (by omega)
    subst this
    exact ⟨_,h,rfl,⟨jQ,rfl,aC,aM,rfl,rfl,jb,st,e0,by simpa using hY,by simpa using kv⟩,Mod.refl _ _,fun b ah=>.inl ah⟩
  · rw [show Nat.beq m 0=false from by rw [←Bool.not_eq_true,Nat.beq_eq];exact hm]
    simp only [cond_false]
    rw [e0]
    simp only [b1.bb,b1.on]
    rw [show (Nat.beq size size&&(Nat.ble (len+m) top&&fk ad)&&Nat.beq 0 (0 * size))=true from by
     simp only [Bool.and_eq_true,Nat.beq_eq,Nat.ble_eq]
     exact ⟨⟨trivial,kg,aS⟩,by omega⟩]
    simp only [cond_true]
    have DZ:j7 h b 0 us:=⟨aM,jb,.inr ⟨size,st,e0⟩,by omega,by simpa using kv⟩
    rw [GX DZ hA]
    simp only
    rw [FM (by rw [jQ];exact hlen) b5]
    exact ⟨_,_,rfl,ed.grown (h:=h.set b .dead) jQ cJ,((Mod.refl (V.a8 (.ef b 0 len 0)) h).set (fun _=>rfl) _).new _,fun bC ah=>.inr (by rw [show bC=aq h.next from ah,c7];exact Nat.le_refl _)⟩
theorem ed.put {B:Nat} {h:af} {size:Nat} {v:V} {n:Nat} {ad:List V} (H:ed B h size v n ad) {i:Nat} (aD:i<n) {k:IntKind} {y:V} (aZ:y.cells.length=size) (aS:fk y.cells=true):
 ∃b off ab,iU size v (.int k i)=some (.ptr b (off+i * size))∧v.a8 b∧nj size h (.ptr b (off+i * size)) y=some ab∧ed B ab size v n (hf ad (i * size) y.cells)∧Mod v.a8 h ab:=by
 obtain ⟨aa,ae⟩:=H
 have aP:i * size+size≤n * size:=by
  have:=Nat.mul_le_mul_right size (show i+1≤n from aD)
  rw [Nat.add_mul] at this
  omega
 cases v<;>simp only at ae<;>try (first | omega | exact ae.elim)
 case slice b off len cap=>
  obtain ⟨rfl,aC,aM,bG,dJ,jb,cl,st,e0,hY,kv⟩:=ae
  have aF:=Nat.mul_le_mul_right size bG
  have er:off+i * size+y.cells.length≤jb.length:=by rw [aZ];omega
  refine ⟨b,off,_,?_,rfl,Own.store (ad:=jb) (cl:=cl) (st:=st) e0 aZ (by rw [aZ] at er;exact er) aS,⟨?_,rfl,aC,aM,bG,dJ,_,cl,st,c8 _ _ _ |>.trans (if_pos rfl),?_,?_⟩,(Mod.refl (V.a8 (.slice b off len cap)) h).set (fun _=>rfl) _⟩
  · rw [Ff,if_pos (by omega)];simp
  · rw [oe _ _ _ (by rw [aZ,aa];omega)];exact aa
  · rw [oe _ _ _ er];exact hY
  · rw [oe _ _ _ (by rw [aZ,aa];omega)]
    exact N_ jb off (i * size) ad y.cells (by rw [aa];omega) kv (by rw [aZ,aa];omega)
 case ef b off len idx=>
  obtain ⟨rfl,aC,aM,rfl,rfl,jb,st,e0,hY,kv⟩:=ae
  have er:i * size+y.cells.length≤ad.length:=by rw [aZ,aa];omega
  have wR:0+i * size+y.cells.length≤jb.length:=by omega
  refine ⟨b,0,_,?_,rfl,Own.store (ad:=jb) (cl:=size) (st:=st) e0 aZ (by rw [aZ] at wR;exact wR) aS,⟨?_,rfl,aC,aM,rfl,rfl,_,st,c8 _ _ _ |>.trans (if_pos rfl),?_,?_⟩,(Mod.refl (V.a8 (.ef b 0 len 0)) h).set (fun _=>rfl) _⟩
  · rw [Fe,if_pos (by omega)];simp
  · rw [oe _ _ _ er];exact aa
  · rw [oe _ _ _ er,oe _ _ _ wR];exact hY
  · rw [oe _ _ _ er]
    have:=N_ jb 0 (i * size) ad y.cells (by omega) (by simpa using kv) er
    simpa using this
theorem acn (r:aR):aT.opt r none=none:=(rfl)
theorem aco (r:aR) (x:aT):aT.opt r (some x)=some (x.aW r):=(rfl)
theorem Ic (d y:Nat):bound none d y=some d:=rfl
theorem abK (b:aO) (o:Nat):qn (.ptr b o)=some (.ptr b o):=rfl
theorem abr (k bp:IntKind) (a b:Int):iY (fun b a=>!Int.leB a b) [.int k a,.int bp b]=some (.int k (if b<a then b else a)):=by
 simp only [iY,sv,V.dT,nZ]
 by_cases h:b<a
 · rw [if_pos h]
   have:¬a≤b:=by omega
   simp [this]
 · rw [if_neg h]
   have:a≤b:=by omega
   simp [this]
theorem abu (k bp:IntKind) (a b:Int):iY (fun b a=>!Int.leB b a) [.int k a,.int bp b]=some (.int k (if a<b then b else a)):=by
 simp only [iY,sv,V.dT,nZ]
 by_cases h:a<b
 · rw [if_pos h]
   have:¬b≤a:=by omega
   simp [this]
 · rw [if_neg h]
   have:b≤a:=by omega
   simp [this]
end Go.Proofs.YthemdhlheglhoaaGreatDoor.a6
namespace Go.Proofs.YthemdhlheglhoaaGreatDoor.a6
variable [Lay]
open Go Go.RowKit Go.ChangeShapes Go.WideShapes
section
variable {H:Type} {enc:TypeId × Value→H} {P:Program}
end
end Go.Proofs.YthemdhlheglhoaaGreatDoor.a6
namespace Go.Proofs.YthemdhlheglhoaaGreatDoor.a6
variable [Lay]
open Go Go.RowKit
theorem aY.below {ar:Fr} {E:Env} {h:af} {w aj:World} (s:aY ar E h w) (ah:Below w.heap.size w aj):aY ar E h aj:=by
 have b5:ar.w.heap.size≤w.heap.size:=s.frame.size
 have fO:∀(k:Nat) (o:Obj),w.heap[k]? =some o→aj.heap[k]? =some o:=by
  intro k o ax
  rw [ah.block k,ax]
  by_cases aP:k<w.heap.size
  · exact aP
  · rw [Array.getElem?_eq_none (by omega)] at ax
    cases ax
 refine ⟨fun b ag=>?_,s.nf,s.inj,s.fresh,s.frame.trans (ah.mono b5),s.laid,s.base⟩
 have:=s.a8 b ag
 cases ax:h.get b<;>rw [ax] at this<;>simp only [ga] at this ⊢
 · obtain ⟨au,p,c,el,bK,aC,aM,bG,dJ⟩:=this
   exact ⟨au,p,c,el,bK,aC,aM,fO _ _ bG,dJ⟩
 · obtain ⟨au,p,c,el,bK,aC,aM,bG,dJ⟩:=this
   exact ⟨au,p,c,el,bK,aC,aM,fO _ _ bG,dJ⟩
 · obtain ⟨p,au,aC,aM,bG⟩:=this
   exact ⟨p,au,aC,aM,fO _ _ bG⟩
 · obtain ⟨p,a,au,aC,aM,bG⟩:=this
   exact ⟨p,a,au,aC,fO _ _ aM,bG⟩
 · obtain ⟨p,o,au,aC,aM,bG⟩:=this
   exact ⟨p,o,au,aC,fO _ _ aM,bG⟩
 · obtain ⟨p,au,aC,aM⟩:=this
   exact ⟨p,au,aC,fO _ _ aM⟩
 · obtain ⟨p,a,c,l,au,aC,aM,bG⟩:=this
   exact ⟨p,a,c,l,au,aC,fO _ _ aM,bG⟩
 · obtain ⟨p,m,a,au,aC,aM,bG,dJ⟩:=this
   exact ⟨p,m,a,au,aC,aM,fO _ _ bG,dJ⟩
theorem aaB {P:Program} {f:FuncId} {args:List V} {v:V} {h:af} (H:∀E xs w,Lay.ok w→a7 E args xs→Calls P f xs.toArray w fun e aj=>∃x,e=.returned x∧Rel E v x∧Below w.heap.size w aj)
 (ar:Fr) (E:Env) (w:World) (xs:List Value) (al:a7 E args xs) (s:aY ar E h w):Calls P f xs.toArray w fun e aj=>∃ao x,e=.returned x∧E.le ao∧Rel ao v x∧aY ar ao h aj:=by
 refine (H E xs w (Lay.fO s.laid s.frame) al).mono fun e aj q=>?_
 obtain ⟨x,rfl,bn,ah⟩:=q
 exact ⟨E,x,rfl,Env.le.refl E,bn,s.below ah⟩
theorem U' {P:Program} {f:FuncId} {fn:Func} {e:Array Value→Sem Value} (av:P.funcs[f]? =some fn) (aV:(fn.name == "runtime.NumGoroutine")=false) (ah:fn.body.isNone=true) (aa:Extern.findNext fn=none) (ae:Extern.find fn=some e)
 {xs:Array Value} {x:Value} {w:World} (aG:(e xs).run P w=.ok x w):(callFunc f xs).run P w=.ok (.value x) w:=by
 simp only [callFunc,Sem.run_bind,run_program,Result.andThen_ok,av]
 rw [if_neg (by rw [aV];simp),if_pos ah]
 simp only [Sem.run_bind,aa,ae]
 have hm:(mark (.extern f)).run P w=.ok () w:=rfl
 rw [hm]
 simp only [Result.andThen_ok,aG,Sem.run_pure]
def w6 (c:Nat):List UInt8→Nat→Int
 | [],_=>-1
 | b::l,i=>bif Nat.beq b.toNat c then .ofNat i else w6 c l (i+1)
theorem Lr (c:Nat) (aF:c<256):∀(l:List UInt8) (i:Nat),w6 c l i=if Lib.indexByte l c.toUInt8=-1 then -1 else Lib.indexByte l c.toUInt8+i
 | [],i=>by simp [w6,Lib.indexByte]
 | b::l,i=>by
   have h8:=Lib.indexByte_ge l c.toUInt8
   have p3:(b.toNat=c)↔(b == c.toUInt8)=true:=by
    rw [beq_iff_eq,←UInt8.toNat_inj]
    have:c.toUInt8.toNat=c:=by
     show c % 256=c
     omega
    rw [this]
   have e:Lib.indexByte (b::l) c.toUInt8=if (b == c.toUInt8)=true then 0 else if (Lib.indexByte l c.toUInt8 == -1)=true then -1 else Lib.indexByte l c.toUInt8+1:=rfl
   simp only [w6,Lr c aF l (i+1),gM]
   by_cases h:b.toNat=c
   · rw [if_pos (p3.1 h)] at e
     rw [if_pos h,e]
     simp
   · rw [if_neg (fun e=>h (p3.2 e))] at e
     rw [if_neg h]
     by_cases ae:Lib.indexByte l c.toUInt8=-1
     · rw [ae] at e
       simp only [beq_self_eq_true,if_true] at e
       simp [ae,e]
     · have aI:(Lib.indexByte l c.toUInt8 == -1)=false:=by simpa using ae
       rw [aI] at e
       simp only [Bool.false_eq_true,if_false] at e
       rw [if_neg ae,e,if_neg (by omega)]
       omega
def preB:List UInt8→List UInt8→Bool
 | [],_=>true
 | _::_,[]=>false
 | a::x,b::y=>bif Nat.beq a.toNat b.toNat then preB x y else false
theorem Gb:∀(x y:List UInt8),preB x y=x.isPrefixOf y
 | [],y=>by cases y<;>rfl
 | _::_,[]=>rfl
 | a::x,b::y=>by
   simp only [preB,List.isPrefixOf,gM,Gb x y]
   by_cases h:a.toNat=b.toNat
   · have:a=b:=UInt8.toNat_inj.1 h
     subst this
     simp
   · have:(a == b)=false:=by
      rw [beq_eq_false_iff_ne]
      exact fun e=>h (by rw [e])
     rw [if_neg h,this]
     rfl
def hasB:List UInt8→List UInt8→Bool
 | [],sub=>preB sub []
 | b::l,sub=>bif preB sub (b::l) then true else hasB l sub
theorem Kc:∀(s sub:List UInt8),hasB s sub=Lib.contains s sub
 | [],sub=>by
   simp only [hasB,Gb,Lib.contains,Lib.index]
   cases sub<;>simp
 | b::l,sub=>by
   simp only [hasB,Gb]
   have bh:=Kc l sub
   unfold Lib.contains at bh ⊢
   unfold Lib.index
   cases h:sub.isPrefixOf (b::l) with
   | true=>simp
   | false=>
     simp only [cond_false,Bool.false_eq_true,if_false,bh]
     have h8:=Lib.index_ge l sub
     cases ae:(Lib.index l sub == -1) with
     | true=>
       have:Lib.index l sub=-1:=by simpa using ae
       simp [this]
     | false=>
       have:Lib.index l sub≠-1:=by simpa using ae
       simp only [Bool.false_eq_true,if_false]
       rw [Bool.eq_iff_iff,decide_eq_true_eq,decide_eq_true_eq]
       omega
def Di:s6:=⟨fun args h=>match args with
 | [x,y]=>(match x with
   | .str s=>(match y with
     | .str sub=>bif Nat.ble s.length 100000 then .val (.bool (hasB s sub)) h else .fail
     | _=>.fail)
   | _=>.fail)
 | _=>.fail⟩
theorem Ug {args:List V} {h ab:af} {v:V} (he:Di.run args h=.val v ab):∃s sub,args=[.str s,.str sub]∧s.length≤100000∧v=.bool (Lib.contains s sub)∧ab=h:=by
 simp only [Di] at he
 split at he
 case h_2=>cases he
 split at he
 case h_2=>cases he
 split at he
 case h_2=>cases he
 obtain ⟨aF,aa⟩:=iq he
 simp only [aU.val.injEq] at aa
 obtain ⟨rfl,rfl⟩:=aa
 exact ⟨_,_,rfl,Nat.le_of_ble_eq_true aF,by rw [Kc],rfl⟩
def zS:s6:=⟨fun args h=>match args with
 | [x,y]=>(match x with
   | .str s=>(match y with
     | .int k c=>bif lP k .u8&&(Int.leB 0 c&&Nat.blt c.toNat 256) then .val (.int .i64 (w6 c.toNat s 0)) h else .fail
     | _=>.fail)
   | _=>.fail)
 | _=>.fail⟩
theorem YB {args:List V} {h ab:af} {v:V} (he:zS.run args h=.val v ab):∃s c,args=[.str s,.int .u8 c]∧v=.int .i64 (Lib.indexByte s c.toNat.toUInt8)∧ab=h:=by
 simp only [zS] at he
 split at he
 case h_2=>cases he
 split at he
 case h_2=>cases he
 split at he
 case h_2=>cases he
 rename_i s _ k c
 obtain ⟨aF,aa⟩:=iq he
 simp only [Bool.and_eq_true,Nat.blt_eq] at aF
 have ax:=pU aF.1
 subst ax
 simp only [aU.val.injEq] at aa
 obtain ⟨rfl,rfl⟩:=aa
 refine ⟨s,c,rfl,?_,rfl⟩
 rw [Lr _ aF.2.2]
 by_cases h:Lib.indexByte s c.toNat.toUInt8=-1
 · rw [if_pos h,h]
 · rw [if_neg h]
   simp
theorem YA {P:Program} {f:FuncId} {fn:Func} (av:P.funcs[f]? =some fn) (aV:(fn.name == "runtime.NumGoroutine")=false) (ah:fn.body.isNone=true) (aa:Extern.findNext fn=none) (ae:Extern.find fn=some Extern.BytealgIndexByte.indexByte)
 {args:List V} {h ab:af} {v:V} (he:zS.run args h=.val v ab) (ar:Fr) (E:Env) (w:World) (xs:List Value) (al:a7 E args xs) (s:aY ar E h w):
 ∃ao x aj,(callFunc f xs.toArray).run P w=.ok (.value x) aj∧E.le ao∧Rel ao v x∧aY ar ao ab aj:=by
 obtain ⟨t,c,rfl,rfl,rfl⟩:=YB he
 obtain ⟨y,cu,rfl,au,z,h2,rfl,aC,rfl⟩:=al
 simp only [Rel] at au aC
 subst au aC
 exact ⟨E,_,w,U' av aV ah aa ae (Lib.run_indexByteString _ _ _),Env.le.refl E,by simp [Rel],s⟩
theorem Ua {P:Program} {f:FuncId} (aZ:Nat.beq f c4=false) {v:V} (bn:∀E x,x=.bool true→Rel E v x) (ix:∃fn,P.funcs[f]? =some fn∧fn.body.isSome=true) (H:∀w,Lay.ok w→Calls P f #[] w fun e aj=>e=.returned (.bool true)∧Below w.heap.size w aj) (h:af):
 e7 P f [] h v h:=by
 refine ⟨fun e=>by subst e;simp at aZ,.inl ⟨ix,fun ar E w xs al s=>?_⟩⟩
 simp only [a7] at al
 subst al
 refine (H w (Lay.fO s.laid s.frame)).mono fun e aj q=>?_
 obtain ⟨rfl,ah⟩:=q
 exact ⟨E,_,rfl,fun _ _ q=>q,bn E _ rfl,s.below ah⟩
noncomputable def oi (E:Env) (h:af) (p:hJ):Env:=fun b=>if b=aq h.next then some p else E b
theorem OJ (E:Env) (h:af) (p:hJ):oi E h p (aq h.next)=some p:=if_pos rfl
theorem Hb {ar:Fr} {E:Env} {h:af} {w:World} (s:aY ar E h w) (p:hJ):E.le (oi E h p):=fun b q az=>by
 unfold oi
 rw [if_neg (fun e=>by rw [e,s.fresh _ (Nat.le_refl _)] at az;cases az)]
 exact az
theorem adV {W:World} {E:Env} {h:af} (s:aY ⟨W,fun _=>none⟩ E h W) (p:hJ) (k:b1) (aS:k.own=false) (ax:ga W.heap.size (oi E h p) W (aq h.next) k):
 aY ⟨W,fun _=>none⟩ (oi E h p) (h.new k) W:=by
 refine ⟨fun b _=>?_,fun _ _ h=>(by cases h),fun b bC q dX aa ae aN bf az=>?_,fun i aD=>?_,s.frame,s.laid,fun b q n cs st aa aN=>by
  rw [gO] at aa
  by_cases bE:aq h.next=b
  · rw [if_pos bE] at aa;rw [aa] at aS;cases aS
  · rw [if_neg bE] at aa
    unfold oi at aN
    rw [if_neg (fun e=>bE e.symm)] at aN
    exact s.base _ _ _ _ _ aa aN⟩
 · rw [gO]
   by_cases e:aq h.next=b
   · subst e
     rw [if_pos rfl]
     exact ax
   · rw [if_neg e]
     exact (s.a8 b rfl).mono (Hb s p)
 · rw [gO] at aa ae
   by_cases bE:aq h.next=b
   · rw [if_pos bE,aS] at aa;cases aa
   · by_cases bR:aq h.next=bC
     · rw [if_pos bR,aS] at ae;cases ae
     · rw [if_neg bE] at aa
       rw [if_neg bR] at ae
       unfold oi at aN bf
       rw [if_neg (fun e=>bE e.symm)] at aN
       rw [if_neg (fun e=>bR e.symm)] at bf
       exact s.inj b bC q dX aa ae aN bf az
 · rw [fF] at aD
   unfold oi
   rw [if_neg (fun e=>by have:=eZ e;omega)]
   exact s.fresh i (by omega)
theorem adW {W:World} {E:Env} {h:af} (s:aY ⟨W,fun _=>none⟩ E h W) {k base cap:Nat} {c:Array Value} {el:TypeId} {bK:Nat × Nat} (ax:W.heap[k]? =some (.cells c el bK)) {ad:List V}
 (aF:base+ad.length≤c.size) (aG:∀i v y,ad[i]? =some v→c[base+i]? =some y→Rel E v y):
 aY ⟨W,fun _=>none⟩ (oi E h ⟨k,base,cap⟩) (h.new (.ro ad)) W:=by
 refine adV s _ _ rfl ?_
 have aP:k<W.heap.size:=by
  by_cases aP:k<W.heap.size
  · exact aP
  · rw [Array.getElem?_eq_none (by omega)] at ax
    cases ax
 refine ⟨trivial,⟨k,base,cap⟩,c,el,bK,OJ _ _ _,aP,ax,aF,fun i y aD aZ=>?_⟩
 have:T.get .bad (aq i) (cN .e 0 ad)=ad[i]:=by
  have:=DN ad 0 i .e
  rw [Nat.zero_add] at this
  rw [this,if_pos aD,List.getElem?_eq_getElem aD]
  rfl
 rw [this]
 exact Rel.mono (Hb s _) _ _ (aG i _ y (List.getElem?_eq_getElem aD) aZ)
section
variable (P:Program)
def u4:List Field→Nat→Option Nat
 | [],o=>some o
 | f::b2,o=>if f.offset=o then u4 b2 (o+P.cellsOf f.type) else none
def sJ:Bool:=(List.range P.types.size).all fun t=>match P.underlying t with
 | some (.struct b2)=>decide (u4 P b2.toList 0=some (P.cellsOf t))
 | _=>true
def da (h:af):Nat→Nat→TypeId→List V→Prop
 | 0,_,_,_=>False
 | n+1,m,t,ad=>match P.underlying t with
   | some .bool=>∃b,ad=[.bool b]
   | some (.int k)=>∃i,ad=[.int k i]∧(Lit.int k i).wf=true
   | some .string=>∃s:List UInt8,ad=[.str s]∧s.length+1≤m
   | some (.slice e)=>1≤m∧(ad=[.b6]∨(∃b i j k,ad=[.gT b i j k])∨P.cellsOf e=0∨
      ∃b len cap,ad=[.slice b 0 len cap]∧0<len∧len≤cap∧Old h b∧∃us,Rd h b us∧us.length=len * P.cellsOf e∧∃ms:List Nat,ms.length=len∧ms.sum+1≤m∧
       ∀(i k:Nat),ms[i]? =some k→1≤k∧da h n k e ((us.drop (i * P.cellsOf e)).take (P.cellsOf e)))
   | some (.struct b2)=>ad.length=P.cellsOf t∧∃ms:List Nat,ms.length=b2.toList.length∧ms.sum+1≤m∧∀(i:Nat) (f:Field) (k:Nat),b2.toList[i]? =some f→ms[i]? =some k→1≤k∧da h n k f.type ((ad.drop f.offset).take (P.cellsOf f.type))
   | some (.pointer e)=>1≤m∧(ad=[.lC]∨P.cellsOf e=0∨∃b,ad=[.ptr b 0]∧Old h b∧∃us,Rd h b us∧us.length=P.cellsOf e∧∃k,k+1≤m∧da h n k e us)
   | some (.map _ _)=>ad=[.kr]∨ad=[.bad]
   | some (.interface _)=>ad=[.nilIface]∨ad=[.bad]
   | _=>True
end
theorem da.ext {P:Program} {h ab:af} (e:Ext h ab):∀(n m:Nat) (t:TypeId) (ad:List V),da P h n m t ad→da P ab n m t ad
 | 0,_,_,_,H=>H
 | n+1,m,t,ad,H=>by
   unfold da at H ⊢
   split at H<;>try exact H
   · refine ⟨H.1,?_⟩
     rcases H.2 with H | H | H | ⟨b,len,cap,aa,ae,aI,cI,us,bL,b0,ms,fN,fV,jY⟩
     · exact .inl H
     · exact .inr (.inl H)
     · exact .inr (.inr (.inl H))
     · exact .inr (.inr (.inr ⟨b,len,cap,aa,ae,aI,e.bO cI,us,e.rd cI bL,b0,ms,fN,fV,fun i k ax=>⟨(jY i k ax).1,da.ext e n _ _ _ (jY i k ax).2⟩⟩))
   · obtain ⟨aa,ms,ae,aI,bo⟩:=H
     exact ⟨aa,ms,ae,aI,fun i f k av ax=>⟨(bo i f k av ax).1,da.ext e n _ _ _ (bo i f k av ax).2⟩⟩
   · refine ⟨H.1,?_⟩
     rcases H.2 with H | H | ⟨b,aa,cI,us,bL,b0,k,fN,fV⟩
     · exact .inl H
     · exact .inr (.inl H)
     · exact .inr (.inr ⟨b,aa,e.bO cI,us,e.rd cI bL,b0,k,fN,da.ext e n _ _ _ fV⟩)
mutual
def e2 {H:Type}:DataW H→Nat
 | .lit (.string bytes)=>bytes.length+1
 | .lit _=>1
 | .nil=>1
 | .ptr d=>e2 d+1
 | .slice elems spare=>j_ elems+j_ spare+1
 | .agg parts=>j_ parts+1
 | .iface _ d=>e2 d+1
 | .map entries=>yy entries+1
 | .held _=>1
def j_ {H:Type}:List (DataW H)→Nat
 | []=>0
 | d::r=>e2 d+j_ r
def yy {H:Type}:List (Lit × DataW H)→Nat
 | []=>0
 | x::r=>Ce x+yy r
def Ce {H:Type}:Lit × DataW H→Nat
 | (.string bytes,d)=>bytes.length+e2 d+1
 | (_,d)=>e2 d+1
end
theorem oH {H:Type} (d:DataW H):1≤e2 d:=by
 cases d with
 | lit l=>cases l<;>simp [e2]
 | _=>simp [e2]
theorem Cd {H:Type}:∀l:List (DataW H),j_ l=(l.map e2).sum
 | []=>by simp [j_]
 | d::r=>by simp only [j_,List.map_cons,List.sum_cons,Cd r]
theorem yG {w:World} {base:Nat} {a:Addr} {n:Nat} {l:List Value} (h:w.cells? base a n=some l):l.length=n∧∀i,i<n→w.cell? (a.add i)=l[i]? :=by
 unfold World.cells? at h
 split at h
 · exact ⟨by simpa using mapM_some_length h,fun i aD=>mapM_some_get h i i (by simp [aD])⟩
 · cases h
theorem NC {E ao:Env} (he:E.le ao) {ad:List V} {l:List Value} (H:a7 E ad l):a7 ao ad l:=a7.mono he ad l H
section
variable {H:Type} {enc:TypeId × Value→H} {P:Program} {W:World} {base:Nat} {sp:Nat→Bool} {held:Bool}
def Lays (P:Program) (W:World) (n m:Nat) (t:TypeId) (cs:List Value):Prop:=
 ∀(E:Env) (h:af),aY ⟨W,fun _=>none⟩ E h W→∃ao ab ad,E.le ao∧Ext h ab∧aY ⟨W,fun _=>none⟩ ao ab W∧a7 ao ad cs∧ad.length=cs.length∧da P ab n m t ad
theorem LK (n size:Nat) (e:TypeId):∀(pieces:List (List Value)) (ms:List Nat),ms.length=pieces.length→(∀(i:Nat) (l:List Value) (k:Nat),pieces[i]? =some l→ms[i]? =some k→l.length=size∧Lays P W n k e l)→
 ∀(E:Env) (h:af),aY ⟨W,fun _=>none⟩ E h W→∃ao ab us,E.le ao∧Ext h ab∧aY ⟨W,fun _=>none⟩ ao ab W∧a7 ao us pieces.flatten∧us.length=pieces.length * size∧
  ∀(i k:Nat),ms[i]? =some k→da P ab n k e ((us.drop (i * size)).take size)
 | [],[],_,_,E,h,s=>⟨E,h,[],fun _ _ q=>q,Ext.refl h,s,rfl,by simp,fun i k aD=>by simp at aD⟩
 | [],_::_,ai,_,_,_,_=>by simp at ai
 | _::_,[],ai,_,_,_,_=>by simp at ai
 | l::ls,m::ms,jR,ag,E,h,s=>by
   obtain ⟨ai,H⟩:=ag 0 l m rfl rfl
   obtain ⟨eA,aa,ad,bJ,a2,a3,a4,a5,h5⟩:=H E h s
   obtain ⟨bX,ae,us,ct,cf,gx,j',kH,rb⟩:=LK n size e ls ms (by simpa using jR) (fun i l k au aC=>ag (i+1) l k (by simpa using au) (by simpa using aC)) eA aa a3
   refine ⟨bX,ae,ad++us,bJ.trans ct,a2.trans cf,gx,?_,?_,?_⟩
   · rw [List.flatten_cons]
     exact a7.append (NC ct a4) j'
   · rw [List.length_append,kH,a5,ai,List.length_cons,Nat.add_mul]
     omega
   · intro i k aD
     cases i with
     | zero=>
       rw [Nat.zero_mul,List.drop_zero,List.take_left' (by rw [a5,ai])]
       simp only [List.getElem?_cons_zero,Option.some.injEq] at aD
       subst aD
       exact da.ext cf _ _ _ _ h5
     | succ i=>
       rw [Nat.add_mul,Nat.one_mul,Nat.add_comm,←List.drop_drop,List.drop_left' (by rw [a5,ai])]
       exact rb i k (by simpa using aD)
theorem LJ (n:Nat):∀(b2:List Field) (ms:List Nat) (o bU:Nat) (cs:List Value),u4 P b2 o=some bU→cs.length=bU→ms.length=b2.length→(∀(i:Nat) (f:Field) (k:Nat),b2[i]? =some f→ms[i]? =some k→Lays P W n k f.type ((cs.drop f.offset).take (P.cellsOf f.type)))→
 o≤bU∧∀(E:Env) (h:af),aY ⟨W,fun _=>none⟩ E h W→∃ao ab ad,E.le ao∧Ext h ab∧aY ⟨W,fun _=>none⟩ ao ab W∧a7 ao ad (cs.drop o)∧ad.length=bU-o∧
  ∀(i:Nat) (f:Field) (k:Nat),b2[i]? =some f→ms[i]? =some k→o≤f.offset∧da P ab n k f.type ((ad.drop (f.offset-o)).take (P.cellsOf f.type))
 | [],_::_,_,_,_,_,_,jR,_=>by simp at jR
 | _::_,[],_,_,_,_,_,jR,_=>by simp at jR
 | [],[],o,bU,cs,aA,ai,_,_=>by
   simp only [u4,Option.some.injEq] at aA
   subst aA
   refine ⟨Nat.le_refl _,fun E h s=>⟨E,h,[],fun _ _ q=>q,Ext.refl h,s,?_,by simp,fun i f k av=>by simp at av⟩⟩
   rw [List.drop_eq_nil_of_le (by omega)]
   rfl
 | f::b2,m::ms,o,bU,cs,aA,ai,jR,ag=>by
   simp only [u4] at aA
   by_cases av:f.offset=o
   · rw [if_pos av] at aA
     obtain ⟨g1,g2⟩:=LJ n b2 ms (o+P.cellsOf f.type) bU cs aA ai (by simpa using jR) (fun i f k au aC=>ag (i+1) f k (by simpa using au) (by simpa using aC))
     refine ⟨by omega,fun E h s=>?_⟩
     have r4:=ag 0 f m rfl rfl
     obtain ⟨eA,aa,ad,bJ,a2,a3,a4,a5,h5⟩:=r4 E h s
     obtain ⟨bX,ae,us,ct,cf,gx,j',kH,rb⟩:=g2 eA aa a3
     have o3:ad.length=P.cellsOf f.type:=by rw [a5,List.length_take,List.length_drop,av];omega
     refine ⟨bX,ae,ad++us,bJ.trans ct,a2.trans cf,gx,?_,?_,?_⟩
     · have e:cs.drop o=(cs.drop f.offset).take (P.cellsOf f.type)++cs.drop (o+P.cellsOf f.type):=by
        rw [av,←List.drop_drop,List.take_append_drop]
       rw [e]
       exact a7.append (NC ct a4) j'
     · rw [List.length_append,o3,kH]
       omega
     · intro i g k aE ax
       cases i with
       | zero=>
         simp only [List.getElem?_cons_zero,Option.some.injEq] at aE ax
         subst aE ax
         refine ⟨by omega,?_⟩
         rw [av,Nat.sub_self,List.drop_zero,List.take_left' o3]
         exact da.ext cf _ _ _ _ h5
       | succ i=>
         obtain ⟨bE,bR⟩:=rb i g k (by simpa using aE) (by simpa using ax)
         refine ⟨by omega,?_⟩
         rw [show g.offset-o=P.cellsOf f.type + (g.offset - (o+P.cellsOf f.type)) from by omega,←List.drop_drop,List.drop_left' o3]
         exact bR
   · rw [if_neg av] at aA
     cases aA
theorem IK {w:World} {a:Addr} {y:Value} (h:w.cell? a=some y):a.spot=none∧∃c el bK,w.heap[a.block]? =some (.cells c el bK)∧c[a.off]? =some y:=by
 refine ⟨World.cell?_spot h,?_⟩
 unfold World.cell? at h
 split at h
 · rename_i c el bK bc
   split at h
   · cases h
   · exact ⟨c,el,bK,bc,h⟩
 · cases h
theorem Qf (a:Addr) (n:Nat):(a.add n).block=a.block:=by unfold Addr.add;split<;>rfl
theorem Qg (a:Addr) (n:Nat):(a.add n).off=a.off+n:=by unfold Addr.add;split<;>simp_all
theorem adt {w:World} {a:Addr} {l:List Value} (a_:0<l.length) (h:∀i,i<l.length→w.cell? (a.add i)=l[i]?):
 a.spot=none∧∃c el bK,w.heap[a.block]? =some (.cells c el bK)∧a.off+l.length≤c.size∧∀i,i<l.length→c[a.off+i]? =l[i]? :=by
 have tI:w.cell? (a.add 0)=some l[0]:=by rw [h 0 a_];exact List.getElem?_eq_getElem a_
 obtain ⟨s1,c,el,bK,s2,j6⟩:=IK tI
 have cz:a.add 0=a:=by unfold Addr.add;simp
 rw [cz] at s1 s2 j6
 have key:∀i,i<l.length→c[a.off+i]? =l[i]? :=by
  intro i aD
  have q:=h i aD
  rw [List.getElem?_eq_getElem aD] at q ⊢
  obtain ⟨_,gf,afO,afR,t2,t3⟩:=IK q
  rw [Qf,s2] at t2
  rw [Qg] at t3
  simp only [Option.some.injEq,Obj.cells.injEq] at t2
  obtain ⟨rfl,_,_⟩:=t2
  exact t3
 refine ⟨s1,c,el,bK,s2,?_,key⟩
 have:=key (l.length-1) (by omega)
 rw [List.getElem?_eq_getElem (by omega)] at this
 have aP:=(Array.getElem?_eq_some_iff.1 this).1
 omega
theorem OK {E:Env} {h:af} (s:aY ⟨W,fun _=>none⟩ E h W) {a:Addr} {cap:Nat} {l:List Value} (a_:0<l.length) (aF:∀i,i<l.length→W.cell? (a.add i)=l[i]?) {us:List V} (aG:a7 E us l):
 ∃ao ab b,E.le ao∧Ext h ab∧aY ⟨W,fun _=>none⟩ ao ab W∧Old ab b∧a.spot=none∧ao b=some ⟨a.block,a.off,cap⟩∧Rd ab b us:=by
 obtain ⟨s1,c,el,bK,s2,j6,uX⟩:=adt a_ aF
 have K0:us.length=l.length:=(a7.length aG).symm
 refine ⟨oi E h ⟨a.block,a.off,cap⟩,h.new (.ro us),aq h.next,Hb s _,(Ext.refl h).new _,adW s s2 (by omega) fun i v y bn aZ=>?_,Mz,s1,OJ _ _ _,.inl (lk _)⟩
 have aD:i<l.length:=by
  have:=(List.getElem?_eq_some_iff.1 bn).1
  omega
 rw [uX i aD] at aZ
 obtain ⟨sQ,aN,bf⟩:=a7.get aG i v bn
 rw [aZ] at aN
 simp only [Option.some.injEq] at aN
 rw [aN]
 exact bf
theorem JP {α:Type} (size:Nat):∀(pieces:List (List α)) (i j:Nat),(∀l ∈ pieces,l.length=size)→i<pieces.length→j<size→pieces.flatten[i * size+j]? =(pieces[i]?).bind (·[j]?)
 | [],i,j,_,aD,_=>by simp at aD
 | l::ls,i,j,ag,aD,bB=>by
   have ai:l.length=size:=ag l (by simp)
   cases i with
   | zero=>
     rw [Nat.zero_mul,Nat.zero_add,List.flatten_cons,List.getElem?_append_left (by omega)]
     simp
   | succ i=>
     rw [List.flatten_cons,List.getElem?_append_right (by rw [ai,Nat.add_mul];omega)]
     rw [show (i+1) * size+j-l.length=i * size+j from by rw [ai,Nat.add_mul];omega]
     rw [JP size ls i j (fun l ai=>ag l (by simp [ai])) (by simpa using aD) bB]
     simp
theorem JQ {α:Type} (size:Nat):∀(pieces:List (List α)),(∀l ∈ pieces,l.length=size)→pieces.flatten.length=pieces.length * size
 | [],_=>by simp
 | l::ls,ag=>by
   rw [List.flatten_cons,List.length_append,JQ size ls (fun l ai=>ag l (by simp [ai])),ag l (by simp),List.length_cons,Nat.add_mul]
   omega
theorem MU {α:Type} (R:Nat→α→Prop):∀(len:Nat),(∀i,i<len→∃l,R i l)→∃ba:List α,ba.length=len∧∀i l,ba[i]? =some l→R i l
 | 0,_=>⟨[],rfl,fun i l q=>by simp at q⟩
 | m+1,h=>by
   obtain ⟨ba,au,aC⟩:=MU R m (fun i aD=>h i (by omega))
   obtain ⟨l,aa⟩:=h m (by omega)
   refine ⟨ba++[l],by simp [au],fun i dD fC=>?_⟩
   by_cases aD:i<ba.length
   · rw [List.getElem?_append_left aD] at fC
     exact aC i dD fC
   · rw [List.getElem?_append_right (by omega)] at fC
     have cz:i-ba.length=0:=by
      by_cases q:i-ba.length=0
      · exact q
      · rw [List.getElem?_eq_none (by simp;omega)] at fC
        cases fC
     rw [cz] at fC
     simp at fC
     subst fC
     obtain rfl:i=m:=by omega
     exact aa
theorem z1 (dr:sJ P=true) (dW:laidOutB P=true):∀(n:Nat) (t:TypeId) (cs:List Value) (x:DataW H × List MemPlace),t<P.types.size→DataW.trod enc P W base sp held n t cs=some x→Lays P W n (e2 x.1) t cs
 | 0,t,cs,x,_,h=>by simp [DataW.trod] at h
 | n+1,t,cs,x,aP,h=>by
   have yt:∀(cs:List Value),(∀ab ad,ad.length=cs.length→da P ab (n+1) (e2 x.1) t ad)→Lays P W (n+1) (e2 x.1) t cs:=by
    intro cs H E h s
    refine ⟨E,h,cs.map fun _=>.bad,fun _ _ q=>q,Ext.refl h,s,?_,by simp,H _ _ (by simp)⟩
    clear H
    induction cs with
    | nil=>rfl
    | cons c cs bh=>exact ⟨c,cs,rfl,by simp [Rel],bh⟩
   cases hu:P.underlying t with
   | none=>
     refine yt cs fun ab ad _=>?_
     simp only [da,hu]
   | some u=>
     cases u with
     | bool=>
       obtain ⟨b,rfl,_⟩:=DataW.trod_bool hu h
       intro E h s
       exact ⟨E,h,[.bool b],fun _ _ q=>q,Ext.refl h,s,⟨_,_,rfl,rfl,rfl⟩,rfl,by simp only [da,hu];exact ⟨b,rfl⟩⟩
     | int k=>
       obtain ⟨i,rfl,_,hw⟩:=DataW.trod_int hu h
       intro E h s
       exact ⟨E,h,[.int k i],fun _ _ q=>q,Ext.refl h,s,⟨_,_,rfl,rfl,rfl⟩,rfl,by simp only [da,hu];exact ⟨i,rfl,hw⟩⟩
     | string=>
       obtain ⟨b,rfl,rfl,_⟩:=DataW.trod_string hu h
       intro E h s
       exact ⟨E,h,[.str b.data.toList],fun _ _ q=>q,Ext.refl h,s,⟨_,_,rfl,rfl,rfl⟩,rfl,by simp only [da,hu,e2];exact ⟨_,rfl,Nat.le_refl _⟩⟩
     | struct b2=>
       obtain ⟨xs,gF,aV,rfl,ai,uj,av⟩:=DataW.trod_struct hu h
       obtain rfl:n=gF:=by omega
       have XZ:u4 P b2.toList 0=some (P.cellsOf t):=by
        unfold sJ at dr
        rw [List.all_eq_true] at dr
        have:=dr t (List.mem_range.2 aP)
        rw [hu] at this
        exact of_decide_eq_true this
       have lW:∀(i:Nat) (f:Field) (k:Nat),b2.toList[i]? =some f→(xs.map fun x=>e2 x.1)[i]? =some k→Lays P W n k f.type ((cs.drop f.offset).take (P.cellsOf f.type)):=by
        intro i f k aD ax
        have lV:f ∈ b2.toList:=List.mem_of_getElem? aD
        have rS:b2[i]? =some f:=by simpa using aD
        have:=av i f rS
        have Kz:i<xs.length:=by
         rw [uj]
         exact (Array.getElem?_eq_some_iff.1 rS).1
        rw [List.getElem?_eq_getElem Kz] at this
        rw [List.getElem?_map,List.getElem?_eq_getElem Kz,Option.map_some,Option.some.injEq] at ax
        subst ax
        exact z1 dr dW n _ _ _ ((kid_struct dW aP hu).1 f lV) this
       intro E h s
       obtain ⟨_,g⟩:=LJ n b2.toList (xs.map fun x=>e2 x.1) 0 _ cs XZ ai (by simp [uj]) lW
       obtain ⟨ao,ab,ad,bJ,a2,a3,a4,a5,h5⟩:=g E h s
       refine ⟨ao,ab,ad,bJ,a2,a3,by simpa using a4,by rw [a5,ai];omega,?_⟩
       simp only [da,hu]
       refine ⟨by omega,xs.map fun x=>e2 x.1,by simp [uj],?_,fun i f k lV ax=>⟨?_,by simpa using (h5 i f k lV ax).2⟩⟩
       · simp only [e2,Cd,List.map_map]
         exact Nat.le_refl _
       · rw [List.getElem?_map,Option.map_eq_some_iff] at ax
         obtain ⟨y,_,rfl⟩:=ax
         exact oH _
     | slice e=>
       rcases DataW.trod_slice hu h with ⟨rfl,rfl⟩ | ⟨a,len,cap,elems,rest,gF,aV,rfl,rfl,ah,oW,_,Kn,W0,_,_⟩
       · intro E h s
         exact ⟨E,h,[.b6],fun _ _ q=>q,Ext.refl h,s,⟨_,_,rfl,rfl,rfl⟩,rfl,by simp only [da,hu];exact ⟨oH _,.inl trivial⟩⟩
       · obtain rfl:n=gF:=by omega
         by_cases aQ:P.cellsOf e=0
         · refine yt _ fun ab ad _=>?_
           simp only [da,hu]
           exact ⟨oH _,.inr (.inr (.inl aQ))⟩
         by_cases mM:len=0
         · subst mM
           intro E h s
           refine ⟨E,h,[.gT .z 0 0 0],fun _ _ q=>q,Ext.refl h,s,⟨_,_,rfl,?_,rfl⟩,rfl,by simp only [da,hu];exact ⟨oH _,.inr (.inl ⟨_,_,_,_,rfl⟩)⟩⟩
           simp only [Rel]
           exact ⟨_,_,rfl⟩
         · -- its elements
           have hP:∀i,i<len→∃l,W.cells? base (a.add (i * P.cellsOf e)) (P.cellsOf e)=some l∧∀k:Nat,(elems.map fun x=>e2 x.1)[i]? =some k→Lays P W n k e l:=by
            intro i aD
            have:=W0 i aD
            rw [List.getElem?_eq_getElem (by omega)] at this
            rw [Option.bind_eq_some_iff] at this
            obtain ⟨l,aa,ae⟩:=this
            refine ⟨l,aa,fun k ax=>?_⟩
            rw [List.getElem?_map,List.getElem?_eq_getElem (by omega),Option.map_some,Option.some.injEq] at ax
            subst ax
            exact z1 dr dW n _ _ _ (kid_slice dW aP hu) ae
           obtain ⟨pieces,hn,gR⟩:∃pieces:List (List Value),pieces.length=len∧∀i (l:List Value),pieces[i]? =some l→W.cells? base (a.add (i * P.cellsOf e)) (P.cellsOf e)=some l∧∀k:Nat,(elems.map fun x=>e2 x.1)[i]? =some k→Lays P W n k e l:=by
            exact MU (fun i l=>W.cells? base (a.add (i * P.cellsOf e)) (P.cellsOf e)=some l∧∀k:Nat,(elems.map fun x=>e2 x.1)[i]? =some k→Lays P W n k e l) len hP
           have hD:∀(i:Nat) (l:List Value) (k:Nat),pieces[i]? =some l→(elems.map fun x=>e2 x.1)[i]? =some k→l.length=P.cellsOf e∧Lays P W n k e l:=by
            intro i l k aD ax
            obtain ⟨au,aC⟩:=gR i l aD
            exact ⟨(yG au).1,aC k ax⟩
           have KM:∀l ∈ pieces,l.length=P.cellsOf e:=by
            intro l ai
            obtain ⟨i,aD⟩:=List.getElem?_of_mem ai
            exact (yG (gR i l aD).1).1
           intro E h s
           obtain ⟨eA,aa,us,bJ,a2,a3,a4,a5,h5⟩:=LK n (P.cellsOf e) e pieces (elems.map fun x=>e2 x.1) (by simp [Kn,hn]) hD E h s
           have lW:=JQ (P.cellsOf e) pieces KM
           have wL:0<len * P.cellsOf e:=Nat.mul_pos (by omega) (by omega)
           have rK:∀i,i<pieces.flatten.length→W.cell? (a.add i)=pieces.flatten[i]? :=by
            intro q az
            rw [lW] at az
            have KF:q % P.cellsOf e<P.cellsOf e:=Nat.mod_lt _ (by omega)
            have hdiv:q / P.cellsOf e<pieces.length:=Nat.div_lt_of_lt_mul (by rw [Nat.mul_comm];exact az)
            have tZ:q / P.cellsOf e * P.cellsOf e+q % P.cellsOf e=q:=by rw [Nat.mul_comm];exact Nat.div_add_mod q _
            rw [←tZ,JP (P.cellsOf e) pieces _ _ KM hdiv KF,List.getElem?_eq_getElem hdiv]
            obtain ⟨au,_⟩:=gR _ _ (List.getElem?_eq_getElem hdiv)
            have:=(yG au).2 _ KF
            rw [Option.bind_some,←this]
            congr 1
            unfold Addr.add
            by_cases cj:q / P.cellsOf e * P.cellsOf e=0
            · rw [cj];simp
            · by_cases z2:q % P.cellsOf e=0
              · rw [z2];simp
              · have z3:¬(q / P.cellsOf e * P.cellsOf e+q % P.cellsOf e=0):=by omega
                rw [if_neg cj,if_neg z2,if_neg z3]
                simp [Nat.add_assoc]
           obtain ⟨bX,ae,b,ct,cf,gx,j',kH,rb,B'⟩:=OK a3 (cap:=cap) (by rw [lW,hn];exact wL) rK a4
           refine ⟨bX,ae,[.slice b 0 len cap],bJ.trans ct,a2.trans cf,gx,⟨_,_,rfl,?_,rfl⟩,rfl,?_⟩
           · simp only [Rel]
             refine ⟨_,rb,oW,?_⟩
             obtain ⟨QS,abW,st⟩:=a
             simp only at kH
             subst kH
             rfl
           · simp only [da,hu]
             refine ⟨oH _,.inr (.inr (.inr ⟨b,len,cap,rfl,by omega,oW,j',us,B',by rw [a5,hn],elems.map fun x=>e2 x.1,by simp [Kn],?_,fun i k ax=>⟨?_,da.ext cf _ _ _ _ (h5 i k ax)⟩⟩))⟩
             · simp only [e2,Cd,List.map_map]
               exact Nat.add_le_add_right (Nat.le_add_right _ _) 1
             · rw [List.getElem?_map,Option.map_eq_some_iff] at ax
               obtain ⟨y,_,rfl⟩:=ax
               exact oH _
     | pointer e=>
       rcases DataW.trod_pointer hu h with ⟨rfl,rfl⟩ | ⟨a,rj,y,gF,aV,rfl,rfl,aF,aZ⟩
       · intro E h s
         exact ⟨E,h,[.lC],fun _ _ q=>q,Ext.refl h,s,⟨_,_,rfl,rfl,rfl⟩,rfl,by simp only [da,hu];exact ⟨oH _,.inl trivial⟩⟩
       · obtain rfl:n=gF:=by omega
         by_cases aQ:P.cellsOf e=0
         · refine yt _ fun ab ad _=>?_
           simp only [da,hu]
           exact ⟨oH _,.inr (.inl aQ)⟩
         · intro E h s
           obtain ⟨au,aC⟩:=yG aF
           obtain ⟨eA,aa,us,bJ,a2,a3,a4,a5,h5⟩:=z1 dr dW n _ _ _ (kid_pointer dW aP hu) aZ E h s
           obtain ⟨bX,ae,b,ct,cf,gx,j',kH,rb,B'⟩:=OK a3 (cap:=0) (by omega) (fun i aD=>aC i (by omega)) a4
           refine ⟨bX,ae,[.ptr b 0],bJ.trans ct,a2.trans cf,gx,⟨_,_,rfl,?_,rfl⟩,rfl,?_⟩
           · simp only [Rel]
             refine ⟨_,rb,?_⟩
             obtain ⟨QS,abW,st⟩:=a
             simp only at kH
             subst kH
             rfl
           · simp only [da,hu]
             exact ⟨oH _,.inr (.inr ⟨b,rfl,j',us,B',by omega,_,Nat.le_refl _,da.ext cf _ _ _ _ h5⟩)⟩
     | map k e=>
       have eW:cs.length=1:=by
        unfold DataW.trod at h
        rw [hu] at h
        split at h<;>simp_all
       intro E h s
       refine ⟨E,h,[.bad],fun _ _ q=>q,Ext.refl h,s,?_,by simp [eW],by simp only [da,hu];exact .inr trivial⟩
       match cs,eW with
       | [c],_=>exact ⟨c,[],rfl,by simp [Rel],rfl⟩
     | interface ms=>
       have eW:cs.length=1:=by
        unfold DataW.trod at h
        rw [hu] at h
        split at h<;>simp_all
       intro E h s
       refine ⟨E,h,[.bad],fun _ _ q=>q,Ext.refl h,s,?_,by simp [eW],by simp only [da,hu];exact .inr trivial⟩
       match cs,eW with
       | [c],_=>exact ⟨c,[],rfl,by simp [Rel],rfl⟩
     | _=>
       refine yt cs fun ab ad _=>?_
       simp only [da,hu]
def lJ (P:Program) (h:af) (n m:Nat) (t:TypeId) (v:V):Prop:=
 match P.underlying t with
 | some (.struct _) | some (.array _ _)=>∃ad,v=.agg ad∧da P h n m t ad
 | _=>da P h n m t [v]
theorem lJ.ext {h ab:af} (e:Ext h ab) {n m:Nat} {t:TypeId} {v:V} (H:lJ P h n m t v):lJ P ab n m t v:=by
 unfold lJ at H ⊢
 split at H
 · obtain ⟨ad,au,aC⟩:=H
   exact ⟨ad,au,da.ext e _ _ _ _ aC⟩
 · obtain ⟨ad,au,aC⟩:=H
   exact ⟨ad,au,da.ext e _ _ _ _ aC⟩
 · exact da.ext e _ _ _ _ H
theorem aaP (dr:sJ P=true) (dW:laidOutB P=true) {r:Reach} {ra:Nat} {t:TypeId} {v:Value} {d:DataW H} {p:List MemPlace} (aP:t<P.types.size) (bu:Value.okWide P W r ra t v) (a1:DataW.Trod enc P W base sp held t v d p) {E:Env} {h:af} (s:aY ⟨W,fun _=>none⟩ E h W):
 ∃n ao ab x,E.le ao∧Ext h ab∧aY ⟨W,fun _=>none⟩ ao ab W∧Rel ao x v∧lJ P ab n (e2 d) t x:=by
 obtain ⟨fuel,av⟩:=a1
 obtain ⟨ao,ab,ad,bJ,a2,a3,a4,a5,h5⟩:=z1 dr dW _ _ _ _ aP av E h s
 have agg:(∃cs,v=.agg cs)→∃x,Rel ao x v∧x=.agg ad:=by
  rintro ⟨cs,rfl⟩
  exact ⟨.agg ad,by simp only [Rel];exact ⟨cs,rfl,a4⟩,rfl⟩
 have one:v.cells=#[v]→∃x,Rel ao x v∧ad=[x]:=by
  intro aF
  rw [aF] at a4 a5
  match ad,a4,a5 with
  | [x],⟨y,cu,aN,bf,bT⟩,_=>
    simp only [List.cons.injEq] at aN
    exact ⟨x,aN.1 ▸ bf,rfl⟩
 refine ⟨fuel,ao,ab,?_⟩
 unfold Value.okWide at bu
 cases hu:P.underlying t with
 | none=>
   rw [hu] at bu
   simp only [Cell.okWide,Cell.ok,hu] at bu
 | some u=>
   rw [hu] at bu
   unfold lJ
   rw [hu]
   cases u<;>simp only at bu ⊢<;>first
    | (obtain ⟨cs,bn,_⟩:=bu
       obtain ⟨x,au,aC⟩:=agg ⟨cs,bn⟩
       exact ⟨x,bJ,a2,a3,au,ad,aC,h5⟩)
    | (have aF:v.cells=#[v]:=by
        cases v<;>first
         | rfl
         | (simp only [Cell.okWide,Cell.ok,hu] at bu)
       obtain ⟨x,au,aC⟩:=one aF
       exact ⟨x,bJ,a2,a3,au,aC ▸ h5⟩)
def lb (P:Program) (h:af):Nat→List TypeId→List V→Prop
 | _,[],[]=>True
 | m,t::cg,v::ad=>∃k bp,k+bp≤m∧(∃n,lJ P h n k t v)∧lb P h bp cg ad
 | _,_,_=>False
theorem lb.mono {h:af}:∀{m cX:Nat} {cg:List TypeId} {ad:List V},m≤cX→lb P h m cg ad→lb P h cX cg ad
 | _,_,[],[],_,H=>by unfold lb;trivial
 | _,_,[],_::_,_,H=>H.elim
 | _,_,_::_,[],_,H=>H.elim
 | _,_,_::_,_::_,hm,⟨k,bp,ax,H,jC⟩=>⟨k,bp,Nat.le_trans ax hm,H,jC⟩
theorem LI (dr:sJ P=true) (dW:laidOutB P=true) {r:Reach} {ra:Nat}:∀{cg:List TypeId} {ad:List Value} {ds:List (DataW H)} {p:List MemPlace},(∀t ∈ cg,t<P.types.size)→(∀(j:Nat) t v,cg[j]? =some t→ad[j]? =some v→Value.okWide P W r ra t v)→
 DataW.TrodAll enc P W base sp held cg ad ds p→∀{E:Env} {h:af},aY ⟨W,fun _=>none⟩ E h W→∃ao ab xs,E.le ao∧Ext h ab∧aY ⟨W,fun _=>none⟩ ao ab W∧a7 ao xs ad∧lb P ab (j_ ds) cg xs
 | [],[],ds,p,_,_,_,E,h,s=>⟨E,h,[],fun _ _ q=>q,Ext.refl h,s,rfl,by unfold lb;trivial⟩
 | [],_::_,ds,p,_,_,a1,E,h,s=>by cases ds<;>exact a1.elim
 | _::_,[],ds,p,_,_,a1,E,h,s=>by cases ds<;>exact a1.elim
 | _::_,_::_,[],p,_,_,a1,E,h,s=>a1.elim
 | t::cg,v::ad,d::ds,p,aA,bn,⟨bW,b3,aa,ae,_⟩,E,h,s=>by
   obtain ⟨n,eA,g1,x,bJ,a2,a3,a4,a5⟩:=aaP dr dW (aA t (by simp)) (bn 0 t v rfl rfl) aa s
   obtain ⟨bX,g2,xs,ct,cf,gx,j',kH⟩:=LI dr dW (fun t q=>aA t (by simp [q])) (fun j t v au aC=>bn (j+1) t v (by simpa using au) (by simpa using aC)) ae a3
   exact ⟨bX,g2,x::xs,bJ.trans ct,a2.trans cf,gx,⟨_,_,rfl,Rel.mono ct _ _ a4,j'⟩,e2 d,j_ ds,by simp only [j_];exact Nat.le_refl _,⟨n,a5.ext cf⟩,kH⟩
theorem TO (dr:sJ P=true) (dW:laidOutB P=true) {r:Reach} {ra:Nat} {f:FuncId} {cg:List TypeId} {ad:List Value} {ds:List (DataW H)} {p:List MemPlace} (eN:∀t ∈ cg,t<P.types.size) (bn:∀(j:Nat) t v,cg[j]? =some t→ad[j]? =some v→Value.okWide P W r ra t v)
 (a1:DataW.TrodAll enc P W base sp held cg ad ds p) (tH:Lay.ok W) (bx:ea P) (ah:∃fn,P.funcs[f]? =some fn∧fn.body.isSome=true) (aF:∀(h:af) (xs:List V),lb P h (j_ ds) cg xs→bI P f xs h fun y _=>y=.bool true):
 Calls P f ad.toArray W fun e aj=>e=.returned (.bool true)∧Below W.heap.size W aj:=by
 obtain ⟨E,h,xs,_,_,a3,a4,a5⟩:=LI dr dW eN bn a1 (N3 W tH)
 obtain ⟨y,ab,mJ,rfl⟩:=aF h xs a5
 refine (mJ.calls bx ah _ E W ad a4 a3).mono fun e aj q=>?_
 obtain ⟨ao,x,rfl,_,aC,aM⟩:=q
 simp only [Rel] at aC
 subst aC
 exact ⟨rfl,aM.frame⟩
end
end Go.Proofs.YthemdhlheglhoaaGreatDoor.a6
