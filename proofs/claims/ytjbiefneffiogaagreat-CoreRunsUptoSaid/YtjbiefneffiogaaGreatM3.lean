/- The abstract machine and its walks (a verified interpreter of the model's code: plain definitions and lemmas, no condition). Printed by a program from longer texts: names made short. -/
import Derived.Test.YtjbiefneffiogaaGreatM2
set_option linter.unusedSectionVars false
set_option linter.unusedSimpArgs false
set_option linter.unusedVariables false
namespace Go.Proofs.YtjbiefneffiogaaGreat.bA
variable [Lay]
open Go Go.RowKit
def wP {α:Type} (o:Option α) (k:α→Prop):Prop:=
 match o with
 | some v=>k v
 | none=>False
@[congr] theorem aiW {α:Type} {o dP:Option α} {k:α→Prop} (h:o=dP):wP o k=wP dP k:=by rw [h]
def V.opt (c:Bool) (v:V):V:=bif c then v else .tuple []
theorem adF (v:V):V.opt true v=v:=(rfl)
theorem adC (v:V):V.opt false v=.tuple []:=(rfl)
@[congr] theorem aiM {c nQ:Bool} {v dg:V} (h:c=nQ) (bk:nQ=true→v=dg):V.opt c v=V.opt nQ dg:=by
 subst h
 cases c with
 | true=>rw [bk rfl]
 | false=>rfl
def V.bif (t:Bool) (a b:V):V:=bif t then a else b
theorem agX (a b:V):V.bif true a b=a:=(rfl)
theorem agW (a b:V):V.bif false a b=b:=(rfl)
theorem Tj (t a b:Bool):V.bif t (.bool a) (.bool b)=.bool (bif t then a else b):=by cases t<;>rfl
theorem Tk (t:Bool) (k:IntKind) (a b:Int):V.bif t (.int k a) (.int k b)=.int k (if t=true then a else b):=by cases t<;>rfl
theorem Tm (t x:Bool):(bif t then true else x)=(t||x):=by cases t<;>rfl
theorem Ti (t x:Bool):(bif t then x else false)=(t&&x):=by cases t<;>rfl
@[congr] theorem ahM {t ps:Bool} {a cI b b1:V} (h:t=ps) (bU:ps=true→a=cI) (ah:ps=false→b=b1):V.bif t a b=V.bif ps cI b1:=by
 subst h
 cases t with
 | true=>rw [V.bif,V.bif,bU rfl];rfl
 | false=>rw [V.bif,V.bif,ah rfl];rfl
def gL (c:Bool) (A:Prop):Prop:=c=true→A
@[congr] theorem ahH {c nQ:Bool} {A Jl:Prop} (h:c=nQ) (bU:nQ=true→A=Jl):gL c A=gL nQ Jl:=by
 subst h
 exact propext ⟨fun q e=>(bU e) ▸ q e,fun q e=>(bU e) ▸ q e⟩
theorem R_ (c:Bool):gL c True=True:=propext ⟨fun _=>trivial,fun _ _=>trivial⟩
theorem Sb (A:Prop):gL true A=A:=propext ⟨fun q=>q rfl,fun q _=>q⟩
theorem Sa (A:Prop):gL false A=True:=propext ⟨fun _=>trivial,fun _ e=>by cases e⟩
def dK (v:V) (want:Bool):Bool:=
 match v with
 | .bool b=>b == want
 | _=>false
theorem agC (b w:Bool):dK (.bool b) w=(b == w):=(rfl)
theorem agE (ai:List V) (w:Bool):dK (.tuple ai) w=false:=(rfl)
theorem agD (c:Bool) (v:V) (w:Bool):dK (.opt c v) w=(c&&dK v w):=by cases c<;>rfl
def g4 (v:V):Prop:=
 match v with
 | .bool _=>True
 | .tuple _=>True
 | _=>False
theorem ZV (b:Bool):g4 (.bool b)=True:=(rfl)
theorem ZX (ai:List V):g4 (.tuple ai)=True:=(rfl)
theorem ZW (c b:Bool):g4 (.opt c (.bool b))=True:=by cases c<;>rfl
def G.pZ:G→Bool
 | .gQ _ | .pick .. | .build .. | .b9 _ | .gl .. | .s8 _ | .bin .. | .un .. | .fn .. | .vY .. | .uR .. | .g_ .. | .c2 .. | .vk .. | .vl .. | .b_ .. | .sX .. | .ux .. | .jh .. | .look .. | .ext .. | .gH _ | .fE _=>true
 | .jD (.int _) _=>true
 | .len .map _=>false
 | .len _ _=>true
 | _=>false
def V.s_ {α:Type} (v:V) (d:α) (f:List V→α):α:=
 match v with
 | .agg cs=>f cs
 | _=>d
def V.AK {α:Type} (v:V) (d:α) (f:List V→α):α:=
 match v with
 | .tuple cs=>f cs
 | _=>d
def AT (c a b:V):Option V:=
 match c with
 | .bool t=>some (V.bif t a b)
 | _=>none
theorem adV (t:Bool) (a b:V):AT (.bool t) a b=some (V.bif t a b):=(rfl)
def gV (n:Nat) (x:V) (cq aG fY:Option V):Option V:=
 match x with
 | .ay=>wK cq aG fY
 | .slice b off wj cap=>p_ n b off wj cap cq aG fY
 | .ev b off wj idx=>pr n b off wj idx cq aG fY
 | .ia b off o_ idx=>yp b off o_ idx cq aG fY
 | _=>none
noncomputable def G.m9 (P:Program) (g:G) (r:bV) (h:aj):Option V:=
 match g with
 | .gQ x=>some (x.bu r)
 | .pick c a b=>AT (c.bu r) (a.bu r) (b.bu r)
 | .build z ct=>(match j6 z (lD r ct) with
   | some cs=>some (.agg cs)
   | none=>none)
 | .b9 x=>o8 h (x.bu r)
 | .gl n x=>o7 n h (x.bu r)
 | .s8 x=>uE (x.bu r)
 | .bin k x y=>k.run P (x.bu r) (y.bu r)
 | .un op x=>r_ op (x.bu r)
 | .jD (.int k) x=>(x.bu r).eX none fun _ n=>some (.int k (k.wrap n))
 | .fn f k2=>some (.func f (bs.h7 r k2))
 | .vY t x=>some (.iface t (x.bu r))
 | .uR x cq aG fY=>mx (x.bu r) (bs.opt r cq) (bs.opt r aG) (bs.opt r fY)
 | .g_ n x cq aG fY=>gV n (x.bu r) (bs.opt r cq) (bs.opt r aG) (bs.opt r fY)
 | .c2 off x=>(x.bu r).oe none fun b o=>some (.ptr b (o+off))
 | .vk off x=>(x.bu r).s_ none fun cs=>cs[off]?
 | .vl off n x=>(x.bu r).s_ none fun cs=>some (.agg ((cs.drop off).take n))
 | .b_ n x i=>(v8 n).run (x.bu r) (i.bu r)
 | .sX n s x i=>(sZ n s).run (x.bu r) (i.bu r)
 | .ux x i=>qK.run (x.bu r) (i.bu r)
 | .jh t x i=>(s0 P t).run (x.bu r) (i.bu r)
 | .look k z ok x i=>ld k.eq z ok h (x.bu r) (i.bu r)
 | .ext x i=>(x.bu r).AK none fun ai=>ai[i]?
 | .len (.arr n) _=>some (.int .i64 n)
 | .len .str x=>(p3 .string).run (x.bu r)
 | .len .slice x=>(p3 (.slice 0)).run (x.bu r)
 | .gH args=>lQ (fun b a=>!Int.leB a b) (bs.h7 r args)
 | .fE args=>lQ (fun b a=>!Int.leB b a) (bs.h7 r args)
 | _=>none
section
variable {P:Program} {r:bV} {h:aj}
theorem pure_run {g:G} (aT:g.pZ=true) (call:gr):g.run P call r h=bH.of h (g.m9 P r h):=by
 cases g<;>simp only [G.pZ] at aT<;>try (cases aT;done)
 all_goals simp only [G.run,G.m9]
 case gQ x=>rfl
 case pick c a b=>
  generalize c.bu r=q
  cases q<;>rfl
 case build z ct=>
  generalize j6 z (lD r ct)=q
  cases q<;>rfl
 case jD k x=>
  cases k<;>simp only at aT<;>try (cases aT;done)
  simp only [tz.run]
  generalize x.bu r=q
  cases q<;>rfl
 case fn f k2=>rfl
 case vY t x=>rfl
 case g_ n x cq aG fY=>
  unfold gV
  generalize x.bu r=q
  cases q<;>rfl
 case vk off x=>
  generalize x.bu r=q
  cases q<;>rfl
 case vl off n x=>
  generalize x.bu r=q
  cases q<;>rfl
 case ext x i=>
  generalize x.bu r=q
  cases q<;>rfl
 case len k x=>
  cases k<;>simp only at aT<;>first | rfl | (cases aT;done)
theorem NP {g:G} (aT:g.pZ=true) {K:V→aj→Prop}:g.wp P r h K=wP (g.m9 P r h) fun v=>K v h:=by
 have e:g.wp P r h K=∃v aa,g.run P od r h=.val v aa∧K v aa:=by
  cases g<;>first | rfl | (simp [G.pZ] at aT;done)
 rw [e,pure_run aT]
 apply propext
 cases bk:g.m9 P r h with
 | none=>exact ⟨fun ⟨v,aa,q,_⟩=>(by cases q),fun q=>q.elim⟩
 | some v=>
   constructor
   · rintro ⟨v1,ae,q,k⟩
     simp only [bH.of,bH.val.injEq] at q
     obtain ⟨rfl,rfl⟩:=q
     exact k
   · intro k
     exact ⟨v,h,rfl,k⟩
theorem PS {d:Option Nat} {g:G} {rs:List Nat} {K:bV→V→aj→Prop} (aT:g.pZ=true):br.wp P ⟨d,g,none,rs⟩ r h K=wP (g.m9 P (r.trim rs) h) fun v=>K (r.set d v) v h:=by
 rw [PR,NP aT]
theorem PQ {d:Option Nat} {g:G} {j:Nat} {want:Bool} {rs:List Nat} {K:bV→V→aj→Prop} (aT:g.pZ=true):br.wp P ⟨d,g,some (j,want),rs⟩ r h K=
 (g4 (r.trim rs j)∧gL (dK (r.trim rs j) want) ((g.m9 P (r.trim rs) h).isSome=true)∧
   K (r.set d (V.opt (dK (r.trim rs j) want) ((g.m9 P (r.trim rs) h).getD .bad))) (V.opt (dK (r.trim rs j) want) ((g.m9 P (r.trim rs) h).getD .bad)) h):=by
 rw [PO,NP aT]
 generalize r.trim rs j=q
 generalize g.m9 P (r.trim rs) h=o
 apply propext
 cases q<;>simp only [gate,g4,dK,false_and,true_and]
 case bool b=>
  cases b<;>cases want<;>cases o<;>simp [wP,gL,V.opt]
 case tuple ai=>simp [gL,V.opt]
@[congr] theorem ai0 {os:List br} {r bT:bV} {h aa:aj} {K:bV→aj→Prop} (aI:r=bT) (bh:h=aa):tv P os r h K=tv P os bT aa K:=by rw [aI,bh]
@[congr] theorem aiY {os:List br} {r bT:bV} {h aa:aj} {K:List hb→bV→aj→Prop} (aI:r=bT) (bh:h=aa):mC P os r h K=mC P os bT aa K:=by rw [aI,bh]
@[congr] theorem ahD {o:br} {r bT:bV} {h aa:aj} {K:bV→V→aj→Prop} (aI:r=bT) (bh:h=aa):o.wp P r h K=o.wp P bT aa K:=by rw [aI,bh]
@[congr] theorem ahF {g:G} {r bT:bV} {h aa:aj} {K:V→aj→Prop} (aI:r=bT) (bh:h=aa):g.wp P r h K=g.wp P bT aa K:=by rw [aI,bh]
@[congr] theorem aiX {c:bE} {r bT:bV} {h aa:aj} {Q:cW→bV→aj→Prop} (aI:r=bT) (bh:h=aa):jk P c r h Q=jk P c bT aa Q:=by rw [aI,bh]
@[congr] theorem ahC {f:FuncId} {a cI:List V} {h aa:aj} {K:V→aj→Prop} (aI:a=cI) (bh:h=aa):bB P f a h K=bB P f cI aa K:=by rw [aI,bh]
noncomputable def hX (k:cT) (off:Nat):Option V:=k.po none fun n cs=>bif Nat.blt off n then some (T.get .bad (ao off) cs) else none
noncomputable def jv (n:Nat) (k:cT) (off:Nat):Option V:=k.po none fun m cs=>bif Nat.ble (off+n) m then some (.agg (ma cs off n)) else none
theorem ack (b:a6) (off:Nat):o8 h (.ptr b off)=hX (h.get b) off:=(rfl)
theorem acm (n:Nat) (b:a6) (off:Nat):o7 n h (.ptr b off)=jv n (h.get b) off:=(rfl)
theorem Pf {ai:List V} {off:Nat}:(bif Nat.blt off ai.length then some (T.get .bad (ao off) (g' .e 0 ai)) else none)=ai[off]? :=by
 have:=Cz ai 0 off .e
 rw [Nat.zero_add] at this
 rw [this]
 by_cases bD:off<ai.length
 · rw [show Nat.blt off ai.length=true from by rw [Nat.blt_eq];exact bD,if_pos bD]
   simp [List.getElem?_eq_getElem bD]
 · rw [show Nat.blt off ai.length=false from by rw [←Bool.not_eq_true,Nat.blt_eq];exact bD]
   rw [List.getElem?_eq_none (by omega)]
   rfl
theorem qN (ai:List V) (c3:Nat) (st:Bool) (off:Nat):hX (.aq ai c3 st) off=ai[off]? :=Pf
theorem Pe (ai:List V) (off:Nat):hX (.ro ai) off=ai[off]? :=Pf
theorem Ph {ai:List V} {off n:Nat}:(bif Nat.ble (off+n) ai.length then some (V.agg (ma (g' .e 0 ai) off n)) else none)=if off+n≤ai.length then some (.agg ((ai.drop off).take n)) else none:=by
 by_cases bD:off+n≤ai.length
 · rw [show Nat.ble (off+n) ai.length=true from by rw [Nat.ble_eq];exact bD,if_pos bD,zD ai n off bD]
   rfl
 · rw [show Nat.ble (off+n) ai.length=false from by rw [←Bool.not_eq_true,Nat.ble_eq];exact bD,if_neg bD]
   rfl
theorem HQ (n:Nat) (ai:List V) (c3:Nat) (st:Bool) (off:Nat):jv n (.aq ai c3 st) off=if off+n≤ai.length then some (.agg ((ai.drop off).take n)) else none:=Ph
theorem Pg (n:Nat) (ai:List V) (off:Nat):jv n (.ro ai) off=if off+n≤ai.length then some (.agg ((ai.drop off).take n)) else none:=Ph
theorem Rd.b9 {b:a6} {ai:List V} (H:Rd h b ai) (off:Nat):hX (h.get b) off=ai[off]? :=by
 rcases H with H | ⟨_,_,H⟩<;>rw [H]
 · exact Pe ai off
 · exact qN ai _ _ off
theorem Rd.gl {b:a6} {ai:List V} (H:Rd h b ai) (n off:Nat):jv n (h.get b) off=if off+n≤ai.length then some (.agg ((ai.drop off).take n)) else none:=by
 rcases H with H | ⟨_,_,H⟩<;>rw [H]
 · exact Pg n ai off
 · exact HQ n ai _ _ off
def fQ:List V→List V→List V
 | ai,[]=>ai
 | [],_::_=>[]
 | _::ai,w::ws=>w::fQ ai ws
def ot:List V→Nat→List V→List V
 | ai,0,ws=>fQ ai ws
 | [],_+1,_=>[]
 | v::ai,n+1,ws=>v::ot ai n ws
theorem P':∀(ai ws:List V),ws.length≤ai.length→fQ ai ws=ws++ai.drop ws.length
 | ai,[],_=>by cases ai<;>rfl
 | [],_::_,h=>by simp at h
 | v::ai,w::ws,h=>by
   simp only [fQ,List.cons_append,List.length_cons,List.drop_succ_cons]
   rw [P' ai ws (by simpa using h)]
theorem yq:∀(ai:List V) (off:Nat) (ws:List V),off+ws.length≤ai.length→ot ai off ws=iL ai off ws
 | ai,0,ws,h=>by
   cases ai<;>simp only [ot,iL,List.take_zero,List.nil_append,Nat.zero_add]<;>exact P' _ ws (by omega)
 | [],n+1,ws,h=>by simp at h
 | v::ai,n+1,ws,h=>by
   simp only [List.length_cons] at h
   simp only [ot,iL]
   rw [yq ai n ws (by omega)]
   simp only [iL,List.take_succ_cons,List.cons_append]
   rw [show n+1+ws.length=n+ws.length+1 from by omega,List.drop_succ_cons]
theorem IZ (ai:List V) (off:Nat) (ws:List V) (h:off+ws.length≤ai.length):(ot ai off ws).length=ai.length:=by
 rw [yq ai off ws h,uS ai off ws h]
noncomputable def qL (n:Nat) (h:aj) (b:a6) (off:Nat) (y:V) (k:cT):Option aj:=
 bif Nat.beq y.cells.length n then k.on none fun m cs c3 st=>
  bif Nat.ble (off+y.cells.length) m&&gh y.cells then some (h.set b (.cells m (g' cs off y.cells) c3 st)) else none else none
theorem agr (n:Nat) (b:a6) (off:Nat) (y:V):A8 n h (.ptr b off) y=qL n h b off y (h.get b):=(rfl)
theorem HN {n:Nat} {b:a6} {off:Nat} {y:V} {ai:List V} {c3:Nat} {st:Bool} (ae:y.cells.length=n) (ak:gh y.cells=true) (aC:off+n≤ai.length):
 qL n h b off y (.aq ai c3 st)=some (h.set b (.aq (ot ai off y.cells) c3 st)):=by
 unfold qL
 rw [show Nat.beq y.cells.length n=true from by rw [Nat.beq_eq];exact ae]
 simp only [cond_true,cT.aq,cT.on]
 rw [show Nat.ble (off+y.cells.length) ai.length=true from by rw [Nat.ble_eq,ae];exact aC,ak]
 simp only [Bool.and_true,cond_true,Option.some.injEq]
 rw [IZ ai off _ (by rw [ae];exact aC),yq ai off _ (by rw [ae];exact aC),Is _ ai off (by rw [ae];exact aC)]
theorem gi (k:cT):(h.new k).get (ao h.next)=k:=by rw [aj.eB,if_pos rfl]
theorem eB (b:a6) (k:cT):(h.new k).get b=if ao h.next=b then k else h.get b:=aj.eB h b k
theorem du (b b1:a6) (k:cT):(h.set b k).get b1=if b=b1 then k else h.get b1:=aj.du h b b1 k
def Old (h:aj) (b:a6):Prop:=cu b<h.next
theorem adT:∀b:a6,ao (cu b)=b:=by
 have key:∀(b:a6) (d:Nat),cu b+1<2 ^ d→uL d (cu b)=b:=by
  intro b
  induction b with
  | z=>intro d cc;cases d<;>rfl
  | l p bN=>
    intro d cc
    cases d with
    | zero=>simp [cu] at cc
    | succ d=>
      have ak:2 ^ (d+1)=2 * 2 ^ d:=by rw [Nat.pow_succ];omega
      rw [ak] at cc
      simp only [cu] at cc ⊢
      simp only [uL,pE]
      rw [if_neg (by omega),if_pos (by omega),show (2 * cu p+1) / 2=cu p from by omega,bN d (by omega)]
  | r p bN=>
    intro d cc
    cases d with
    | zero=>simp [cu] at cc
    | succ d=>
      have ak:2 ^ (d+1)=2 * 2 ^ d:=by rw [Nat.pow_succ];omega
      rw [ak] at cc
      simp only [cu] at cc ⊢
      simp only [uL,pE]
      rw [if_neg (by omega),if_neg (by omega),show (2 * cu p+2) / 2-1=cu p from by omega,bN d (by omega)]
 intro b
 exact key b _ Nat.lt_log2_self
theorem gA {b:a6} {i:Nat} (ah:Old h b) (aG:h.next≤i):(ao i=b)=False:=by
 apply propext
 constructor
 · intro e
   unfold Old at ah
   rw [←e,cS] at ah
   omega
 · exact False.elim
theorem uI {k:cT}:Old (h.new k) (ao h.next):=by unfold Old;rw [cS];exact Nat.lt_succ_self _
def Cn (off:Nat) (x:V):Option V:=x.oe none fun b o=>some (.ptr b (o+off))
theorem Wv (off:Nat) (b:a6) (o:Nat):Cn off (.ptr b o)=some (.ptr b (o+off)):=(rfl)
theorem adi {α:Type} (ai:List V) (d:α) (f:List V→α):V.AK (.tuple ai) d f=f ai:=(rfl)
theorem adh {α:Type} (ai:List V) (d:α) (f:List V→α):V.s_ (.agg ai) d f=f ai:=(rfl)
def n_ (x:V):Option V:=(p3 (.slice 0)).run x
theorem ace (b:a6) (off n c:Nat):n_ (.slice b off n c)=some (.int .i64 n):=(rfl)
theorem acb (b:a6) (off n c:Nat):n_ (.ev b off n c)=some (.int .i64 n):=(rfl)
theorem acf (b:a6) (off n c:Nat):n_ (.ia b off n c)=some (.int .i64 0):=(rfl)
theorem acd:n_ .ay=some (.int .i64 0):=(rfl)
def Dd (x:V):Option V:=(p3 .string).run x
theorem acg (s:List UInt8):Dd (.str s)=some (.int .i64 s.length):=(rfl)
def fc (n:Nat) (x i:V):Option V:=(v8 n).run x i
theorem xY (n:Nat) (b:a6) (off len cap:Nat) (k:IntKind) (i:Int):fc n (.slice b off len cap) (.int k i)=if 0≤i∧i<len then some (.ptr b (off+i.toNat * n)) else none:=by
 simp only [fc,v8,V.eX,sY,o5]
 by_cases ae:0≤i<;>by_cases ak:(len:Int)≤i<;>simp [ae,ak]<;>omega
theorem xX (n:Nat) (b:a6) (off len cap:Nat) (k:IntKind) (i:Int):fc n (.ev b off len cap) (.int k i)=if 0≤i∧i<len then some (.ptr b (off+i.toNat * n)) else none:=by
 simp only [fc,v8,V.eX,sY,o5]
 by_cases ae:0≤i<;>by_cases ak:(len:Int)≤i<;>simp [ae,ak]<;>omega
def zq (k:IntKind) (x:V):Option V:=x.eX none fun _ n=>some (.int k (k.wrap n))
theorem Wc (k cf:IntKind) (n:Int):zq k (.int cf n)=some (.int k (k.wrap n)):=(rfl)
end
end Go.Proofs.YtjbiefneffiogaaGreat.bA
namespace Go.Proofs.YtjbiefneffiogaaGreat.bA
variable [Lay]
open Go Go.RowKit
structure lu where
 all:List br
 asks:List (Nat × List Nat)
 es:List hb
def mn (D:Option lu) (r:bV) (h:aj) (v:V):Option lu:=
 match D with
 | none=>none
 | some d=>some ⟨d.all,d.asks,d.es++[⟨r,h,v⟩]⟩
inductive iU where
 | os (D:Option lu) (os:List br)
 | c (b:bE)
 | bb (id:Nat)
section
variable (P:Program)
noncomputable def vd (D:Option lu) (es:List hb) (av:aj):Prop:=
 match D with
 | none=>True
 | some d=>qj P d.all (d.es++es) av d.asks
noncomputable def bR:List iU→cW→bV→aj→(cW→bV→aj→Prop)→Prop
 | [],e,r,h,Q=>Q e r h
 | .os D os::aF,e,r,h,Q=>match e with
   | .normal=>mC P os r h fun es bT aa=>vd P D es aa∧bR aF .normal bT aa Q
   | e=>bR aF e r h Q
 | .c b::aF,e,r,h,Q=>match e with
   | .normal=>jk P b r h fun e bT aa=>bR aF e bT aa Q
   | e=>bR aF e r h Q
 | .bb id::aF,e,r,h,Q=>bR aF (e.leave id) r h Q
noncomputable def eD (o:Option V) (d:Option Nat) (D:Option lu) (os:List br) (aF:List iU) (r:bV) (h:aj) (Q:cW→bV→aj→Prop):Prop:=
 wP o fun v=>bR P (.os (mn D r h v) os::aF) .normal (r.set d v) h Q
noncomputable def kz (o:bH) (d:Option Nat) (D:Option lu) (os:List br) (aF:List iU) (r:bV) (al:aj) (Q:cW→bV→aj→Prop):Prop:=
 match o with
 | .val v h=>bR P (.os (mn D r al v) os::aF) .normal (r.set d v) h Q
 | .fail=>False
noncomputable def iC (v:V) (want:Bool) (d:Option Nat) (g:G) (rs:List Nat) (D:Option lu) (os:List br) (aF:List iU) (r:bV) (h:aj) (Q:cW→bV→aj→Prop):Prop:=
 gate v want (bR P (.os D (⟨d,g,none,rs⟩::os)::aF) .normal r h Q) (bR P (.os (mn D r h (.tuple [])) os::aF) .normal (r.set d (.tuple [])) h Q)
noncomputable def xp (v:V) (a b:bE) (aF:List iU) (r:bV) (h:aj) (Q:cW→bV→aj→Prop):Prop:=
 match v with
 | .bool t=>(t=true→bR P (.c a::aF) .normal r h Q)∧(t=false→bR P (.c b::aF) .normal r h Q)
 | _=>False
noncomputable def sC (f:FuncId) (args:List V) (d:Option Nat) (D:Option lu) (os:List br) (aF:List iU) (r:bV) (h:aj) (Q:cW→bV→aj→Prop):Prop:=
 bB P f args h fun v aa=>bR P (.os (mn D r h v) os::aF) .normal (r.set d v) aa Q
noncomputable def zm (f:V) (args:List V) (d:Option Nat) (D:Option lu) (os:List br) (aF:List iU) (r:bV) (h:aj) (Q:cW→bV→aj→Prop):Prop:=
 ∃g cs,f=.func g cs∧sC P g (args++cs) d D os aF r h Q
noncomputable def uB (b:bE) (aF:List iU) (r:bV) (h:aj) (Q:cW→bV→aj→Prop):Prop:=jk P (.loop b) r h fun e bT aa=>bR P aF e bT aa Q
end
section
variable {P:Program} {r:bV} {h:aj} {Q:cW→bV→aj→Prop} {aF:List iU} {os:List br} {D:Option lu}
theorem ad2 (r:bV) (h:aj) (v:V):mn none r h v=none:=(rfl)
theorem ad3 (all:List br) (asks:List (Nat × List Nat)) (es:List hb) (r:bV) (h:aj) (v:V):mn (some ⟨all,asks,es⟩) r h v=some ⟨all,asks,es++[⟨r,h,v⟩]⟩:=(rfl)
theorem bP {c:bE} (H:bR P [.c c] .normal r h Q):jk P c r h Q:=H
theorem aaR {e:cW}:bR P [] e r h Q=Q e r h:=(rfl)
theorem Z4 {e:cW} {id:Nat}:bR P (.bb id::aF) e r h Q=bR P aF (e.leave id) r h Q:=(rfl)
theorem aaZ {a b:bE}:bR P (.c (.seq a b)::aF) .normal r h Q=bR P (.c a::.c b::aF) .normal r h Q:=by
 simp only [bR]
 rw [Vq]
 congr 1
 funext e bT aa
 cases e<;>rfl
theorem Z5 {id:Nat} {b:bE}:bR P (.c (.block id b)::aF) .normal r h Q=bR P (.c b::.bb id::aF) .normal r h Q:=(rfl)
theorem RW:∀(os:List br) (r:bV) (h:aj) (K:bV→aj→Prop),mC P os r h (fun _ r h=>K r h)=tv P os r h K
 | [],_,_,_=>rfl
 | o::os,r,h,K=>by
   simp only [mC,tv]
   congr 1
   funext bT v aa
   exact RW os bT aa K
theorem aaW {ops:List br}:bR P (.c (.ag ops)::aF) .normal r h Q=bR P (.os none ops::aF) .normal r h Q:=by
 simp only [bR,vd,true_and]
 rw [RW,Vp]
theorem aa0:bR P (.c .skip::aF) .normal r h Q=bR P aF .normal r h Q:=(rfl)
theorem aaX:bR P (.c .ret::aF) .normal r h Q=bR P aF .ret r h Q:=(rfl)
theorem aam {i:Nat}:bR P (.c (.exit i)::aF) .normal r h Q=bR P aF (.exit i) r h Q:=(rfl)
theorem aae {b:bE}:bR P (.c b::aF) .ret r h Q=bR P aF .ret r h Q:=(rfl)
theorem aaa {b:bE} {i:Nat}:bR P (.c b::aF) (.exit i) r h Q=bR P aF (.exit i) r h Q:=(rfl)
theorem aac {c:bs} {a b:bE}:bR P (.c (.cond c a b)::aF) .normal r h Q=xp P (c.bu r) a b aF r h Q:=by
 simp only [bR,jk]
 cases c.bu r<;>rfl
theorem aaH {b:bE}:bR P (.c (.loop b)::aF) .normal r h Q=uB P b aF r h Q:=(rfl)
theorem aak {ops:List br} {asks:List (Nat × List Nat)}:bR P (.c (.draw ops asks)::aF) .normal r h Q=bR P (.os (some ⟨ops,asks,[]⟩) ops::aF) .normal r h Q:=(rfl)
theorem aaU:bR P (.os none []::aF) .normal r h Q=bR P aF .normal r h Q:=by
 simp only [bR,mC,vd,true_and]
theorem aaj {all:List br} {asks:List (Nat × List Nat)} {es:List hb}:bR P (.os (some ⟨all,asks,es⟩) []::aF) .normal r h Q=(qj P all es h asks∧bR P aF .normal r h Q):=by
 simp only [bR,mC,vd,List.append_nil]
theorem xm (D:Option lu) (r:bV) (h:aj) (v:V) (es:List hb) (av:aj):vd P (mn D r h v) es av=vd P D (⟨r,h,v⟩::es) av:=by
 cases D with
 | none=>rfl
 | some d=>simp only [mn,vd,List.append_assoc,List.cons_append,List.nil_append]
theorem iO {d:Option Nat} {g:G} {rs:List Nat} (aT:g.pZ=true):bR P (.os D (⟨d,g,none,rs⟩::os)::aF) .normal r h Q=eD P (g.m9 P (r.trim rs) h) d D os aF r h Q:=by
 simp only [bR,mC,eD]
 rw [PS aT]
 simp only [xm]
theorem iN {d:Option Nat} {g:G} {j:Nat} {want:Bool} {rs:List Nat} (aT:g.pZ=true):bR P (.os D (⟨d,g,some (j,want),rs⟩::os)::aF) .normal r h Q=
 (g4 (r.trim rs j)∧gL (dK (r.trim rs j) want) ((g.m9 P (r.trim rs) h).isSome=true)∧
   eD P (some (V.opt (dK (r.trim rs j) want) ((g.m9 P (r.trim rs) h).getD .bad))) d D os aF r h Q):=by
 simp only [bR,mC,eD,wP]
 rw [PQ aT]
 simp only [xm]
def G.O2:G→Bool
 | .call .. | .rq .. =>true
 | _=>false
theorem m4 {d:Option Nat} {g:G} {rs:List Nat} (aT:g.pZ=false) (aD:g.O2=false):bR P (.os D (⟨d,g,none,rs⟩::os)::aF) .normal r h Q=kz P (g.run P od (r.trim rs) h) d D os aF r h Q:=by
 simp only [bR,mC]
 rw [PR]
 have e:∀K:V→aj→Prop,g.wp P (r.trim rs) h K=∃v aa,g.run P od (r.trim rs) h=.val v aa∧K v aa:=by
  intro K
  cases g<;>first | rfl | (simp [G.O2] at aD;done)
 rw [e]
 unfold kz
 simp only [bR,xm]
 cases g.run P od (r.trim rs) h with
 | fail=>exact propext ⟨fun ⟨v,aa,q,_⟩=>(by cases q),fun q=>q.elim⟩
 | val v1 ae=>
   apply propext
   constructor
   · rintro ⟨v,aa,q,k⟩
     simp only [bH.val.injEq] at q
     obtain ⟨rfl,rfl⟩:=q
     exact k
   · intro k
     exact ⟨_,_,rfl,k⟩
theorem mj {d:Option Nat} {g:G} {j:Nat} {want:Bool} {rs:List Nat} (aT:g.pZ=false):bR P (.os D (⟨d,g,some (j,want),rs⟩::os)::aF) .normal r h Q=iC P (r.trim rs j) want d g rs D os aF r h Q:=by
 simp only [iC,bR,mC,xm]
 rw [PO]
 rfl
theorem Z' {d:Option Nat} {f:FuncId} {args:List bs} {rs:List Nat}:bR P (.os D (⟨d,.call f args,none,rs⟩::os)::aF) .normal r h Q=sC P f (bs.h7 (r.trim rs) args) d D os aF r h Q:=by
 simp only [sC,bR,mC,xm]
 rfl
theorem Z_ {d:Option Nat} {f:bs} {args:List bs} {rs:List Nat}:bR P (.os D (⟨d,.rq f args,none,rs⟩::os)::aF) .normal r h Q=zm P (f.bu (r.trim rs)) (bs.h7 (r.trim rs) args) d D os aF r h Q:=by
 simp only [zm,sC,bR,mC,xm]
 rfl
theorem Vw {g:FuncId} {cs args:List V} {d:Option Nat}:zm P (.func g cs) args d D os aF r h Q=sC P g (args++cs) d D os aF r h Q:=by
 apply propext
 constructor
 · rintro ⟨eI,FJ,q,k⟩
   simp only [V.func.injEq] at q
   obtain ⟨rfl,rfl⟩:=q
   exact k
 · intro k
   exact ⟨_,_,rfl,k⟩
@[congr] theorem aiR {o dP:Option V} {d:Option Nat} (e:o=dP):eD P o d D os aF r h Q=eD P dP d D os aF r h Q:=by rw [e]
@[congr] theorem aiQ {o dP:bH} {d:Option Nat} (e:o=dP):kz P o d D os aF r h Q=kz P dP d D os aF r h Q:=by rw [e]
@[congr] theorem ahU {v dg:V} {a b:bE} (e:v=dg):xp P v a b aF r h Q=xp P dg a b aF r h Q:=by rw [e]
@[congr] theorem ah5 {v dg:V} {want:Bool} {d:Option Nat} {g:G} {rs:List Nat} (e:v=dg):iC P v want d g rs D os aF r h Q=iC P dg want d g rs D os aF r h Q:=by rw [e]
@[congr] theorem ahR {f zz:V} {args za:List V} {d:Option Nat} (aI:f=zz) (bh:args=za):zm P f args d D os aF r h Q=zm P zz za d D os aF r h Q:=by rw [aI,bh]
@[congr] theorem ahQ {f:FuncId} {args za:List V} {d:Option Nat} (bh:args=za):sC P f args d D os aF r h Q=sC P f za d D os aF r h Q:=by rw [bh]
@[congr] theorem aiZ {e fT:cW} {bT:bV} {aa:aj} (bZ:e=fT) (aI:r=bT) (bh:h=aa):bR P aF e r h Q=bR P aF fT bT aa Q:=by rw [bZ,aI,bh]
@[congr] theorem aiG {b:bE} {bT:bV} {aa:aj} (aI:r=bT) (bh:h=aa):uB P b aF r h Q=uB P b aF bT aa Q:=by rw [aI,bh]
theorem agv {v:V} {d:Option Nat}:eD P (some v) d D os aF r h Q=bR P (.os (mn D r h v) os::aF) .normal (r.set d v) h Q:=(rfl)
theorem IX {v:V} {aa:aj} {d:Option Nat}:kz P (.val v aa) d D os aF r h Q=bR P (.os (mn D r h v) os::aF) .normal (r.set d v) aa Q:=(rfl)
theorem M0 {t:Bool} {a b:bE}:xp P (.bool t) a b aF r h Q=((t=true→bR P (.c a::aF) .normal r h Q)∧(t=false→bR P (.c b::aF) .normal r h Q)):=(rfl)
theorem NR {b:Bool} {d:Option Nat} {g:G} {rs:List Nat}:iC P (.bool b) true d g rs D os aF r h Q=((b=true→bR P (.os D (⟨d,g,none,rs⟩::os)::aF) .normal r h Q)∧(b=false→bR P (.os (mn D r h (.tuple [])) os::aF) .normal (r.set d (.tuple [])) h Q)):=(rfl)
theorem NQ {b:Bool} {d:Option Nat} {g:G} {rs:List Nat}:iC P (.bool b) false d g rs D os aF r h Q=((b=false→bR P (.os D (⟨d,g,none,rs⟩::os)::aF) .normal r h Q)∧(b=true→bR P (.os (mn D r h (.tuple [])) os::aF) .normal (r.set d (.tuple [])) h Q)):=(rfl)
theorem WY {ai:List V} {want:Bool} {d:Option Nat} {g:G} {rs:List Nat}:iC P (.tuple ai) want d g rs D os aF r h Q=bR P (.os (mn D r h (.tuple [])) os::aF) .normal (r.set d (.tuple [])) h Q:=(rfl)
def uJ (v:V) (o:Option aj):bH:=kP v o
theorem adG (v:V) (aa:aj):uJ v (some aa)=.val v aa:=(rfl)
def Kg (b:Bool) (o:bH):bH:=bif b then o else .fail
theorem Tq (o:bH):Kg true o=o:=(rfl)
noncomputable def B5 (n:Nat) (h:aj) (o:Option (List V)):bH:=
 match o with
 | some cs=>uJ (.slice (ao h.next) 0 n n) (hO h cs)
 | none=>.fail
theorem Tr (n:Nat) (cs:List V):B5 n h (some cs)=uJ (.slice (ao h.next) 0 n n) (hO h cs):=(rfl)
theorem afI {n size:Nat} {z:List V} {ct:List (Nat × Nat × bs)}:(G.h5 n size z ct).run P od r h=B5 n h (j6 (hP z n) (lD r ct)):=by
 simp only [G.run]
 cases j6 (hP z n) (lD r ct) with
 | none=>rfl
 | some cs=>
   simp only [B5,uJ,kP]
   cases hO h cs<;>rfl
theorem WH (cells:List V):j6 cells []=some cells:=(rfl)
theorem WE {cells:List V} {off size:Nat} {v:V} {rest:List (Nat × Nat × V)} (ae:v.e3=true) (ak:v.cells.length=size) (aC:off+size≤cells.length):
 j6 cells ((off,size,v)::rest)=j6 (ot cells off v.cells) rest:=by
 simp only [j6]
 rw [ae,show Nat.beq v.cells.length size=true from by rw [Nat.beq_eq];exact ak,show Nat.ble (off+v.cells.length) cells.length=true from by rw [Nat.ble_eq,ak];exact aC]
 simp only [Bool.and_true,cond_true]
 congr 1
 have c2:∀(ws cs:List V) (o:Nat),o+ws.length≤cs.length→sJ cs o ws=iL cs o ws:=by
  intro ws
  induction ws with
  | nil=>intro cs o _;simp [sJ,iL]
  | cons w ws bN=>
    intro cs o bD
    simp only [List.length_cons] at bD
    simp only [sJ]
    rw [bN (cs.set o w) (o+1) (by simp;omega),Q8 cs o w ws (by omega)]
 rw [c2 _ _ _ (by rw [ak];exact aC),yq _ _ _ (by rw [ak];exact aC)]
def B7 (o:Option (List V)):Option V:=
 match o with
 | some cs=>some (.agg cs)
 | none=>none
theorem Tt (cs:List V):B7 (some cs)=some (.agg cs):=(rfl)
theorem Wt:lD r []=[]:=(rfl)
theorem Ws {o s:Nat} {x:bs} {ct:List (Nat × Nat × bs)}:lD r ((o,s,x)::ct)=(o,s,x.bu r)::lD r ct:=(rfl)
noncomputable def pB (P:Program) (o:br) (e:hb) (H:aj):Prop:=o.wp P e.r H fun _ dg _=>dg=e.v
theorem S7 {ops:List br} {es:List hb} {av:aj}:qj P ops es av []=True:=(rfl)
theorem S6 {ops:List br} {es:List hb} {av:aj} {p:Nat} {gY:List Nat} {rest:List (Nat × List Nat)}:qj P ops es av ((p,gY)::rest)=(sx P ops[p]? es[p]? es av gY∧qj P ops es av rest):=(rfl)
theorem S3 {o:Option br} {e:Option hb} {es:List hb} {av:aj}:sx P o e es av []=True:=(rfl)
theorem SZ {o:br} {e:hb} {es:List hb} {av:aj} {s:Nat} {gY:List Nat}:sx P (some o) (some e) es av (s::gY)=(pB P o e (xN es av s)∧sx P (some o) (some e) es av gY):=(rfl)
def Gw (o:Option hb) (av:aj):aj:=
 match o with
 | some e=>e.h
 | none=>av
theorem XU (es:List hb) (av:aj) (s:Nat):xN es av s=Gw es[s]? av:=(rfl)
theorem XW (e:hb) (av:aj):Gw (some e) av=e.h:=(rfl)
theorem XV (av:aj):Gw none av=av:=(rfl)
theorem B0 {d:Option Nat} {g:G} {rs:List Nat} {e:hb} {H:aj} (aT:g.pZ=true):pB P ⟨d,g,none,rs⟩ e H=(g.m9 P (e.r.trim rs) H=some e.v):=by
 unfold pB
 rw [PS aT]
 apply propext
 cases g.m9 P (e.r.trim rs) H with
 | none=>exact ⟨fun q=>q.elim,fun q=>(by cases q)⟩
 | some v=>exact ⟨fun q=>by rw [show v=e.v from q],fun q=>by cases q;rfl⟩
theorem Fa {d:Option Nat} {g:G} {j:Nat} {want:Bool} {rs:List Nat} {e:hb} {H:aj} (aT:g.pZ=true):pB P ⟨d,g,some (j,want),rs⟩ e H=
 (g4 (e.r.trim rs j)∧gL (dK (e.r.trim rs j) want) ((g.m9 P (e.r.trim rs) H).isSome=true)∧V.opt (dK (e.r.trim rs j) want) ((g.m9 P (e.r.trim rs) H).getD .bad)=e.v):=by
 unfold pB
 rw [PQ aT]
theorem S0 {d:Option Nat} {x:bs} {rs:List Nat} {e:hb} {H:aj}:pB P ⟨d,.b9 x,none,rs⟩ e H=(o8 H (x.bu (e.r.trim rs))=some e.v):=B0 rfl
theorem S1 {d:Option Nat} {n:Nat} {x:bs} {rs:List Nat} {e:hb} {H:aj}:pB P ⟨d,.gl n x,none,rs⟩ e H=(o7 n H (x.bu (e.r.trim rs))=some e.v):=B0 rfl
theorem S2 {d:Option Nat} {k:fO} {z:V} {ok:Bool} {x i:bs} {rs:List Nat} {e:hb} {H:aj}:pB P ⟨d,.look k z ok x i,none,rs⟩ e H=(ld k.eq z ok H (x.bu (e.r.trim rs)) (i.bu (e.r.trim rs))=some e.v):=B0 rfl
theorem S4 {d:Option Nat} {x:bs} {j:Nat} {want:Bool} {rs:List Nat} {e:hb} {H:aj}:pB P ⟨d,.b9 x,some (j,want),rs⟩ e H=
 (g4 (e.r.trim rs j)∧gL (dK (e.r.trim rs j) want) ((o8 H (x.bu (e.r.trim rs))).isSome=true)∧V.opt (dK (e.r.trim rs j) want) ((o8 H (x.bu (e.r.trim rs))).getD .bad)=e.v):=Fa rfl
theorem S5 {d:Option Nat} {n:Nat} {x:bs} {j:Nat} {want:Bool} {rs:List Nat} {e:hb} {H:aj}:pB P ⟨d,.gl n x,some (j,want),rs⟩ e H=
 (g4 (e.r.trim rs j)∧gL (dK (e.r.trim rs j) want) ((o7 n H (x.bu (e.r.trim rs))).isSome=true)∧V.opt (dK (e.r.trim rs j) want) ((o7 n H (x.bu (e.r.trim rs))).getD .bad)=e.v):=Fa rfl
end
end Go.Proofs.YtjbiefneffiogaaGreat.bA
namespace Go.Proofs.YtjbiefneffiogaaGreat.bA
variable [Lay]
open Go Go.RowKit
noncomputable def DP (x:V) (h:aj):bH:=
 match x with
 | .str s=>.val (.ptr (ao h.next) 0) (h.new (.iter s 0))
 | _=>.fail
theorem aez (s:List UInt8) (h:aj):DP (.str s) h=.val (.ptr (ao h.next) 0) (h.new (.iter s 0)):=(rfl)
section
variable {P:Program} {r:bV} {h:aj} {Q:cW→bV→aj→Prop} {aF:List iU} {os:List br} {D:Option lu} {d:Option Nat} {rs:List Nat}
theorem aaN {x:bs}:bR P (.os D (⟨d,(.gQ x),none,rs⟩::os)::aF) .normal r h Q=eD P (some (x.bu (r.trim rs))) d D os aF r h Q:=iO rfl
theorem abE {x:bs} {j:Nat} {want:Bool}:bR P (.os D (⟨d,(.gQ x),some (j,want),rs⟩::os)::aF) .normal r h Q=(g4 (r.trim rs j)∧gL (dK (r.trim rs j) want) ((some (x.bu (r.trim rs))).isSome=true)∧eD P (some (V.opt (dK (r.trim rs j) want) ((some (x.bu (r.trim rs))).getD .bad))) d D os aF r h Q):=iN rfl
theorem aaV {c a b:bs}:bR P (.os D (⟨d,(.pick c a b),none,rs⟩::os)::aF) .normal r h Q=eD P (AT (c.bu (r.trim rs)) (a.bu (r.trim rs)) (b.bu (r.trim rs))) d D os aF r h Q:=iO rfl
theorem abJ {c a b:bs} {j:Nat} {want:Bool}:bR P (.os D (⟨d,(.pick c a b),some (j,want),rs⟩::os)::aF) .normal r h Q=(g4 (r.trim rs j)∧gL (dK (r.trim rs j) want) ((AT (c.bu (r.trim rs)) (a.bu (r.trim rs)) (b.bu (r.trim rs))).isSome=true)∧eD P (some (V.opt (dK (r.trim rs j) want) ((AT (c.bu (r.trim rs)) (a.bu (r.trim rs)) (b.bu (r.trim rs))).getD .bad))) d D os aF r h Q):=iN rfl
theorem Z9 {z:List V} {ct:List (Nat × Nat × bs)}:bR P (.os D (⟨d,(.build z ct),none,rs⟩::os)::aF) .normal r h Q=eD P (B7 (j6 z (lD (r.trim rs) ct))) d D os aF r h Q:=iO rfl
theorem abb {z:List V} {ct:List (Nat × Nat × bs)} {j:Nat} {want:Bool}:bR P (.os D (⟨d,(.build z ct),some (j,want),rs⟩::os)::aF) .normal r h Q=(g4 (r.trim rs j)∧gL (dK (r.trim rs j) want) ((B7 (j6 z (lD (r.trim rs) ct))).isSome=true)∧eD P (some (V.opt (dK (r.trim rs j) want) ((B7 (j6 z (lD (r.trim rs) ct))).getD .bad))) d D os aF r h Q):=iN rfl
theorem aaz {x:bs}:bR P (.os D (⟨d,(.b9 x),none,rs⟩::os)::aF) .normal r h Q=eD P (o8 h (x.bu (r.trim rs))) d D os aF r h Q:=iO rfl
theorem abu {x:bs} {j:Nat} {want:Bool}:bR P (.os D (⟨d,(.b9 x),some (j,want),rs⟩::os)::aF) .normal r h Q=(g4 (r.trim rs j)∧gL (dK (r.trim rs j) want) ((o8 h (x.bu (r.trim rs))).isSome=true)∧eD P (some (V.opt (dK (r.trim rs j) want) ((o8 h (x.bu (r.trim rs))).getD .bad))) d D os aF r h Q):=iN rfl
theorem aaA {n:Nat} {x:bs}:bR P (.os D (⟨d,(.gl n x),none,rs⟩::os)::aF) .normal r h Q=eD P (o7 n h (x.bu (r.trim rs))) d D os aF r h Q:=iO rfl
theorem abv {n:Nat} {x:bs} {j:Nat} {want:Bool}:bR P (.os D (⟨d,(.gl n x),some (j,want),rs⟩::os)::aF) .normal r h Q=(g4 (r.trim rs j)∧gL (dK (r.trim rs j) want) ((o7 n h (x.bu (r.trim rs))).isSome=true)∧eD P (some (V.opt (dK (r.trim rs j) want) ((o7 n h (x.bu (r.trim rs))).getD .bad))) d D os aF r h Q):=iN rfl
theorem aaS {x:bs}:bR P (.os D (⟨d,(.s8 x),none,rs⟩::os)::aF) .normal r h Q=eD P (uE (x.bu (r.trim rs))) d D os aF r h Q:=iO rfl
theorem abH {x:bs} {j:Nat} {want:Bool}:bR P (.os D (⟨d,(.s8 x),some (j,want),rs⟩::os)::aF) .normal r h Q=(g4 (r.trim rs j)∧gL (dK (r.trim rs j) want) ((uE (x.bu (r.trim rs))).isSome=true)∧eD P (some (V.opt (dK (r.trim rs j) want) ((uE (x.bu (r.trim rs))).getD .bad))) d D os aF r h Q):=iN rfl
theorem Z3 {k:eH} {x y:bs}:bR P (.os D (⟨d,(.bin k x y),none,rs⟩::os)::aF) .normal r h Q=eD P (k.run P (x.bu (r.trim rs)) (y.bu (r.trim rs))) d D os aF r h Q:=iO rfl
theorem aa' {k:eH} {x y:bs} {j:Nat} {want:Bool}:bR P (.os D (⟨d,(.bin k x y),some (j,want),rs⟩::os)::aF) .normal r h Q=(g4 (r.trim rs j)∧gL (dK (r.trim rs j) want) ((k.run P (x.bu (r.trim rs)) (y.bu (r.trim rs))).isSome=true)∧eD P (some (V.opt (dK (r.trim rs j) want) ((k.run P (x.bu (r.trim rs)) (y.bu (r.trim rs))).getD .bad))) d D os aF r h Q):=iN rfl
theorem aa5 {o:UnOp} {x:bs}:bR P (.os D (⟨d,(.un o x),none,rs⟩::os)::aF) .normal r h Q=eD P (r_ o (x.bu (r.trim rs))) d D os aF r h Q:=iO rfl
theorem abO {o:UnOp} {x:bs} {j:Nat} {want:Bool}:bR P (.os D (⟨d,(.un o x),some (j,want),rs⟩::os)::aF) .normal r h Q=(g4 (r.trim rs j)∧gL (dK (r.trim rs j) want) ((r_ o (x.bu (r.trim rs))).isSome=true)∧eD P (some (V.opt (dK (r.trim rs j) want) ((r_ o (x.bu (r.trim rs))).getD .bad))) d D os aF r h Q):=iN rfl
theorem aar {f:FuncId} {cs:List bs}:bR P (.os D (⟨d,(.fn f cs),none,rs⟩::os)::aF) .normal r h Q=eD P (some (V.func f (bs.h7 (r.trim rs) cs))) d D os aF r h Q:=iO rfl
theorem abn {f:FuncId} {cs:List bs} {j:Nat} {want:Bool}:bR P (.os D (⟨d,(.fn f cs),some (j,want),rs⟩::os)::aF) .normal r h Q=(g4 (r.trim rs j)∧gL (dK (r.trim rs j) want) ((some (V.func f (bs.h7 (r.trim rs) cs))).isSome=true)∧eD P (some (V.opt (dK (r.trim rs j) want) ((some (V.func f (bs.h7 (r.trim rs) cs))).getD .bad))) d D os aF r h Q):=iN rfl
theorem aaw {t:TypeId} {x:bs}:bR P (.os D (⟨d,(.vY t x),none,rs⟩::os)::aF) .normal r h Q=eD P (some (V.iface t (x.bu (r.trim rs)))) d D os aF r h Q:=iO rfl
theorem abq {t:TypeId} {x:bs} {j:Nat} {want:Bool}:bR P (.os D (⟨d,(.vY t x),some (j,want),rs⟩::os)::aF) .normal r h Q=(g4 (r.trim rs j)∧gL (dK (r.trim rs j) want) ((some (V.iface t (x.bu (r.trim rs)))).isSome=true)∧eD P (some (V.opt (dK (r.trim rs j) want) ((some (V.iface t (x.bu (r.trim rs)))).getD .bad))) d D os aF r h Q):=iN rfl
theorem aa2 {x:bs} {cq aG fY:Option bs}:bR P (.os D (⟨d,(.uR x cq aG fY),none,rs⟩::os)::aF) .normal r h Q=eD P (mx (x.bu (r.trim rs)) (bs.opt (r.trim rs) cq) (bs.opt (r.trim rs) aG) (bs.opt (r.trim rs) fY)) d D os aF r h Q:=iO rfl
theorem abM {x:bs} {cq aG fY:Option bs} {j:Nat} {want:Bool}:bR P (.os D (⟨d,(.uR x cq aG fY),some (j,want),rs⟩::os)::aF) .normal r h Q=(g4 (r.trim rs j)∧gL (dK (r.trim rs j) want) ((mx (x.bu (r.trim rs)) (bs.opt (r.trim rs) cq) (bs.opt (r.trim rs) aG) (bs.opt (r.trim rs) fY)).isSome=true)∧eD P (some (V.opt (dK (r.trim rs j) want) ((mx (x.bu (r.trim rs)) (bs.opt (r.trim rs) cq) (bs.opt (r.trim rs) aG) (bs.opt (r.trim rs) fY)).getD .bad))) d D os aF r h Q):=iN rfl
theorem aa1 {n:Nat} {x:bs} {cq aG fY:Option bs}:bR P (.os D (⟨d,(.g_ n x cq aG fY),none,rs⟩::os)::aF) .normal r h Q=eD P (gV n (x.bu (r.trim rs)) (bs.opt (r.trim rs) cq) (bs.opt (r.trim rs) aG) (bs.opt (r.trim rs) fY)) d D os aF r h Q:=iO rfl
theorem abL {n:Nat} {x:bs} {cq aG fY:Option bs} {j:Nat} {want:Bool}:bR P (.os D (⟨d,(.g_ n x cq aG fY),some (j,want),rs⟩::os)::aF) .normal r h Q=(g4 (r.trim rs j)∧gL (dK (r.trim rs j) want) ((gV n (x.bu (r.trim rs)) (bs.opt (r.trim rs) cq) (bs.opt (r.trim rs) aG) (bs.opt (r.trim rs) fY)).isSome=true)∧eD P (some (V.opt (dK (r.trim rs j) want) ((gV n (x.bu (r.trim rs)) (bs.opt (r.trim rs) cq) (bs.opt (r.trim rs) aG) (bs.opt (r.trim rs) fY)).getD .bad))) d D os aF r h Q):=iN rfl
theorem aao {o:Nat} {x:bs}:bR P (.os D (⟨d,(.c2 o x),none,rs⟩::os)::aF) .normal r h Q=eD P (Cn o (x.bu (r.trim rs))) d D os aF r h Q:=iO rfl
theorem abk {o:Nat} {x:bs} {j:Nat} {want:Bool}:bR P (.os D (⟨d,(.c2 o x),some (j,want),rs⟩::os)::aF) .normal r h Q=(g4 (r.trim rs j)∧gL (dK (r.trim rs j) want) ((Cn o (x.bu (r.trim rs))).isSome=true)∧eD P (some (V.opt (dK (r.trim rs j) want) ((Cn o (x.bu (r.trim rs))).getD .bad))) d D os aF r h Q):=iN rfl
theorem aap {o:Nat} {x:bs}:bR P (.os D (⟨d,(.vk o x),none,rs⟩::os)::aF) .normal r h Q=eD P ((x.bu (r.trim rs)).s_ none fun cs=>cs[o]?) d D os aF r h Q:=iO rfl
theorem abl {o:Nat} {x:bs} {j:Nat} {want:Bool}:bR P (.os D (⟨d,(.vk o x),some (j,want),rs⟩::os)::aF) .normal r h Q=(g4 (r.trim rs j)∧gL (dK (r.trim rs j) want) (((x.bu (r.trim rs)).s_ none fun cs=>cs[o]?).isSome=true)∧eD P (some (V.opt (dK (r.trim rs j) want) (((x.bu (r.trim rs)).s_ none fun cs=>cs[o]?).getD .bad))) d D os aF r h Q):=iN rfl
theorem aaq {o n:Nat} {x:bs}:bR P (.os D (⟨d,(.vl o n x),none,rs⟩::os)::aF) .normal r h Q=eD P ((x.bu (r.trim rs)).s_ none fun cs=>some (V.agg ((cs.drop o).take n))) d D os aF r h Q:=iO rfl
theorem abm {o n:Nat} {x:bs} {j:Nat} {want:Bool}:bR P (.os D (⟨d,(.vl o n x),some (j,want),rs⟩::os)::aF) .normal r h Q=(g4 (r.trim rs j)∧gL (dK (r.trim rs j) want) (((x.bu (r.trim rs)).s_ none fun cs=>some (V.agg ((cs.drop o).take n))).isSome=true)∧eD P (some (V.opt (dK (r.trim rs j) want) (((x.bu (r.trim rs)).s_ none fun cs=>some (V.agg ((cs.drop o).take n))).getD .bad))) d D os aF r h Q):=iN rfl
theorem aau {n:Nat} {x i:bs}:bR P (.os D (⟨d,(.b_ n x i),none,rs⟩::os)::aF) .normal r h Q=eD P (fc n (x.bu (r.trim rs)) (i.bu (r.trim rs))) d D os aF r h Q:=iO rfl
theorem abo {n:Nat} {x i:bs} {j:Nat} {want:Bool}:bR P (.os D (⟨d,(.b_ n x i),some (j,want),rs⟩::os)::aF) .normal r h Q=(g4 (r.trim rs j)∧gL (dK (r.trim rs j) want) ((fc n (x.bu (r.trim rs)) (i.bu (r.trim rs))).isSome=true)∧eD P (some (V.opt (dK (r.trim rs j) want) ((fc n (x.bu (r.trim rs)) (i.bu (r.trim rs))).getD .bad))) d D os aF r h Q):=iN rfl
theorem aav {m n:Nat} {x i:bs}:bR P (.os D (⟨d,(.sX m n x i),none,rs⟩::os)::aF) .normal r h Q=eD P ((sZ m n).run (x.bu (r.trim rs)) (i.bu (r.trim rs))) d D os aF r h Q:=iO rfl
theorem abp {m n:Nat} {x i:bs} {j:Nat} {want:Bool}:bR P (.os D (⟨d,(.sX m n x i),some (j,want),rs⟩::os)::aF) .normal r h Q=(g4 (r.trim rs j)∧gL (dK (r.trim rs j) want) (((sZ m n).run (x.bu (r.trim rs)) (i.bu (r.trim rs))).isSome=true)∧eD P (some (V.opt (dK (r.trim rs j) want) (((sZ m n).run (x.bu (r.trim rs)) (i.bu (r.trim rs))).getD .bad))) d D os aF r h Q):=iN rfl
theorem aay {x i:bs}:bR P (.os D (⟨d,(.ux x i),none,rs⟩::os)::aF) .normal r h Q=eD P (qK.run (x.bu (r.trim rs)) (i.bu (r.trim rs))) d D os aF r h Q:=iO rfl
theorem abt {x i:bs} {j:Nat} {want:Bool}:bR P (.os D (⟨d,(.ux x i),some (j,want),rs⟩::os)::aF) .normal r h Q=(g4 (r.trim rs j)∧gL (dK (r.trim rs j) want) ((qK.run (x.bu (r.trim rs)) (i.bu (r.trim rs))).isSome=true)∧eD P (some (V.opt (dK (r.trim rs j) want) ((qK.run (x.bu (r.trim rs)) (i.bu (r.trim rs))).getD .bad))) d D os aF r h Q):=iN rfl
theorem aax {t:TypeId} {x i:bs}:bR P (.os D (⟨d,(.jh t x i),none,rs⟩::os)::aF) .normal r h Q=eD P ((s0 P t).run (x.bu (r.trim rs)) (i.bu (r.trim rs))) d D os aF r h Q:=iO rfl
theorem abr {t:TypeId} {x i:bs} {j:Nat} {want:Bool}:bR P (.os D (⟨d,(.jh t x i),some (j,want),rs⟩::os)::aF) .normal r h Q=(g4 (r.trim rs j)∧gL (dK (r.trim rs j) want) (((s0 P t).run (x.bu (r.trim rs)) (i.bu (r.trim rs))).isSome=true)∧eD P (some (V.opt (dK (r.trim rs j) want) (((s0 P t).run (x.bu (r.trim rs)) (i.bu (r.trim rs))).getD .bad))) d D os aF r h Q):=iN rfl
theorem aaG {k:fO} {z:V} {ok:Bool} {x i:bs}:bR P (.os D (⟨d,(.look k z ok x i),none,rs⟩::os)::aF) .normal r h Q=eD P (ld k.eq z ok h (x.bu (r.trim rs)) (i.bu (r.trim rs))) d D os aF r h Q:=iO rfl
theorem abA {k:fO} {z:V} {ok:Bool} {x i:bs} {j:Nat} {want:Bool}:bR P (.os D (⟨d,(.look k z ok x i),some (j,want),rs⟩::os)::aF) .normal r h Q=(g4 (r.trim rs j)∧gL (dK (r.trim rs j) want) ((ld k.eq z ok h (x.bu (r.trim rs)) (i.bu (r.trim rs))).isSome=true)∧eD P (some (V.opt (dK (r.trim rs j) want) ((ld k.eq z ok h (x.bu (r.trim rs)) (i.bu (r.trim rs))).getD .bad))) d D os aF r h Q):=iN rfl
theorem aan {x:bs} {i:Nat}:bR P (.os D (⟨d,(.ext x i),none,rs⟩::os)::aF) .normal r h Q=eD P ((x.bu (r.trim rs)).AK none fun ai=>ai[i]?) d D os aF r h Q:=iO rfl
theorem abj {x:bs} {i:Nat} {j:Nat} {want:Bool}:bR P (.os D (⟨d,(.ext x i),some (j,want),rs⟩::os)::aF) .normal r h Q=(g4 (r.trim rs j)∧gL (dK (r.trim rs j) want) (((x.bu (r.trim rs)).AK none fun ai=>ai[i]?).isSome=true)∧eD P (some (V.opt (dK (r.trim rs j) want) (((x.bu (r.trim rs)).AK none fun ai=>ai[i]?).getD .bad))) d D os aF r h Q):=iN rfl
theorem aaL {args:List bs}:bR P (.os D (⟨d,(.gH args),none,rs⟩::os)::aF) .normal r h Q=eD P (lQ (fun b a=>!Int.leB a b) (bs.h7 (r.trim rs) args)) d D os aF r h Q:=iO rfl
theorem abD {args:List bs} {j:Nat} {want:Bool}:bR P (.os D (⟨d,(.gH args),some (j,want),rs⟩::os)::aF) .normal r h Q=(g4 (r.trim rs j)∧gL (dK (r.trim rs j) want) ((lQ (fun b a=>!Int.leB a b) (bs.h7 (r.trim rs) args)).isSome=true)∧eD P (some (V.opt (dK (r.trim rs j) want) ((lQ (fun b a=>!Int.leB a b) (bs.h7 (r.trim rs) args)).getD .bad))) d D os aF r h Q):=iN rfl
theorem aaO {args:List bs}:bR P (.os D (⟨d,(.fE args),none,rs⟩::os)::aF) .normal r h Q=eD P (lQ (fun b a=>!Int.leB b a) (bs.h7 (r.trim rs) args)) d D os aF r h Q:=iO rfl
theorem abF {args:List bs} {j:Nat} {want:Bool}:bR P (.os D (⟨d,(.fE args),some (j,want),rs⟩::os)::aF) .normal r h Q=(g4 (r.trim rs j)∧gL (dK (r.trim rs j) want) ((lQ (fun b a=>!Int.leB b a) (bs.h7 (r.trim rs) args)).isSome=true)∧eD P (some (V.opt (dK (r.trim rs j) want) ((lQ (fun b a=>!Int.leB b a) (bs.h7 (r.trim rs) args)).getD .bad))) d D os aF r h Q):=iN rfl
theorem aag {k:IntKind} {x:bs}:bR P (.os D (⟨d,(.jD (.int k) x),none,rs⟩::os)::aF) .normal r h Q=eD P (zq k (x.bu (r.trim rs))) d D os aF r h Q:=iO rfl
theorem abg {k:IntKind} {x:bs} {j:Nat} {want:Bool}:bR P (.os D (⟨d,(.jD (.int k) x),some (j,want),rs⟩::os)::aF) .normal r h Q=(g4 (r.trim rs j)∧gL (dK (r.trim rs j) want) ((zq k (x.bu (r.trim rs))).isSome=true)∧eD P (some (V.opt (dK (r.trim rs j) want) ((zq k (x.bu (r.trim rs))).getD .bad))) d D os aF r h Q):=iN rfl
theorem aaD {x:bs}:bR P (.os D (⟨d,(.len .slice x),none,rs⟩::os)::aF) .normal r h Q=eD P (n_ (x.bu (r.trim rs))) d D os aF r h Q:=iO rfl
theorem aby {x:bs} {j:Nat} {want:Bool}:bR P (.os D (⟨d,(.len .slice x),some (j,want),rs⟩::os)::aF) .normal r h Q=(g4 (r.trim rs j)∧gL (dK (r.trim rs j) want) ((n_ (x.bu (r.trim rs))).isSome=true)∧eD P (some (V.opt (dK (r.trim rs j) want) ((n_ (x.bu (r.trim rs))).getD .bad))) d D os aF r h Q):=iN rfl
theorem aaE {x:bs}:bR P (.os D (⟨d,(.len .str x),none,rs⟩::os)::aF) .normal r h Q=eD P (Dd (x.bu (r.trim rs))) d D os aF r h Q:=iO rfl
theorem abz {x:bs} {j:Nat} {want:Bool}:bR P (.os D (⟨d,(.len .str x),some (j,want),rs⟩::os)::aF) .normal r h Q=(g4 (r.trim rs j)∧gL (dK (r.trim rs j) want) ((Dd (x.bu (r.trim rs))).isSome=true)∧eD P (some (V.opt (dK (r.trim rs j) want) ((Dd (x.bu (r.trim rs))).getD .bad))) d D os aF r h Q):=iN rfl
theorem aaB {n:Nat} {x:bs}:bR P (.os D (⟨d,(.len (.arr n) x),none,rs⟩::os)::aF) .normal r h Q=eD P (some (V.int .i64 n)) d D os aF r h Q:=iO rfl
theorem abw {n:Nat} {x:bs} {j:Nat} {want:Bool}:bR P (.os D (⟨d,(.len (.arr n) x),some (j,want),rs⟩::os)::aF) .normal r h Q=(g4 (r.trim rs j)∧gL (dK (r.trim rs j) want) ((some (V.int .i64 n)).isSome=true)∧eD P (some (V.opt (dK (r.trim rs j) want) ((some (V.int .i64 n)).getD .bad))) d D os aF r h Q):=iN rfl
theorem aaQ {z:List V}:bR P (.os D (⟨d,(.new z),none,rs⟩::os)::aF) .normal r h Q=kz P (uJ (.ptr (ao h.next) 0) (hO h z)) d D os aF r h Q:=m4 rfl rfl
theorem abG {z:List V} {j:Nat} {want:Bool}:bR P (.os D (⟨d,(.new z),some (j,want),rs⟩::os)::aF) .normal r h Q=iC P (r.trim rs j) want d (.new z) rs D os aF r h Q:=mj rfl
theorem Z7 {x:bs}:bR P (.os D (⟨d,(.box x),none,rs⟩::os)::aF) .normal r h Q=kz P (Kg (x.bu (r.trim rs)).e3 (uJ (.ptr (ao h.next) 0) (hO h (x.bu (r.trim rs)).cells))) d D os aF r h Q:=m4 rfl rfl
theorem aa_ {x:bs} {j:Nat} {want:Bool}:bR P (.os D (⟨d,(.box x),some (j,want),rs⟩::os)::aF) .normal r h Q=iC P (r.trim rs j) want d (.box x) rs D os aF r h Q:=mj rfl
theorem Z8 {n m:Nat} {z:List V} {ct:List (Nat × Nat × bs)}:bR P (.os D (⟨d,(.h5 n m z ct),none,rs⟩::os)::aF) .normal r h Q=kz P (B5 n h (j6 (hP z n) (lD (r.trim rs) ct))) d D os aF r h Q:=by rw [m4 rfl rfl,afI]
theorem aba {n m:Nat} {z:List V} {ct:List (Nat × Nat × bs)} {j:Nat} {want:Bool}:bR P (.os D (⟨d,(.h5 n m z ct),some (j,want),rs⟩::os)::aF) .normal r h Q=iC P (r.trim rs j) want d (.h5 n m z ct) rs D os aF r h Q:=mj rfl
theorem aa3 {n:Nat} {x y:bs}:bR P (.os D (⟨d,(.st n x y),none,rs⟩::os)::aF) .normal r h Q=kz P (uJ .bad (A8 n h (x.bu (r.trim rs)) (y.bu (r.trim rs)))) d D os aF r h Q:=m4 rfl rfl
theorem abN {n:Nat} {x y:bs} {j:Nat} {want:Bool}:bR P (.os D (⟨d,(.st n x y),some (j,want),rs⟩::os)::aF) .normal r h Q=iC P (r.trim rs j) want d (.st n x y) rs D os aF r h Q:=mj rfl
theorem aaK {n:Nat} {z:List V} {l c:bs}:bR P (.os D (⟨d,(.As n z l c),none,rs⟩::os)::aF) .normal r h Q=kz P (Dj n z (l.bu (r.trim rs)) (c.bu (r.trim rs)) h) d D os aF r h Q:=m4 rfl rfl
theorem abC {n:Nat} {z:List V} {l c:bs} {j:Nat} {want:Bool}:bR P (.os D (⟨d,(.As n z l c),some (j,want),rs⟩::os)::aF) .normal r h Q=iC P (r.trim rs j) want d (.As n z l c) rs D os aF r h Q:=mj rfl
theorem C' {k:fO} {m i x:bs}:bR P (.os D (⟨d,(.fk k m i x),none,rs⟩::os)::aF) .normal r h Q=kz P (uJ .bad (lp k.eq h (m.bu (r.trim rs)) (i.bu (r.trim rs)) (x.bu (r.trim rs)))) d D os aF r h Q:=m4 rfl rfl
theorem abP {k:fO} {m i x:bs} {j:Nat} {want:Bool}:bR P (.os D (⟨d,(.fk k m i x),some (j,want),rs⟩::os)::aF) .normal r h Q=iC P (r.trim rs j) want d (.fk k m i x) rs D os aF r h Q:=mj rfl
theorem aaJ {x:Option bs}:bR P (.os D (⟨d,(.rT x),none,rs⟩::os)::aF) .normal r h Q=kz P (qQ (bs.opt (r.trim rs) x) h) d D os aF r h Q:=m4 rfl rfl
theorem abB {x:Option bs} {j:Nat} {want:Bool}:bR P (.os D (⟨d,(.rT x),some (j,want),rs⟩::os)::aF) .normal r h Q=iC P (r.trim rs j) want d (.rT x) rs D os aF r h Q:=mj rfl
theorem aaY {x:bs}:bR P (.os D (⟨d,(.A0 x),none,rs⟩::os)::aF) .normal r h Q=kz P (DP (x.bu (r.trim rs)) h) d D os aF r h Q:=(m4 rfl rfl).trans (by first | rfl | (unfold DP;simp only [G.run];cases x.bu (r.trim rs)<;>rfl) | (unfold DP;cases x.bu (r.trim rs)<;>rfl))
theorem abK {x:bs} {j:Nat} {want:Bool}:bR P (.os D (⟨d,(.A0 x),some (j,want),rs⟩::os)::aF) .normal r h Q=iC P (r.trim rs j) want d (.A0 x) rs D os aF r h Q:=mj rfl
theorem aaT {x:bs}:bR P (.os D (⟨d,(.AA x),none,rs⟩::os)::aF) .normal r h Q=kz P (Aw (x.bu (r.trim rs)) h) d D os aF r h Q:=m4 rfl rfl
theorem abI {x:bs} {j:Nat} {want:Bool}:bR P (.os D (⟨d,(.AA x),some (j,want),rs⟩::os)::aF) .normal r h Q=iC P (r.trim rs j) want d (.AA x) rs D os aF r h Q:=mj rfl
theorem Z1 {n:Nat} {s x:bs}:bR P (.os D (⟨d,(.app n s x),none,rs⟩::os)::aF) .normal r h Q=kz P (l6 n (s.bu (r.trim rs)) (x.bu (r.trim rs)) h) d D os aF r h Q:=m4 rfl rfl
theorem aa9 {n:Nat} {s x:bs} {j:Nat} {want:Bool}:bR P (.os D (⟨d,(.app n s x),some (j,want),rs⟩::os)::aF) .normal r h Q=iC P (r.trim rs j) want d (.app n s x) rs D os aF r h Q:=mj rfl
theorem aad {n:Nat} {nm s:bs}:bR P (.os D (⟨d,(.copy n nm s),none,rs⟩::os)::aF) .normal r h Q=kz P (copyV n (nm.bu (r.trim rs)) (s.bu (r.trim rs)) h) d D os aF r h Q:=m4 rfl rfl
theorem abe {n:Nat} {nm s:bs} {j:Nat} {want:Bool}:bR P (.os D (⟨d,(.copy n nm s),some (j,want),rs⟩::os)::aF) .normal r h Q=iC P (r.trim rs j) want d (.copy n nm s) rs D os aF r h Q:=mj rfl
theorem aab {z:List V} {x:bs}:bR P (.os D (⟨d,(.Cc z x),none,rs⟩::os)::aF) .normal r h Q=kz P (tR z (x.bu (r.trim rs)) h) d D os aF r h Q:=m4 rfl rfl
theorem aaC {x:bs}:bR P (.os D (⟨d,(.len .map x),none,rs⟩::os)::aF) .normal r h Q=kz P (Ao [x.bu (r.trim rs)] h) d D os aF r h Q:=m4 rfl rfl
theorem abx {x:bs} {j:Nat} {want:Bool}:bR P (.os D (⟨d,(.len .map x),some (j,want),rs⟩::os)::aF) .normal r h Q=iC P (r.trim rs j) want d (.len .map x) rs D os aF r h Q:=mj rfl
theorem aaf {x:bs}:bR P (.os D (⟨d,(.jD .bytes x),none,rs⟩::os)::aF) .normal r h Q=kz P (zo.run (x.bu (r.trim rs)) h) d D os aF r h Q:=m4 rfl rfl
theorem abf {x:bs} {j:Nat} {want:Bool}:bR P (.os D (⟨d,(.jD .bytes x),some (j,want),rs⟩::os)::aF) .normal r h Q=iC P (r.trim rs j) want d (.jD .bytes x) rs D os aF r h Q:=mj rfl
theorem aai {x:bs}:bR P (.os D (⟨d,(.jD .str x),none,rs⟩::os)::aF) .normal r h Q=kz P (nT.run (x.bu (r.trim rs)) h) d D os aF r h Q:=m4 rfl rfl
theorem abi {x:bs} {j:Nat} {want:Bool}:bR P (.os D (⟨d,(.jD .str x),some (j,want),rs⟩::os)::aF) .normal r h Q=iC P (r.trim rs j) want d (.jD .str x) rs D os aF r h Q:=mj rfl
theorem aah {s nm:TypeId} {x:bs}:bR P (.os D (⟨d,(.jD (.other s nm) x),none,rs⟩::os)::aF) .normal r h Q=kz P ((rr P s nm).run (x.bu (r.trim rs)) h) d D os aF r h Q:=m4 rfl rfl
theorem abh {s nm:TypeId} {x:bs} {j:Nat} {want:Bool}:bR P (.os D (⟨d,(.jD (.other s nm) x),some (j,want),rs⟩::os)::aF) .normal r h Q=iC P (r.trim rs j) want d (.jD (.other s nm) x) rs D os aF r h Q:=mj rfl
theorem abc {f:FuncId} {args:List bs} {j:Nat} {want:Bool}:bR P (.os D (⟨d,(.call f args),some (j,want),rs⟩::os)::aF) .normal r h Q=iC P (r.trim rs j) want d (.call f args) rs D os aF r h Q:=mj rfl
theorem abd {f:bs} {args:List bs} {j:Nat} {want:Bool}:bR P (.os D (⟨d,(.rq f args),some (j,want),rs⟩::os)::aF) .normal r h Q=iC P (r.trim rs j) want d (.rq f args) rs D os aF r h Q:=mj rfl
end
end Go.Proofs.YtjbiefneffiogaaGreat.bA
namespace Go.Proofs.YtjbiefneffiogaaGreat.bA
variable [Lay]
open Go Go.RowKit
theorem acV (h:aj) (ai:List V):hO h ai=if ai.length≤top then some (h.new (.aq ai 0 false)) else none:=by
 by_cases aK:ai.length≤top
 · rw [if_pos aK,acU aK]
 · rw [if_neg aK]
   unfold hO
   rw [show Nat.ble ai.length top=false from by rw [←Bool.not_eq_true,Nat.ble_eq];exact aK]
   rfl
theorem ab2 (h:aj) (n:Nat) (b:a6) (off:Nat) (y:V) (ai:List V) (c3:Nat) (st:Bool):
 qL n h b off y (.aq ai c3 st)=if y.cells.length=n∧gh y.cells=true∧off+n≤ai.length then some (h.set b (.aq (ot ai off y.cells) c3 st)) else none:=by
 by_cases aD:y.cells.length=n∧gh y.cells=true∧off+n≤ai.length
 · rw [if_pos aD,HN aD.1 aD.2.1 aD.2.2]
 · rw [if_neg aD]
   unfold qL
   by_cases ae:y.cells.length=n
   · rw [show Nat.beq y.cells.length n=true from by rw [Nat.beq_eq];exact ae]
     simp only [cond_true,cT.aq,cT.on]
     by_cases ak:gh y.cells=true
     · have aC:¬off+y.cells.length≤ai.length:=fun q=>aD ⟨ae,ak,by omega⟩
       rw [show Nat.ble (off+y.cells.length) ai.length=false from by rw [←Bool.not_eq_true,Nat.ble_eq];exact aC]
       rfl
     · rw [show gh y.cells=false from by simpa using ak,Bool.and_false]
       rfl
   · rw [show Nat.beq y.cells.length n=false from by rw [←Bool.not_eq_true,Nat.beq_eq];exact ae]
     rfl
theorem WG (cells:List V) (off size:Nat) (v:V) (rest:List (Nat × Nat × V)):
 j6 cells ((off,size,v)::rest)=if v.e3=true∧v.cells.length=size∧off+size≤cells.length then j6 (ot cells off v.cells) rest else none:=by
 by_cases aD:v.e3=true∧v.cells.length=size∧off+size≤cells.length
 · rw [if_pos aD,WE aD.1 aD.2.1 aD.2.2]
 · rw [if_neg aD]
   simp only [j6]
   cases ah:(v.e3&&(Nat.beq v.cells.length size&&Nat.ble (off+v.cells.length) cells.length)) with
   | false=>rfl
   | true=>
     simp only [Bool.and_eq_true,Nat.beq_eq,Nat.ble_eq] at ah
     exact absurd ⟨ah.1,ah.2.1,by omega⟩ aD
theorem VE (b:Bool):V.cells (.bool b:V)=[.bool b]:=rfl
theorem adj (b:Bool):V.one (.bool b:V)=true:=rfl
theorem W' (b:Bool):V.e3 (.bool b:V)=true:=rfl
theorem VI (k:IntKind) (n:Int):V.cells (.int k n:V)=[.int k n]:=rfl
theorem Dw (k:IntKind) (n:Int):V.one (.int k n:V)=true:=rfl
theorem oU (k:IntKind) (n:Int):V.e3 (.int k n:V)=true:=rfl
theorem VR (s:List UInt8):V.cells (.str s:V)=[.str s]:=rfl
theorem adv (s:List UInt8):V.one (.str s:V)=true:=rfl
theorem Xk (s:List UInt8):V.e3 (.str s:V)=true:=rfl
theorem VN:V.cells (.ch:V)=[.ch]:=rfl
theorem adr:V.one (.ch:V)=true:=rfl
theorem Xg:V.e3 (.ch:V)=true:=rfl
theorem VP (b:a6) (o:Nat):V.cells (.ptr b o:V)=[.ptr b o]:=rfl
theorem adt (b:a6) (o:Nat):V.one (.ptr b o:V)=true:=rfl
theorem Xi (b:a6) (o:Nat):V.e3 (.ptr b o:V)=true:=rfl
theorem VQ (b:a6) (o l c:Nat):V.cells (.slice b o l c:V)=[.slice b o l c]:=rfl
theorem adu (b:a6) (o l c:Nat):V.one (.slice b o l c:V)=true:=rfl
theorem Xj (b:a6) (o l c:Nat):V.e3 (.slice b o l c:V)=true:=rfl
theorem VG (b:a6) (o l c:Nat):V.cells (.ev b o l c:V)=[.ev b o l c]:=rfl
theorem adl (b:a6) (o l c:Nat):V.one (.ev b o l c:V)=true:=rfl
theorem Xa (b:a6) (o l c:Nat):V.e3 (.ev b o l c:V)=true:=rfl
theorem VS (b:a6) (o l c:Nat):V.cells (.ia b o l c:V)=[.ia b o l c]:=rfl
theorem adw (b:a6) (o l c:Nat):V.one (.ia b o l c:V)=true:=rfl
theorem Xl (b:a6) (o l c:Nat):V.e3 (.ia b o l c:V)=true:=rfl
theorem VO:V.cells (.ay:V)=[.ay]:=rfl
theorem ads:V.one (.ay:V)=true:=rfl
theorem Xh:V.e3 (.ay:V)=true:=rfl
theorem VM:V.cells (.lN:V)=[.lN]:=rfl
theorem adq:V.one (.lN:V)=true:=rfl
theorem Xf:V.e3 (.lN:V)=true:=rfl
theorem VJ (b:a6):V.cells (.map b:V)=[.map b]:=rfl
theorem adn (b:a6):V.one (.map b:V)=true:=rfl
theorem Xc (b:a6):V.e3 (.map b:V)=true:=rfl
theorem VF (f:FuncId) (cs:List V):V.cells (.func f cs:V)=[.func f cs]:=rfl
theorem adk (f:FuncId) (cs:List V):V.one (.func f cs:V)=true:=rfl
theorem W_ (f:FuncId) (cs:List V):V.e3 (.func f cs:V)=true:=rfl
theorem VL:V.cells (.kN:V)=[.kN]:=rfl
theorem adp:V.one (.kN:V)=true:=rfl
theorem Xe:V.e3 (.kN:V)=true:=rfl
theorem VH (t:TypeId) (v:V):V.cells (.iface t v:V)=[.iface t v]:=rfl
theorem adm (t:TypeId) (v:V):V.one (.iface t v:V)=true:=rfl
theorem Xb (t:TypeId) (v:V):V.e3 (.iface t v:V)=true:=rfl
theorem VK:V.cells (.nilIface:V)=[.nilIface]:=rfl
theorem ado:V.one (.nilIface:V)=true:=rfl
theorem Xd:V.e3 (.nilIface:V)=true:=rfl
theorem VD (cs:List V):V.cells (.agg cs)=cs:=rfl
theorem W9 (cs:List V):V.e3 (.agg cs)=true:=rfl
theorem Xm (cs:List V):V.e3 (.tuple cs)=true:=rfl
theorem SC (n:Nat):n+1+1=n+2:=rfl
theorem SI (n:Nat):n+2+1=n+3:=rfl
theorem SJ (n:Nat):n+3+1=n+4:=rfl
theorem SK (n:Nat):n+4+1=n+5:=rfl
theorem SL (n:Nat):n+5+1=n+6:=rfl
theorem SM (n:Nat):n+6+1=n+7:=rfl
theorem SN (n:Nat):n+7+1=n+8:=rfl
theorem SO (n:Nat):n+8+1=n+9:=rfl
theorem SP (n:Nat):n+9+1=n+10:=rfl
theorem SB (n:Nat):n+10+1=n+11:=rfl
theorem SD (n:Nat):n+11+1=n+12:=rfl
theorem SE (n:Nat):n+12+1=n+13:=rfl
theorem SF (n:Nat):n+13+1=n+14:=rfl
theorem SG (n:Nat):n+14+1=n+15:=rfl
theorem SH (n:Nat):n+15+1=n+16:=rfl
theorem wx (n:Nat):(n+1=n)=False:=eq_false (by omega)
theorem aho (n:Nat):(n=n+1)=False:=eq_false (by omega)
theorem uG (n:Nat):(n+2=n)=False:=eq_false (by omega)
theorem ahp (n:Nat):(n=n+2)=False:=eq_false (by omega)
theorem qS (n:Nat):(n+3=n)=False:=eq_false (by omega)
theorem ahq (n:Nat):(n=n+3)=False:=eq_false (by omega)
theorem s9 (n:Nat):(n+4=n)=False:=eq_false (by omega)
theorem ahr (n:Nat):(n=n+4)=False:=eq_false (by omega)
theorem Ia (n:Nat):(n+5=n)=False:=eq_false (by omega)
theorem ahs (n:Nat):(n=n+5)=False:=eq_false (by omega)
theorem ac5 (n:Nat):(n+6=n)=False:=eq_false (by omega)
theorem aht (n:Nat):(n=n+6)=False:=eq_false (by omega)
theorem ac6 (n:Nat):(n+7=n)=False:=eq_false (by omega)
theorem ahu (n:Nat):(n=n+7)=False:=eq_false (by omega)
theorem ac7 (n:Nat):(n+8=n)=False:=eq_false (by omega)
theorem ahv (n:Nat):(n=n+8)=False:=eq_false (by omega)
theorem WX {P:Program} {r:bV} {h:aj} {Q:cW→bV→aj→Prop} {aF:List iU} {os:List br} {D:Option lu} {d:Option Nat} {g:G} {rs:List Nat}:iC P (.bool true) true d g rs D os aF r h Q=bR P (.os D (⟨d,g,none,rs⟩::os)::aF) .normal r h Q:=by
 rw [NR];simp
theorem WU {P:Program} {r:bV} {h:aj} {Q:cW→bV→aj→Prop} {aF:List iU} {os:List br} {D:Option lu} {d:Option Nat} {g:G} {rs:List Nat}:iC P (.bool false) false d g rs D os aF r h Q=bR P (.os D (⟨d,g,none,rs⟩::os)::aF) .normal r h Q:=by
 rw [NQ];simp
theorem WW {P:Program} {r:bV} {h:aj} {Q:cW→bV→aj→Prop} {aF:List iU} {os:List br} {D:Option lu} {d:Option Nat} {g:G} {rs:List Nat}:iC P (.bool true) false d g rs D os aF r h Q=bR P (.os (mn D r h (.tuple [])) os::aF) .normal (r.set d (.tuple [])) h Q:=by
 rw [NQ];simp
theorem WV {P:Program} {r:bV} {h:aj} {Q:cW→bV→aj→Prop} {aF:List iU} {os:List br} {D:Option lu} {d:Option Nat} {g:G} {rs:List Nat}:iC P (.bool false) true d g rs D os aF r h Q=bR P (.os (mn D r h (.tuple [])) os::aF) .normal (r.set d (.tuple [])) h Q:=by
 rw [NR];simp
theorem Tl (c:Bool) (a b:V):V.bif (!c) a (V.opt c b)=V.bif (!c) a b:=by cases c<;>rfl
theorem ZK (A:Prop):(True→A)=A:=propext ⟨fun q=>q trivial,fun q _=>q⟩
theorem ZJ (A:Prop):(False→A)=True:=propext ⟨fun _=>trivial,fun _ q=>q.elim⟩
section
variable {P:Program}
theorem fw {b:bE} {aF:List iU} {r:bV} {h:aj} {Q:cW→bV→aj→Prop} (I:bV→aj→Prop) (μ:bV→aj→Nat) (al:I r h)
 (step:∀r h,I r h→bR P [.c b] .normal r h fun e bT aa=>e.andThen (I bT aa∧μ bT aa<μ r h) (bR P aF e bT aa Q)):uB P b aF r h Q:=
 ⟨I,μ,al,step⟩
def V.gn:V→Nat
 | .int _ n=>n.toNat
 | _=>0
theorem agB (k:IntKind) (n:Int):V.gn (.int k n)=n.toNat:=rfl
theorem iz {f:FuncId} {args:List V} {d:Option Nat} {os:List br} {D:Option lu} {aF:List iU} {r:bV} {h:aj} {Q:cW→bV→aj→Prop} {v:V}
 (c:lr P f args h v h) (H:bR P (.os (mn D r h v) os::aF) .normal (r.set d v) h Q):sC P f args d D os aF r h Q:=⟨v,h,c,H⟩
theorem aV {f:FuncId} {args:List V} {d:Option Nat} {os:List br} {D:Option lu} {aF:List iU} {r:bV} {h:aj} {Q:cW→bV→aj→Prop} {K:V→aj→Prop}
 (c:bB P f args h K) (H:∀v aa,K v aa→bR P (.os (mn D r h v) os::aF) .normal (r.set d v) aa Q):sC P f args d D os aF r h Q:=c.mono H
structure Ext (h aa:aj):Prop where
 next:h.next≤aa.next
 get:∀b,Old h b→aa.get b=h.get b
theorem Ext.refl (h:aj):Ext h h:=⟨Nat.le_refl _,fun _ _=>rfl⟩
theorem Ext.b6 {h aa:aj} (e:Ext h aa) {b:a6} (ah:Old h b):Old aa b:=Nat.lt_of_lt_of_le ah e.next
theorem Ext.trans {h aa fo:aj} (e:Ext h aa) (fT:Ext aa fo):Ext h fo:=
 ⟨Nat.le_trans e.next fT.next,fun b ah=>(fT.get b (e.b6 ah)).trans (e.get b ah)⟩
theorem Ext.new {h aa:aj} (e:Ext h aa) (k:cT):Ext h (aa.new k):=
 ⟨Nat.le_succ_of_le e.next,fun b ah=>by
   rw [eB,if_neg (fun q=>(gA (h:=h) ah e.next) ▸ q)]
   exact e.get b ah⟩
theorem Ext.set {h aa:aj} (e:Ext h aa) {i:Nat} (aG:h.next≤i) (k:cT):Ext h (aa.set (ao i) k):=
 ⟨e.next,fun b ah=>by
   rw [du,if_neg (fun q=>(gA (h:=h) ah aG) ▸ q)]
   exact e.get b ah⟩
theorem Ext.rd {h aa:aj} (e:Ext h aa) {b:a6} (ah:Old h b) {ai:List V} (H:Rd h b ai):Rd aa b ai:=by
 unfold Rd at H ⊢
 rw [e.get b ah]
 exact H
def jL (h:aj) (b:a6) (off:Nat) (ai:List V):Prop:=Old h b∧∃us,Rd h b us∧off+ai.length≤us.length∧(us.drop off).take ai.length=ai
theorem jL.ext {h aa:aj} (e:Ext h aa) {b:a6} {off:Nat} {ai:List V} (H:jL h b off ai):jL aa b off ai:=by
 obtain ⟨al,us,ae,ak,aC⟩:=H
 exact ⟨e.b6 al,us,e.rd al ae,ak,aC⟩
theorem jL.b9 {h:aj} {b:a6} {off:Nat} {ai:List V} (H:jL h b off ai) {i:Nat} (aG:i<ai.length):hX (h.get b) (off+i)=some ai[i]:=by
 obtain ⟨_,us,ae,ak,aC⟩:=H
 rw [ae.b9,List.getElem?_eq_getElem (by omega)]
 congr 1
 have:((us.drop off).take ai.length)[i]? =ai[i]? :=by rw [aC]
 rw [List.getElem?_take_of_lt aG,List.getElem?_drop,List.getElem?_eq_getElem (by omega),List.getElem?_eq_getElem aG] at this
 simpa using this
theorem jL.gl {h:aj} {b:a6} {off:Nat} {ai:List V} (H:jL h b off ai) {i n:Nat} (aG:i+n≤ai.length):jv n (h.get b) (off+i)=some (.agg ((ai.drop i).take n)):=by
 obtain ⟨_,us,ae,ak,aC⟩:=H
 rw [ae.gl,if_pos (by omega)]
 congr 2
 have:(((us.drop off).take ai.length).drop i).take n=(ai.drop i).take n:=by rw [aC]
 rw [←this,List.drop_take,List.drop_drop,List.take_take]
 congr 1
 omega
def cg (h:aj) (size:Nat) (v:V) (n:Nat) (ai:List V):Prop:=
 ai.length=n * size∧match v with
  | .ay=>n=0
  | .slice b off len _=>len=n∧jL h b off ai
  | .ev b off len _=>len=n∧jL h b off ai
  | .ia _ _ _ _=>n=0
  | _=>False
theorem cg.ext {h aa:aj} (e:Ext h aa) {size:Nat} {v:V} {n:Nat} {ai:List V} (H:cg h size v n ai):cg aa size v n ai:=by
 refine ⟨H.1,?_⟩
 have eb:=H.2
 cases v<;>simp only at eb ⊢<;>first | exact eb | exact ⟨eb.1,eb.2.ext e⟩
theorem cg.len {h:aj} {size:Nat} {v:V} {n:Nat} {ai:List V} (H:cg h size v n ai):n_ v=some (.int .i64 n):=by
 have eb:=H.2
 cases v<;>simp only at eb<;>first
  | (rw [←eb.1];rfl)
  | (subst eb;rfl)
  | (exact eb.elim)
theorem cg.b_ {h:aj} {size:Nat} {v:V} {n:Nat} {ai:List V} (H:cg h size v n ai) {k:IntKind} {i:Nat} (aG:i<n):
 ∃b off,fc size v (.int k i)=some (.ptr b (off+i * size))∧jL h b off ai:=by
 have eb:=H.2
 cases v<;>simp only at eb<;>first
  | omega
  | (exact eb.elim)
  | skip
 · rename_i b off len cap
   obtain ⟨rfl,ae⟩:=eb
   refine ⟨b,off,?_,ae⟩
   rw [xY,if_pos (by omega)]
   simp
 · rename_i b off len cap
   obtain ⟨rfl,ae⟩:=eb
   refine ⟨b,off,?_,ae⟩
   rw [xX,if_pos (by omega)]
   simp
end
end Go.Proofs.YtjbiefneffiogaaGreat.bA
namespace Go.Proofs.YtjbiefneffiogaaGreat.bA
variable [Lay]
open Go Go.RowKit
structure Mod (M:a6→Prop) (h aa:aj):Prop where
 next:h.next≤aa.next
 get:∀b,Old h b→¬M b→aa.get b=h.get b
theorem Mod.refl (M:a6→Prop) (h:aj):Mod M h h:=⟨Nat.le_refl _,fun _ _ _=>rfl⟩
theorem Mod.b6 {M:a6→Prop} {h aa:aj} (e:Mod M h aa) {b:a6} (ah:Old h b):Old aa b:=Nat.lt_of_lt_of_le ah e.next
theorem Mod.trans {M:a6→Prop} {h aa fo:aj} (e:Mod M h aa) (fT:Mod M aa fo):Mod M h fo:=
 ⟨Nat.le_trans e.next fT.next,fun b ah hm=>(fT.get b (e.b6 ah) hm).trans (e.get b ah hm)⟩
theorem Mod.mono {M JG:a6→Prop} {h aa:aj} (e:Mod M h aa) (hm:∀b,Old h b→M b→JG b):Mod JG h aa:=
 ⟨e.next,fun b ah a7=>e.get b ah fun q=>a7 (hm b ah q)⟩
theorem Mod.new {M:a6→Prop} {h aa:aj} (e:Mod M h aa) (k:cT):Mod M h (aa.new k):=
 ⟨Nat.le_succ_of_le e.next,fun b ah hm=>by
   rw [eB,if_neg (fun q=>(gA (h:=h) ah e.next) ▸ q)]
   exact e.get b ah hm⟩
theorem Mod.set {M:a6→Prop} {h aa:aj} (e:Mod M h aa) {b:a6} (ah:Old h b→M b) (k:cT):Mod M h (aa.set b k):=
 ⟨e.next,fun b1 eF hm=>by
   rw [du]
   by_cases q:b=b1
   · subst q
     exact absurd (ah eF) hm
   · rw [if_neg q]
     exact e.get b1 eF hm⟩
theorem Ext.mod {h aa:aj} (e:Ext h aa) (M:a6→Prop):Mod M h aa:=⟨e.next,fun b ah _=>e.get b ah⟩
theorem Ext.lf {h aa fo:aj} (e:Ext h aa) {M:a6→Prop} (m:Mod M aa fo) (hm:∀b,M b→h.next≤cu b):Ext h fo:=
 ⟨Nat.le_trans e.next m.next,fun b ah=>by
   have kL:¬M b:=fun q=>by have:=hm b q;unfold Old at ah;omega
   exact (m.get b (e.b6 ah) kL).trans (e.get b ah)⟩
theorem Mod.at {M:a6→Prop} {h aa:aj} (e:Mod M h aa) {b:a6} {off:Nat} {ai:List V} (H:jL h b off ai) (hm:¬M b):jL aa b off ai:=by
 obtain ⟨al,us,ae,ak,aC⟩:=H
 refine ⟨e.b6 al,us,?_,ak,aC⟩
 unfold Rd at ae ⊢
 rw [e.get b al hm]
 exact ae
theorem cZ {h:aj} {i:Nat} (aG:i<h.next):Old h (ao i):=by unfold Old;rw [cS];exact aG
theorem lM {h:aj} {b:a6} {i:Nat} (ah:Old h b) (aG:h.next≤i):(b=ao i)=False:=by
 apply eq_false
 intro e
 unfold Old at ah
 rw [e,cS] at ah
 omega
def V.bb:V→a6→Prop
 | .slice b _ _ _,b1=>b1=b
 | .ev b _ _ _,b1=>b1=b
 | _,_=>False
theorem cg.jf {h:aj} {size:Nat} {v:V} {n:Nat} {ai:List V} (H:cg h size v n ai) {k:IntKind} {i:Nat} (aG:i<n):
 ∃b off,fc size v (.int k i)=some (.ptr b (off+i * size))∧jL h b off ai∧v.bb b:=by
 have eb:=H.2
 cases v<;>simp only at eb<;>first
  | omega
  | (exact eb.elim)
  | skip
 · rename_i b off len cap
   obtain ⟨rfl,ae⟩:=eb
   refine ⟨b,off,?_,ae,rfl⟩
   rw [xY,if_pos (by omega)]
   simp
 · rename_i b off len cap
   obtain ⟨rfl,ae⟩:=eb
   refine ⟨b,off,?_,ae,rfl⟩
   rw [xX,if_pos (by omega)]
   simp
theorem cg.one {h:aj} {size:Nat} {v:V} {n:Nat} {ai:List V} (H:cg h size v n ai):v.one=true∧v.cells=[v]∧v.e3=true:=by
 have q:=H.2
 cases v<;>simp only at q<;>first | exact ⟨rfl,rfl,rfl⟩ | exact q.elim
theorem cg.mod {M:a6→Prop} {h aa:aj} (e:Mod M h aa) {size:Nat} {v:V} {n:Nat} {ai:List V} (H:cg h size v n ai) (hm:∀b,v.bb b→¬M b):cg aa size v n ai:=by
 refine ⟨H.1,?_⟩
 have eb:=H.2
 cases v<;>simp only at eb ⊢<;>first | exact eb | exact ⟨eb.1,e.at eb.2 (hm _ rfl)⟩
theorem cg.b6 {h:aj} {size:Nat} {v:V} {n:Nat} {ai:List V} (H:cg h size v n ai) {b:a6} (ah:v.bb b):Old h b:=by
 have eb:=H.2
 cases v<;>simp only [V.bb] at eb ah<;>first | (exact ah.elim) | (subst ah;exact eb.2.1)
def cm (B:Nat) (h:aj) (size:Nat) (v:V) (n:Nat) (ai:List V):Prop:=
 ai.length=n * size∧match v with
  | .ay=>n=0
  | .slice b off len cap=>len=n∧B≤cu b∧Old h b∧n≤cap∧cap≤top∧∃us c3 st,h.get b=.aq us c3 st∧off+cap * size≤us.length∧(us.drop off).take ai.length=ai
  | .ev b off len idx=>len=n∧B≤cu b∧Old h b∧off=0∧idx=0∧∃us st,h.get b=.aq us size st∧ai.length≤us.length∧us.take ai.length=ai
  | _=>False
theorem cm.v {B:Nat} {h:aj} {size:Nat} {v:V} {n:Nat} {ai:List V} (H:cm B h size v n ai):cg h size v n ai:=by
 obtain ⟨ae,ak⟩:=H
 refine ⟨ae,?_⟩
 cases v<;>simp only at ak ⊢<;>first | exact ak | skip
 · obtain ⟨aQ,_,aB,a',_,us,c3,st,cn,ea,fy⟩:=ak
   refine ⟨aQ,aB,us,.inr ⟨c3,st,cn⟩,?_,fy⟩
   rw [ae]
   have:=Nat.mul_le_mul_right size a'
   omega
 · obtain ⟨aQ,_,aB,a',_,us,st,cn,ea,fy⟩:=ak
   subst a'
   exact ⟨aQ,aB,us,.inr ⟨size,st,cn⟩,by omega,by simpa using fy⟩
theorem cm.base {B:Nat} {h:aj} {size:Nat} {v:V} {n:Nat} {ai:List V} (H:cm B h size v n ai) {b:a6} (ah:v.bb b):B≤cu b:=by
 have eb:=H.2
 cases v<;>simp only [V.bb] at eb ah<;>first | (exact ah.elim) | (subst ah;exact eb.2.1)
theorem cm.mono {B Bn:Nat} {h:aj} {size:Nat} {v:V} {n:Nat} {ai:List V} (H:cm B h size v n ai) (dJ:Bn≤B):cm Bn h size v n ai:=by
 refine ⟨H.1,?_⟩
 have eb:=H.2
 cases v<;>simp only at eb ⊢<;>first | exact eb | exact ⟨eb.1,Nat.le_trans dJ eb.2.1,eb.2.2⟩
theorem cm.mod {M:a6→Prop} {h aa:aj} (e:Mod M h aa) {B size:Nat} {v:V} {n:Nat} {ai:List V} (H:cm B h size v n ai) (hm:∀b,v.bb b→¬M b):cm B aa size v n ai:=by
 refine ⟨H.1,?_⟩
 have eb:=H.2
 cases v<;>simp only at eb ⊢<;>first | exact eb | skip
 · obtain ⟨aQ,aB,a',cn,ea,us,c3,st,fy,fZ⟩:=eb
   exact ⟨aQ,aB,e.b6 a',cn,ea,us,c3,st,by rw [e.get _ a' (hm _ rfl)];exact fy,fZ⟩
 · obtain ⟨aQ,aB,a',cn,ea,us,st,fy,fZ⟩:=eb
   exact ⟨aQ,aB,e.b6 a',cn,ea,us,st,by rw [e.get _ a' (hm _ rfl)];exact fy,fZ⟩
theorem cm.ext {h aa:aj} (e:Ext h aa) {B size:Nat} {v:V} {n:Nat} {ai:List V} (H:cm B h size v n ai):cm B aa size v n ai:=
 H.mod (e.mod fun _=>False) fun _ _ q=>q
theorem aca {h:aj} {size:Nat} {v:V} {n:Nat} {ai:List V} (H:cg h size v n ai):o6 v=some n:=by
 have eb:=H.2
 cases v<;>simp only at eb<;>first
  | (rw [←eb.1];rfl)
  | (subst eb;rfl)
  | (exact eb.elim)
theorem A6 {h:aj} {b:a6} {off size n:Nat} {ai:List V} (H:jL h b off ai) (aK:ai.length=n * size):r4 h size b off n=some ai:=by
 obtain ⟨_,us,ae,ak,aC⟩:=H
 unfold r4
 rw [ae.po,show Nat.ble (off+n * size) us.length=true from by rw [Nat.ble_eq];omega,zD us _ off (by omega),←aK,aC]
 rfl
theorem agc {h:aj} {size:Nat} {v:V} {n:Nat} {ai:List V} (H:cg h size v n ai):tp h size v n=some ai:=by
 obtain ⟨ae,ak⟩:=H
 cases v<;>simp only at ak<;>first
  | (exact ak.elim)
  | (obtain ⟨_,aC⟩:=ak;exact A6 aC ae)
  | (subst ak
     have:ai=[]:=List.eq_nil_of_length_eq_zero (by omega)
     subst this
     rfl)
theorem cm.grown {B:Nat} {h:aj} {size:Nat} {ai:List V} {n:Nat} {st:Bool} (aK:ai.length=n * size) (dJ:B≤h.next):cm B (h.new (.aq ai size st)) size (.ev (ao h.next) 0 n 0) n ai:=
 ⟨aK,rfl,by rw [cS];exact dJ,uI,rfl,rfl,ai,st,gi _,Nat.le_refl _,List.take_length⟩
theorem SW {h:aj} {size:Nat} {s x:V} {m:Nat} {ai:List V} (eb:cg h size x m ai) (hm:m≤top):l6 size s x h=(match s with
 | .ay=>xk size m ai h
 | .slice b off len cap=>xj size b off len cap m ai h
 | .ev b off len idx=>xi size b off len idx m ai h
 | _=>.fail):=by
 unfold l6
 rw [aca eb]
 simp only
 rw [agc eb]
 simp only
 rw [show Nat.ble m top=true from by rw [Nat.ble_eq];exact hm]
 rfl
theorem Rk (A:List V) (o:Nat) (W:List V) (h:o+W.length≤A.length) (q:Nat):(iL A o W)[q]? =if q<o then A[q]? else if q<o+W.length then W[q-o]? else A[q]? :=by
 have aK:(A.take o).length=o:=by rw [List.length_take];omega
 unfold iL
 rw [List.append_assoc]
 by_cases cl:q<o
 · rw [if_pos cl,List.getElem?_append_left (by omega),List.getElem?_take_of_lt cl]
 · rw [if_neg cl,List.getElem?_append_right (by omega),aK]
   by_cases dr:q<o+W.length
   · rw [if_pos dr,List.getElem?_append_left (by omega)]
   · rw [if_neg dr,List.getElem?_append_right (by omega),List.getElem?_drop]
     congr 1
     omega
theorem yr (A:List V) (o j:Nat) (L W:List V) (dC:o+L.length≤A.length) (bW:(A.drop o).take L.length=L) (bS:j+W.length≤L.length):((iL A (o+j) W).drop o).take L.length=iL L j W:=by
 apply List.ext_getElem?
 intro q
 have aK:((A.drop o).take L.length)[q]? =L[q]? :=by rw [bW]
 rw [Rk L j W bS]
 by_cases a2:q<L.length
 · rw [List.getElem?_take_of_lt a2,List.getElem?_drop,Rk A (o+j) W (by omega)]
   rw [List.getElem?_take_of_lt a2,List.getElem?_drop] at aK
   by_cases cl:q<j
   · rw [if_pos (by omega),if_pos cl,aK]
   · rw [if_neg (by omega),if_neg cl]
     by_cases dr:q<j+W.length
     · rw [if_pos (by omega),if_pos dr]
       congr 1
       omega
     · rw [if_neg (by omega),if_neg dr,aK]
 · rw [List.getElem?_take_eq_none (by omega),if_neg (by omega),if_neg (by omega),List.getElem?_eq_none (by omega)]
theorem sw {B:Nat} {h:aj} {size:Nat} {s x:V} {n m:Nat} {us ai:List V} (gd:1≤size) (H1:cm B h size s n us) (eb:cg h size x m ai) (dJ:B≤h.next) (hlen:(n+m) * size≤top) (bD:gh ai=true):
 ∃v aa,l6 size s x h=.val v aa∧cm B aa size v (n+m) (us++ai)∧Mod s.bb h aa∧∀b,v.bb b→s.bb b∨h.next≤cu b:=by
 have kL:n+m≤top:=Nat.le_trans (Nat.le_mul_of_pos_right _ gd) hlen
 have e4:=H1.1
 have g8:=eb.1
 have gP:(us++ai).length=(n+m) * size:=by rw [List.length_append,e4,g8,Nat.add_mul]
 rw [SW eb (by omega)]
 have ak:=H1.2
 cases s<;>simp only at ak ⊢<;>try (exact ak.elim)
 case ay=>
  subst ak
  have:us=[]:=List.eq_nil_of_length_eq_zero (by omega)
  subst this
  unfold xk
  by_cases hm:m=0
  · subst hm
    have:ai=[]:=List.eq_nil_of_length_eq_zero (by omega)
    subst this
    exact ⟨.ay,h,rfl,⟨by simp,rfl⟩,Mod.refl _ _,fun b ah=>.inl ah⟩
  · rw [show Nat.beq m 0=false from by rw [←Bool.not_eq_true,Nat.beq_eq];exact hm]
    simp only [cond_false]
    rw [yb (by rw [g8];simpa using hlen) gd]
    refine ⟨_,_,rfl,?_,(Mod.refl _ _).new _,fun b ah=>.inr (by rw [show b=ao h.next from ah,cS];exact Nat.le_refl _)⟩
    have:=cm.grown (B:=B) (h:=h) (size:=size) (ai:=ai) (n:=m) (st:=false) g8 dJ
    simpa using this
 case slice b off len cap=>
  obtain ⟨rfl,aB,a',cn,ea,iv,c3,st,fy,fZ,gI⟩:=ak
  unfold xj
  by_cases aD:len+m≤cap
  · rw [show Nat.ble (len+m) cap=true from by rw [Nat.ble_eq];exact aD]
    simp only [cond_true]
    have h8:off+len * size+ai.length≤iv.length:=by
     have:=Nat.mul_le_mul_right size aD
     rw [Nat.add_mul] at this
     rw [g8]
     omega
    rw [Own.lay (ai:=iv) (c3:=c3) (st:=st) fy h8 bD]
    refine ⟨_,_,rfl,⟨gP,rfl,aB,a',aD,ea,_,c3,st,du _ _ _ |>.trans (if_pos rfl),?_,?_⟩,(Mod.refl (V.bb (.slice b off len cap)) h).set (fun _=>rfl) _,fun b1 ah=>.inl ah⟩
    · rw [uS _ _ _ h8];exact fZ
    · rw [List.length_append]
      unfold iL
      have fq:off+us.length≤iv.length:=by rw [e4];omega
      have aI:iv.take (off+len * size)=iv.take off++us:=by
       rw [←e4,List.take_add,gI]
      rw [aI,List.append_assoc,List.append_assoc,List.drop_append,List.drop_eq_nil_of_le (by rw [List.length_take];omega),List.nil_append]
      rw [show off - (iv.take off).length=0 from by rw [List.length_take];omega,List.drop_zero]
      rw [←List.append_assoc,List.take_left' (by rw [List.length_append])]
  · rw [show Nat.ble (len+m) cap=false from by rw [←Bool.not_eq_true,Nat.ble_eq];exact aD]
    simp only [cond_false]
    rw [show (Nat.ble (len+m) top&&Nat.ble cap top)=true from by simp only [Bool.and_eq_true,Nat.ble_eq];exact ⟨kL,ea⟩]
    simp only [cond_true]
    have hr:jL h b off us:=⟨a',iv,.inr ⟨c3,st,fy⟩,by rw [e4];have:=Nat.mul_le_mul_right size cn;omega,gI⟩
    rw [A6 hr e4]
    simp only
    rw [yb (by rw [gP];exact hlen) gd]
    exact ⟨_,_,rfl,cm.grown gP dJ,(Mod.refl _ _).new _,fun b ah=>.inr (by rw [show b=ao h.next from ah,cS];exact Nat.le_refl _)⟩
 case ev b off len idx=>
  obtain ⟨rfl,aB,a',rfl,rfl,iv,st,fy,fZ,gI⟩:=ak
  unfold xi
  by_cases hm:m=0
  · subst hm
    have:ai=[]:=List.eq_nil_of_length_eq_zero (by omega)
    subst this
    exact ⟨_,h,rfl,⟨gP,rfl,aB,a',rfl,rfl,iv,st,fy,by simpa using fZ,by simpa using gI⟩,Mod.refl _ _,fun b ah=>.inl ah⟩
  · rw [show Nat.beq m 0=false from by rw [←Bool.not_eq_true,Nat.beq_eq];exact hm]
    simp only [cond_false]
    rw [fy]
    simp only [cT.aq,cT.on]
    rw [show (Nat.beq size size&&(Nat.ble (len+m) top&&gh ai)&&Nat.beq 0 (0 * size))=true from by
     simp only [Bool.and_eq_true,Nat.beq_eq,Nat.ble_eq]
     exact ⟨⟨trivial,kL,bD⟩,by omega⟩]
    simp only [cond_true]
    have hr:jL h b 0 us:=⟨a',iv,.inr ⟨size,st,fy⟩,by omega,by simpa using gI⟩
    rw [A6 hr e4]
    simp only
    rw [yb (by rw [gP];exact hlen) gd]
    exact ⟨_,_,rfl,cm.grown (h:=h.set b .dead) gP dJ,((Mod.refl (V.bb (.ev b 0 len 0)) h).set (fun _=>rfl) _).new _,fun b1 ah=>.inr (by rw [show b1=ao h.next from ah,cS];exact Nat.le_refl _)⟩
theorem PZ {ai ws:List V} (ae:gh ai=true) (ak:gh ws=true):gh (ai++ws)=true:=by
 induction ai with
 | nil=>exact ak
 | cons v ai bN=>
   simp only [gh,Bool.and_eq_true,List.cons_append] at ae ⊢
   exact ⟨ae.1,bN ae.2⟩
def V.at (v:V) (b:a6) (off:Nat):Prop:=
 match v with
 | .slice b1 o _ _=>b=b1∧off=o
 | .ev b1 o _ _=>b=b1∧off=o
 | _=>False
theorem Fc {h:aj} {size:Nat} {v:V} {n:Nat} {ai:List V} (H:cg h size v n ai) {k:IntKind} {i:Nat} (aG:i<n) {b:a6} {off:Nat} (e:fc size v (.int k i)=some (.ptr b (off+i * size))):v.at b off:=by
 have eb:=H.2
 cases v<;>simp only at eb<;>first | omega | (exact eb.elim) | skip
 · obtain ⟨rfl,_⟩:=eb
   rw [xY,if_pos (by omega)] at e
   simp only [Option.some.injEq,V.ptr.injEq,Int.toNat_natCast] at e
   exact ⟨e.1.symm,by omega⟩
 · obtain ⟨rfl,_⟩:=eb
   rw [xX,if_pos (by omega)] at e
   simp only [Option.some.injEq,V.ptr.injEq,Int.toNat_natCast] at e
   exact ⟨e.1.symm,by omega⟩
theorem Rl (ai:List V) (c:Nat) (y:V) (h:c<ai.length):iL ai c [y]=ai.set c y:=by
 unfold iL
 rw [List.set_eq_take_append_cons_drop,if_pos h]
 simp
theorem cm.Ir {B:Nat} {h:aj} {size:Nat} {v:V} {n:Nat} {ai:List V} (H:cm B h size v n ai) {b:a6} {off:Nat} (bU:v.at b off) {c:Nat} (aD:c<ai.length) {y:V} (bK:y.cells=[y]) (bD:y.one=true):
 ∃k,qL 1 h b (off+c) y (h.get b)=some (h.set b k)∧(∀jx:aj,jx.get b=h.get b→qL 1 jx b (off+c) y (h.get b)=some (jx.set b k))∧cm B (h.set b k) size v n (ai.set c y)∧v.bb b:=by
 obtain ⟨ae,ak⟩:=H
 have xS:gh y.cells=true:=by rw [bK];simp [gh,bD]
 cases v<;>simp only at ak<;>simp only [V.at] at bU<;>try (exact bU.elim)
 case slice b1 o len cap=>
  obtain ⟨rfl,rfl⟩:=bU
  obtain ⟨rfl,aB,a',cn,ea,iv,c3,st,fy,fZ,gI⟩:=ak
  have N_:=Nat.mul_le_mul_right size cn
  have h8:off+c+y.cells.length≤iv.length:=by rw [bK];simp;omega
  have e:∀jx:aj,jx.get b=h.get b→qL 1 jx b (off+c) y (h.get b)=some (jx.set b (.aq (ot iv (off+c) y.cells) c3 st)):=by
   intro jx _
   rw [fy]
   exact HN (by rw [bK];rfl) xS (by rw [bK] at h8;simpa using h8)
  refine ⟨_,e h rfl,e,⟨by simpa using ae,rfl,aB,a',cn,ea,_,c3,st,du _ _ _ |>.trans (if_pos rfl),?_,?_⟩,rfl⟩
  · rw [IZ _ _ _ h8];exact fZ
  · rw [yq _ _ _ h8,List.length_set]
    have:=yr iv off c ai y.cells (by rw [ae];omega) gI (by rw [bK];simp;omega)
    rw [this,bK,Rl ai c y aD]
 case ev b1 o len idx=>
  obtain ⟨rfl,rfl⟩:=bU
  obtain ⟨rfl,aB,a',rfl,rfl,iv,st,fy,fZ,gI⟩:=ak
  have h8:0+c+y.cells.length≤iv.length:=by rw [bK];simp;omega
  have e:∀jx:aj,jx.get b=h.get b→qL 1 jx b (0+c) y (h.get b)=some (jx.set b (.aq (ot iv (0+c) y.cells) size st)):=by
   intro jx _
   rw [fy]
   exact HN (by rw [bK];rfl) xS (by rw [bK] at h8;simpa using h8)
  refine ⟨_,e h rfl,e,⟨by simpa using ae,rfl,aB,a',rfl,rfl,_,st,du _ _ _ |>.trans (if_pos rfl),?_,?_⟩,rfl⟩
  · rw [IZ _ _ _ h8,List.length_set];exact fZ
  · rw [yq _ _ _ h8,List.length_set]
    have:=yr iv 0 c ai y.cells (by omega) (by simpa using gI) (by rw [bK];simp;omega)
    rw [List.drop_zero] at this
    rw [this,bK,Rl ai c y aD]
theorem adD (r:bV):bs.opt r none=none:=(rfl)
theorem adE (r:bV) (x:bs):bs.opt r (some x)=some (x.bu r):=(rfl)
theorem ni {k:IntKind} {m d y:Nat} (h:m≤y):bound (some (.int k (m:Int))) d y=some m:=by
 simp only [bound,V.eX,o5]
 rw [show (decide ((0:Int)≤(m:Int))&&decide ((m:Int)≤(y:Int)))=true from by simp;omega]
 simp
theorem mP (d y:Nat):bound none d y=some d:=rfl
theorem cg.cut {h:aj} {size:Nat} {v:V} {n:Nat} {ai:List V} (H:cg h size v n ai) {k cf:IntKind} {cq aG:Nat} (ae:cq≤aG) (ak:aG≤n) (wm vD:Option V)
 (fq:wm=some (.int k cq)∨wm=none∧cq=0) (j9:vD=some (.int cf aG)∨vD=none∧aG=n) (rA:∀b off l c,v=.slice b off l c→l≤c):
 ∃dg,gV size v wm vD none=some dg∧cg h size dg (aG-cq) ((ai.drop (cq * size)).take ((aG-cq) * size))∧∀b,dg.bb b→v.bb b:=by
 obtain ⟨aQ,aB⟩:=H
 have gP:((ai.drop (cq * size)).take ((aG-cq) * size)).length=(aG-cq) * size:=by
  rw [List.length_take,List.length_drop,aQ]
  have aI:=Nat.mul_le_mul_right size ae
  have bh:=Nat.mul_le_mul_right size ak
  rw [Nat.sub_mul]
  omega
 have vg:∀y,cq≤y→bound wm 0 y=some cq:=by
  intro y bK
  rcases fq with rfl | ⟨rfl,rfl⟩
  · exact ni bK
  · rfl
 have zd:∀d y,n=d→n≤y→bound vD d y=some aG:=by
  intro d y cc bK
  rcases j9 with rfl | ⟨rfl,rfl⟩
  · exact ni (by omega)
  · rw [mP,cc]
 have piece:∀(b:a6) (off:Nat),jL h b off ai→jL h b (off+cq * size) ((ai.drop (cq * size)).take ((aG-cq) * size)):=by
  rintro b off ⟨bw,us,b3,a3,a4⟩
  have aI:=Nat.mul_le_mul_right size ae
  have bh:=Nat.mul_le_mul_right size ak
  refine ⟨bw,us,b3,?_,?_⟩
  · rw [gP,Nat.sub_mul];omega
  · rw [gP,←List.drop_drop]
    have:(us.drop off).drop (cq * size)=(((us.drop off).take ai.length).drop (cq * size))++(us.drop off).drop ai.length:=by
     rw [←List.drop_append_of_le_length (by rw [List.length_take,List.length_drop];omega),List.take_append_drop]
    rw [this,a4,List.take_append_of_le_length (by rw [List.length_drop,aQ,Nat.sub_mul];omega)]
 cases v<;>simp only at aB<;>try (exact aB.elim)
 case ay=>
  subst aB
  obtain rfl:aG=0:=by omega
  obtain rfl:cq=0:=by omega
  refine ⟨.ay,?_,⟨gP,rfl⟩,fun b ah=>ah⟩
  simp only [gV,wK,zd 0 0 rfl (Nat.le_refl _),vg 0 (Nat.le_refl _)]
 case slice b off len cap=>
  obtain ⟨rfl,a'⟩:=aB
  have aD:=rA b off len cap rfl
  have e:gV size (.slice b off len cap) wm vD none=some (.slice b (bif Nat.beq cap cq then off else off+cq * size) (aG-cq) (cap-cq)):=by
   simp only [gV,p_,zd len cap rfl aD,vg aG ae]
  rw [e]
  refine ⟨_,rfl,⟨gP,rfl,?_⟩,fun b1 ah=>ah⟩
  cases ah:Nat.beq cap cq with
  | false=>exact piece b off a'
  | true=>
    rw [Nat.beq_eq] at ah
    obtain rfl:aG=cq:=by omega
    obtain ⟨bw,us,b3,a3,a4⟩:=a'
    refine ⟨bw,us,b3,?_,?_⟩<;>simp
    omega
 case ev b off len idx=>
  obtain ⟨rfl,a'⟩:=aB
  by_cases aX:cq<len
  · have e:gV size (.ev b off len idx) wm vD none=some (.ev b (off+cq * size) (aG-cq) (idx+cq)):=by
     simp only [gV,pr,zd len len rfl (Nat.le_refl _),vg aG ae]
     rw [show Nat.blt cq len=true from by rw [Nat.blt_eq];exact aX]
     rfl
    rw [e]
    exact ⟨_,rfl,⟨gP,rfl,piece b off a'⟩,fun b1 ah=>ah⟩
  · have e:gV size (.ev b off len idx) wm vD none=some (.ia b off (off+cq * size) (idx+cq)):=by
     simp only [gV,pr,zd len len rfl (Nat.le_refl _),vg aG ae]
     rw [show Nat.blt cq len=false from by rw [←Bool.not_eq_true,Nat.blt_eq];exact aX]
     rfl
    rw [e]
    exact ⟨_,rfl,⟨gP,by omega⟩,fun b1 ah=>ah.elim⟩
 case ia b off o_ idx=>
  subst aB
  obtain rfl:aG=0:=by omega
  obtain rfl:cq=0:=by omega
  refine ⟨.ia b off o_ idx,?_,⟨gP,rfl⟩,fun b ah=>ah⟩
  simp only [gV,yp,zd 0 0 rfl (Nat.le_refl _),vg 0 (Nat.le_refl _)]
theorem cm.cut {B:Nat} {h:aj} {size:Nat} {v:V} {n:Nat} {ai:List V} (H:cm B h size v n ai) {k:IntKind} {m:Nat} (hm:m≤n) (a7:1≤n):
 ∃dg,gV size v none (some (.int k m)) none=some dg∧cm B h size dg m (ai.take (m * size))∧∀b,dg.bb b→v.bb b:=by
 obtain ⟨aQ,aB⟩:=H
 have Yw:=Nat.mul_le_mul_right size hm
 have gP:(ai.take (m * size)).length=m * size:=by rw [List.length_take];omega
 cases v<;>simp only at aB<;>try (first | omega | exact aB.elim)
 case slice b off len cap=>
  obtain ⟨rfl,a',cn,ea,fy,us,c3,st,fZ,gI,ky⟩:=aB
  have e:gV size (.slice b off len cap) none (some (.int k m)) none=some (.slice b off m cap):=by
   simp only [gV,p_,ni (show m≤cap by omega),mP]
   cases Nat.beq cap 0<;>simp
  rw [e]
  refine ⟨_,rfl,⟨gP,rfl,a',cn,by omega,fy,us,c3,st,fZ,gI,?_⟩,fun b1 ah=>ah⟩
  rw [gP,←ky,List.take_take]
  congr 1
  omega
 case ev b off len idx=>
  obtain ⟨rfl,a',cn,rfl,rfl,us,st,fZ,gI,ky⟩:=aB
  have e:gV size (.ev b 0 len 0) none (some (.int k m)) none=some (.ev b 0 m 0):=by
   simp only [gV,pr,ni hm,mP]
   rw [show Nat.blt 0 len=true from by rw [Nat.blt_eq];omega]
   simp
  rw [e]
  refine ⟨_,rfl,⟨gP,rfl,a',cn,rfl,rfl,us,st,fZ,by omega,?_⟩,fun b1 ah=>ah⟩
  rw [gP,←ky,List.take_take]
  congr 1
  omega
theorem acY (b:a6) (o:Nat):uE (.ptr b o)=some (.ptr b o):=rfl
theorem acF (k cf:IntKind) (a b:Int):lQ (fun b a=>!Int.leB a b) [.int k a,.int cf b]=some (.int k (if b<a then b else a)):=by
 simp only [lQ,wD,V.eX,o5]
 by_cases h:b<a
 · rw [if_pos h]
   have:¬a≤b:=by omega
   simp [this]
 · rw [if_neg h]
   have:a≤b:=by omega
   simp [this]
theorem acH (k cf:IntKind) (a b:Int):lQ (fun b a=>!Int.leB b a) [.int k a,.int cf b]=some (.int k (if a<b then b else a)):=by
 simp only [lQ,wD,V.eX,o5]
 by_cases h:a<b
 · rw [if_pos h]
   have:¬b≤a:=by omega
   simp [this]
 · rw [if_neg h]
   have:b≤a:=by omega
   simp [this]
theorem jL.cell {h:aj} {b:a6} {off:Nat} {ai:List V} (H:jL h b off ai) {i j n:Nat} {ws:List V} (hw:(ai.drop i).take n=ws) (aG:i+n≤ai.length) (bS:j<n):hX (h.get b) (off+i+j)=ws[j]? :=by
 rw [Nat.add_assoc,H.b9 (by omega),←hw,List.getElem?_take_of_lt bS,List.getElem?_drop,List.getElem?_eq_getElem]
end Go.Proofs.YtjbiefneffiogaaGreat.bA
namespace Go.Proofs.YtjbiefneffiogaaGreat.bA
variable [Lay]
open Go Go.RowKit
set_option linter.defProp false
end Go.Proofs.YtjbiefneffiogaaGreat.bA
namespace Go.Proofs.YtjbiefneffiogaaGreat.bA
variable [Lay]
open Go Go.RowKit
theorem V2 {P:Program} {aF:List iU} {r:bV} {h:aj} {Q:cW→bV→aj→Prop} {a b:bE}:xp P (.bool true) a b aF r h Q=bR P (.c a::aF) .normal r h Q:=by
 rw [M0];simp
theorem V1 {P:Program} {aF:List iU} {r:bV} {h:aj} {Q:cW→bV→aj→Prop} {a b:bE}:xp P (.bool false) a b aF r h Q=bR P (.c b::aF) .normal r h Q:=by
 rw [M0];simp
theorem ve (a b:List UInt8):oL a b=decide (a=b):=by
 rw [xo,Bool.eq_iff_iff]
 simp
theorem Fh (k:IntKind) (b:Int) (d y:Nat):bound (some (.int k b)) d y=if 0≤b∧b≤(y:Int) then some b.toNat else none:=by
 simp only [bound,V.eX,o5]
 by_cases ae:0≤b<;>by_cases ak:b≤(y:Int)<;>simp [ae,ak]
theorem af5 (s:List UInt8) (k:IntKind) (b:Int):mx (.str s) none (some (.int k b)) none=if 0≤b∧b≤(s.length:Int) then some (.str (s.take b.toNat)) else none:=by
 simp only [mx,Fh]
 by_cases h:0≤b∧b≤(s.length:Int)
 · simp only [h,and_self,if_true,bound,List.drop_zero,Nat.sub_zero]
 · simp only [h,if_false]
theorem af6 (s:List UInt8) (k:IntKind) (a:Int):mx (.str s) (some (.int k a)) none none=if 0≤a∧a≤(s.length:Int) then some (.str (s.drop a.toNat)) else none:=by
 simp only [mx,mP,Fh]
 by_cases h:0≤a∧a≤(s.length:Int)
 · simp only [h,and_self,if_true]
   rw [List.take_of_length_le (by rw [List.length_drop];omega)]
 · simp only [h,if_false]
theorem IW (s:List UInt8) (k cf:IntKind) (a b:Int):mx (.str s) (some (.int k a)) (some (.int cf b)) none=if 0≤a∧a≤b∧b≤(s.length:Int) then some (.str ((s.drop a.toNat).take (b.toNat-a.toNat))) else none:=by
 simp only [mx,Fh]
 by_cases h:0≤b∧b≤(s.length:Int)
 · simp only [h,and_self,if_true]
   by_cases ak:0≤a∧a≤b
   · have:0≤a∧a≤((b.toNat:Nat):Int):=by omega
     simp only [this,and_self,if_true,ak,h]
   · have aC:¬(0≤a∧a≤((b.toNat:Nat):Int)):=by omega
     have bq:¬(0≤a∧a≤b∧b≤(s.length:Int)):=by omega
     have dZ:¬(0≤a∧a≤b∧True):=fun q=>ak ⟨q.1,q.2.1⟩
     rw [if_neg dZ,if_neg aC]
 · have bq:¬(0≤a∧a≤b∧b≤(s.length:Int)):=by omega
   simp only [h,bq,if_false]
theorem af4 (s:List UInt8):mx (.str s) none none none=some (.str s):=by
 simp only [mx,mP,List.drop_zero,Nat.sub_zero,List.take_length]
section
variable {P:Program}
theorem Q2 (a b:List UInt8):(eH.str .eql).run P (.str a) (.str b)=some (.bool (decide (a=b))):=by simp only [eH.run,tq,r6,ve]
theorem IP (a b:List UInt8):(eH.str .add).run P (.str a) (.str b)=if a.length+b.length≤top then some (.str (a++b)) else none:=by
 simp only [eH.run,tq,D3]
 by_cases h:a.length+b.length≤top
 · rw [if_pos h,show Nat.ble (a.length+b.length) top=true from by rw [Nat.ble_eq];exact h]
   rfl
 · rw [if_neg h,show Nat.ble (a.length+b.length) top=false from by rw [←Bool.not_eq_true,Nat.ble_eq];exact h]
   rfl
theorem IQ (s:List UInt8) (k:IntKind) (i:Int):qK.run (.str s) (.int k i)=if 0≤i∧i < (s.length:Int) then some (.int .u8 (((s[i.toNat]?).getD 0).toNat:Int)) else none:=by
 simp only [qK,V.eX,o5]
 by_cases ae:0≤i
 · simp only [ae,decide_true,cond_true,true_and]
   by_cases ak:i < (s.length:Int)
   · rw [if_pos ak,List.getElem?_eq_getElem (by omega)]
     rfl
   · rw [if_neg ak,List.getElem?_eq_none (by omega)]
 · simp only [ae,decide_false,cond_false,false_and,if_false]
theorem afM (a b:List UInt8):(eH.str .neq).run P (.str a) (.str b)=some (.bool (!decide (a=b))):=by simp only [eH.run,tq,r6,ve]
end
end Go.Proofs.YtjbiefneffiogaaGreat.bA
namespace Go.Proofs.YtjbiefneffiogaaGreat.bA
open Go Go.RowKit
set_option linter.defProp false
def aha:=
 And.intro @aaR<|And.intro @Z4<|And.intro @aaZ<|And.intro @Z5<|And.intro @aaW<|And.intro @aa0<|And.intro @aaX<|And.intro @aam<|And.intro @aae<|And.intro @aaa<|And.intro @aac<|And.intro @aaH<|And.intro @aak<|And.intro @aaU<|And.intro @aaN<|And.intro @abE<|And.intro @aaV<|And.intro @abJ<|And.intro @Z9<|And.intro @abb<|And.intro @aaz<|And.intro @abu<|And.intro @aaA<|And.intro @abv<|And.intro @aaS<|And.intro @abH<|And.intro @Z3<|And.intro @aa'<|And.intro @aa5<|And.intro @abO<|And.intro @aar<|And.intro @abn<|And.intro @aaw<|And.intro @abq<|And.intro @aa2<|And.intro @abM<|And.intro @aa1<|And.intro @abL<|And.intro @aao<|@abk
def ahb:=
 And.intro @aap<|And.intro @abl<|And.intro @aaq<|And.intro @abm<|And.intro @aau<|And.intro @abo<|And.intro @aav<|And.intro @abp<|And.intro @aay<|And.intro @abt<|And.intro @aax<|And.intro @abr<|And.intro @aaG<|And.intro @abA<|And.intro @aan<|And.intro @abj<|And.intro @aaL<|And.intro @abD<|And.intro @aaO<|And.intro @abF<|And.intro @aag<|And.intro @abg<|And.intro @aaD<|And.intro @aby<|And.intro @aaE<|And.intro @abz<|And.intro @aaB<|And.intro @abw<|And.intro @aaQ<|And.intro @abG<|And.intro @Z7<|And.intro @aa_<|And.intro @Z8<|And.intro @aba<|And.intro @aa3<|And.intro @abN<|And.intro @aaK<|And.intro @abC<|And.intro @C'<|@abP
def ahc:=
 And.intro @aaJ<|And.intro @abB<|And.intro @aaY<|And.intro @abK<|And.intro @aaT<|And.intro @abI<|And.intro @Z1<|And.intro @aa9<|And.intro @aad<|And.intro @abe<|And.intro @aaC<|And.intro @abx<|And.intro @aaf<|And.intro @abf<|And.intro @aai<|And.intro @abi<|And.intro @aah<|And.intro @abh<|And.intro @abc<|And.intro @abd<|And.intro @Z'<|And.intro @Z_<|@aaj
def ahd:=
 And.intro @agv<|And.intro @IX<|And.intro @V2<|And.intro @V1<|And.intro @Vw<|And.intro @aez<|And.intro @Tr<|And.intro @Tq<|And.intro @adG<|And.intro @WH<|And.intro @WG<|And.intro @Tt<|And.intro @Wt<|And.intro @Ws<|And.intro @adV<|And.intro @Wv<|And.intro @adi<|And.intro @adh<|And.intro @ace<|And.intro @acb<|And.intro @acf<|And.intro @acd<|And.intro @acg<|And.intro @xY<|And.intro @xX<|And.intro @Wc<|And.intro @Cl<|And.intro @xy<|And.intro @agF<|And.intro @afS<|And.intro @afT<|And.intro @ac_<|And.intro @ada<|And.intro @adF<|And.intro @adC<|And.intro @agX<|And.intro @agW<|And.intro @Tj<|And.intro @Tk<|@Tl
def ahe:=
 And.intro @Tm<|And.intro @Ti<|And.intro @R_<|And.intro @Sb<|And.intro @Sa<|And.intro @agC<|And.intro @agE<|And.intro @agD<|And.intro @ZV<|And.intro @ZX<|And.intro @ZW<|And.intro @Z0<|And.intro @aa4<|And.intro @aaM<|And.intro @aal<|And.intro @aaP<|And.intro @aaI<|And.intro @aaF<|And.intro @aat<|And.intro @aas<|And.intro @Z2<|And.intro @Z6<|And.intro @agM<|And.intro @agL<|And.intro @ack<|And.intro @acm<|And.intro @qN<|And.intro @Pe<|And.intro @HQ<|And.intro @Pg<|And.intro @agr<|And.intro @ab2<|And.intro @gi<|And.intro @eB<|And.intro @du<|And.intro @iH<|And.intro @cO<|And.intro @gU<|And.intro @acV<|@VE
def ahf:=
 And.intro @adj<|And.intro @W'<|And.intro @VI<|And.intro @Dw<|And.intro @oU<|And.intro @VR<|And.intro @adv<|And.intro @Xk<|And.intro @VN<|And.intro @adr<|And.intro @Xg<|And.intro @VP<|And.intro @adt<|And.intro @Xi<|And.intro @VQ<|And.intro @adu<|And.intro @Xj<|And.intro @VG<|And.intro @adl<|And.intro @Xa<|And.intro @VS<|And.intro @adw<|And.intro @Xl<|And.intro @VO<|And.intro @ads<|And.intro @Xh<|And.intro @VM<|And.intro @adq<|And.intro @Xf<|And.intro @VJ<|And.intro @adn<|And.intro @Xc<|And.intro @VF<|And.intro @adk<|And.intro @W_<|And.intro @VL<|And.intro @adp<|And.intro @Xe<|And.intro @VH<|@adm
def ahg:=
 And.intro @Xb<|And.intro @VK<|And.intro @ado<|And.intro @Xd<|And.intro @VD<|And.intro @W9<|And.intro @Xm<|And.intro @ab8<|And.intro @ab9<|And.intro @ab7<|And.intro @beq_true<|And.intro @beq_false<|And.intro @Bool.not_true<|And.intro @Bool.not_false<|And.intro @Bool.true_and<|And.intro @Bool.and_true<|And.intro @Bool.false_and<|And.intro @Bool.and_false<|And.intro @Bool.not_not<|And.intro @V.bool.injEq<|And.intro @Nat.zero_add<|And.intro @Nat.add_zero<|And.intro @agz<|And.intro @agA<|And.intro @agy<|And.intro @Bool.true_eq_false<|And.intro @Bool.false_eq_true<|And.intro @agB<|And.intro @ad2<|And.intro @ad3<|And.intro @S7<|And.intro @S6<|And.intro @S3<|And.intro @SZ<|And.intro @XU<|And.intro @XW<|And.intro @XV<|And.intro @S0<|And.intro @S1<|@S4
def ahh:=
 And.intro @S5<|And.intro @wx<|And.intro @aho<|And.intro @uG<|And.intro @ahp<|And.intro @qS<|And.intro @ahq<|And.intro @s9<|And.intro @ahr<|And.intro @Ia<|And.intro @ahs<|And.intro @ac5<|And.intro @aht<|And.intro @ac6<|And.intro @ahu<|And.intro @ac7<|And.intro @ahv<|And.intro @WX<|And.intro @WU<|And.intro @WW<|And.intro @WV<|And.intro @WY<|And.intro @Bool.or_false<|And.intro @Bool.false_or<|And.intro @Bool.or_true<|And.intro @Bool.true_or<|And.intro @acY<|And.intro @acF<|And.intro @acH<|And.intro @adD<|And.intro @adE<|And.intro @SC<|And.intro @SI<|And.intro @SJ<|And.intro @SK<|And.intro @SL<|And.intro @SM<|And.intro @SN<|And.intro @SO<|@SP
def ahi:=
 And.intro @SB<|And.intro @SD<|And.intro @SE<|And.intro @SF<|And.intro @SG<|And.intro @SH<|And.intro @af5<|And.intro @af6<|And.intro @IW<|And.intro @af4<|And.intro @Q2<|And.intro @afM<|And.intro @IP<|@IQ
end Go.Proofs.YtjbiefneffiogaaGreat.bA
namespace Go.Proofs.YtjbiefneffiogaaGreat.bA
variable [Lay]
open Go Go.RowKit
theorem iW {B:Nat} {h:aj} {size:Nat} {s:V} {n:Nat} {us cs:List V} (gd:1≤size) (H1:cm B h size s n us) (dJ:B≤h.next) (hlen:(n+1) * size≤top) (hg:cs.length=size) (bD:gh cs=true):
 ∃v aa,l6 size s (.slice (ao h.next) 0 1 1) (h.new (.aq cs 0 false))=.val v aa∧cm B aa size v (n+1) (us++cs)∧Mod s.bb h aa∧h.next+1≤aa.next∧∀b,v.bb b→s.bb b∨h.next<cu b:=by
 have az:Ext h (h.new (.aq cs 0 false)):=(Ext.refl h).new _
 have bk:cg (h.new (.aq cs 0 false)) size (.slice (ao h.next) 0 1 1) 1 cs:=by
  refine ⟨by rw [hg];omega,rfl,cZ (by rw [cO];omega),cs,.inr ⟨0,false,by rw [gi]⟩,by omega,by simp⟩
 obtain ⟨v,aa,aQ,aB,a',cn⟩:=sw gd (H1.ext az) bk (by rw [cO];omega) hlen bD
 refine ⟨v,aa,aQ,aB,(az.mod _).trans a',by have:=a'.next;rw [cO] at this;exact this,fun b ah=>?_⟩
 rcases cn b ah with q | q
 · exact .inl q
 · exact .inr (by rw [cO] at q;omega)
theorem I7:∀l:List UInt8,pt (dp l)=some l
 | []=>rfl
 | c::l=>by
   have bN:=I7 l
   simp only [dp,pt,bN]
   simp
theorem rn:∀l:List UInt8,(dp l).length=l.length
 | []=>rfl
 | c::l=>by simp only [dp,List.length_cons,rn l]
theorem zl:∀l m:List UInt8,dp (l++m)=dp l++dp m
 | [],m=>rfl
 | c::l,m=>by simp only [dp,List.cons_append,zl l m]
theorem Fo:∀l:List UInt8,gh (dp l)=true
 | []=>rfl
 | c::l=>by
   have bN:=Fo l
   simp only [dp,gh,bN,Dw,Bool.and_true]
theorem I1 {h:aj} {b:a6} {us:List V} {c3:Nat} {st:Bool} {off:Nat} {l:List UInt8} (bp:h.get b=.aq us c3 st) (aK:off+l.length≤us.length) (hu:(us.drop off).take l.length=dp l):q3 b off l.length h=.val (.str l) h:=by
 unfold q3
 rw [bp]
 simp only [cT.po,cT.aq]
 rw [show Nat.ble (off+l.length) us.length=true from by rw [Nat.ble_eq];exact aK]
 simp only [cond_true]
 rw [zD us l.length off aK,hu,I7]
theorem V6 {B:Nat} {h:aj} {v:V} {n:Nat} {l:List UInt8} (H:cm B h 1 v n (dp l)):nT.run v h=.val (.str l) h:=by
 have ae:=H.1
 rw [rn,Nat.mul_one] at ae
 have ak:=H.2
 cases v<;>simp only at ak<;>try (exact ak.elim)
 case ay=>
  subst ak
  rw [List.length_eq_zero_iff] at ae
  subst ae
  rfl
 case slice=>
  obtain ⟨aQ,aB,a',cn,ea,us,c3,st,fy,fZ,gI⟩:=ak
  rw [rn] at gI
  simp only [nT]
  rw [aQ,←ae]
  exact I1 fy (by omega) gI
 case ev=>
  obtain ⟨aQ,aB,a',cn,ea,us,st,fy,fZ,gI⟩:=ak
  rw [rn] at gI fZ
  simp only [nT]
  rw [aQ,cn,←ae]
  exact I1 fy (by omega) (by simpa using gI)
noncomputable def E_ (size:Nat) (s:V) (m:Nat) (ai:List V) (h:aj):bH:=match s with
 | .ay=>xk size m ai h
 | .slice b off len cap=>xj size b off len cap m ai h
 | .ev b off len idx=>xi size b off len idx m ai h
 | _=>.fail
theorem SY {B:Nat} {h:aj} {size:Nat} {s x:V} {n m:Nat} {us ai:List V} (gd:1≤size) (H1:cm B h size s n us) (g8:ai.length=m * size) (Xv:l6 size s x h=E_ size s m ai h) (dJ:B≤h.next) (hlen:(n+m) * size≤top) (bD:gh ai=true):
 ∃v aa,l6 size s x h=.val v aa∧cm B aa size v (n+m) (us++ai)∧Mod s.bb h aa∧∀b,v.bb b→s.bb b∨h.next≤cu b:=by
 have kL:n+m≤top:=Nat.le_trans (Nat.le_mul_of_pos_right _ gd) hlen
 have e4:=H1.1
 have gP:(us++ai).length=(n+m) * size:=by rw [List.length_append,e4,g8,Nat.add_mul]
 rw [Xv]
 unfold E_
 have ak:=H1.2
 cases s<;>simp only at ak ⊢<;>try (exact ak.elim)
 case ay=>
  subst ak
  have:us=[]:=List.eq_nil_of_length_eq_zero (by omega)
  subst this
  unfold xk
  by_cases hm:m=0
  · subst hm
    have:ai=[]:=List.eq_nil_of_length_eq_zero (by omega)
    subst this
    exact ⟨.ay,h,rfl,⟨by simp,rfl⟩,Mod.refl _ _,fun b ah=>.inl ah⟩
  · rw [show Nat.beq m 0=false from by rw [←Bool.not_eq_true,Nat.beq_eq];exact hm]
    simp only [cond_false]
    rw [yb (by rw [g8];simpa using hlen) gd]
    refine ⟨_,_,rfl,?_,(Mod.refl _ _).new _,fun b ah=>.inr (by rw [show b=ao h.next from ah,cS];exact Nat.le_refl _)⟩
    have:=cm.grown (B:=B) (h:=h) (size:=size) (ai:=ai) (n:=m) (st:=false) g8 dJ
    simpa using this
 case slice b off len cap=>
  obtain ⟨rfl,aB,a',cn,ea,iv,c3,st,fy,fZ,gI⟩:=ak
  unfold xj
  by_cases aD:len+m≤cap
  · rw [show Nat.ble (len+m) cap=true from by rw [Nat.ble_eq];exact aD]
    simp only [cond_true]
    have h8:off+len * size+ai.length≤iv.length:=by
     have:=Nat.mul_le_mul_right size aD
     rw [Nat.add_mul] at this
     rw [g8]
     omega
    rw [Own.lay (ai:=iv) (c3:=c3) (st:=st) fy h8 bD]
    refine ⟨_,_,rfl,⟨gP,rfl,aB,a',aD,ea,_,c3,st,du _ _ _ |>.trans (if_pos rfl),?_,?_⟩,(Mod.refl (V.bb (.slice b off len cap)) h).set (fun _=>rfl) _,fun b1 ah=>.inl ah⟩
    · rw [uS _ _ _ h8];exact fZ
    · rw [List.length_append]
      unfold iL
      have fq:off+us.length≤iv.length:=by rw [e4];omega
      have aI:iv.take (off+len * size)=iv.take off++us:=by
       rw [←e4,List.take_add,gI]
      rw [aI,List.append_assoc,List.append_assoc,List.drop_append,List.drop_eq_nil_of_le (by rw [List.length_take];omega),List.nil_append]
      rw [show off - (iv.take off).length=0 from by rw [List.length_take];omega,List.drop_zero]
      rw [←List.append_assoc,List.take_left' (by rw [List.length_append])]
  · rw [show Nat.ble (len+m) cap=false from by rw [←Bool.not_eq_true,Nat.ble_eq];exact aD]
    simp only [cond_false]
    rw [show (Nat.ble (len+m) top&&Nat.ble cap top)=true from by simp only [Bool.and_eq_true,Nat.ble_eq];exact ⟨kL,ea⟩]
    simp only [cond_true]
    have hr:jL h b off us:=⟨a',iv,.inr ⟨c3,st,fy⟩,by rw [e4];have:=Nat.mul_le_mul_right size cn;omega,gI⟩
    rw [A6 hr e4]
    simp only
    rw [yb (by rw [gP];exact hlen) gd]
    exact ⟨_,_,rfl,cm.grown gP dJ,(Mod.refl _ _).new _,fun b ah=>.inr (by rw [show b=ao h.next from ah,cS];exact Nat.le_refl _)⟩
 case ev b off len idx=>
  obtain ⟨rfl,aB,a',rfl,rfl,iv,st,fy,fZ,gI⟩:=ak
  unfold xi
  by_cases hm:m=0
  · subst hm
    have:ai=[]:=List.eq_nil_of_length_eq_zero (by omega)
    subst this
    exact ⟨_,h,rfl,⟨gP,rfl,aB,a',rfl,rfl,iv,st,fy,by simpa using fZ,by simpa using gI⟩,Mod.refl _ _,fun b ah=>.inl ah⟩
  · rw [show Nat.beq m 0=false from by rw [←Bool.not_eq_true,Nat.beq_eq];exact hm]
    simp only [cond_false]
    rw [fy]
    simp only [cT.aq,cT.on]
    rw [show (Nat.beq size size&&(Nat.ble (len+m) top&&gh ai)&&Nat.beq 0 (0 * size))=true from by
     simp only [Bool.and_eq_true,Nat.beq_eq,Nat.ble_eq]
     exact ⟨⟨trivial,kL,bD⟩,by omega⟩]
    simp only [cond_true]
    have hr:jL h b 0 us:=⟨a',iv,.inr ⟨size,st,fy⟩,by omega,by simpa using gI⟩
    rw [A6 hr e4]
    simp only
    rw [yb (by rw [gP];exact hlen) gd]
    exact ⟨_,_,rfl,cm.grown (h:=h.set b .dead) gP dJ,((Mod.refl (V.bb (.ev b 0 len 0)) h).set (fun _=>rfl) _).new _,fun b1 ah=>.inr (by rw [show b1=ao h.next from ah,cS];exact Nat.le_refl _)⟩
theorem JW {B:Nat} {h:aj} {s:V} {n:Nat} {us:List V} (t:List UInt8) (H1:cm B h 1 s n us) (dJ:B≤h.next) (hlen:n+t.length≤top):
 ∃v aa,l6 1 s (.str t) h=.val v aa∧cm B aa 1 v (n+t.length) (us++dp t)∧Mod s.bb h aa∧∀b,v.bb b→s.bb b∨h.next≤cu b:=by
 refine SY (by omega) H1 (by rw [rn,Nat.mul_one]) ?_ dJ (by omega) (Fo t)
 have a7:Nat.ble t.length top=true:=by rw [Nat.ble_eq];omega
 have n3:tp h 1 (.str t) t.length=some (dp t):=by
  simp only [tp]
  rw [show Nat.ble t.length t.length=true from by rw [Nat.ble_eq];exact Nat.le_refl _,List.take_length]
  rfl
 unfold l6 E_
 simp only [o6]
 rw [n3]
 simp only [a7]
 rfl
theorem ags {h:aj} {b:a6} {us:List V} {off:Nat} {l:List UInt8} (bp:h.get b=.ro us) (aK:off+l.length≤us.length) (hu:(us.drop off).take l.length=dp l):q3 b off l.length h=.val (.str l) h:=by
 unfold q3
 rw [bp]
 simp only [cT.po,cT.ro]
 rw [show Nat.ble (off+l.length) us.length=true from by rw [Nat.ble_eq];exact aK]
 simp only [cond_true]
 rw [zD us l.length off aK,hu,I7]
theorem M1 {h:aj} {v:V} {n:Nat} {l:List UInt8} (H:cg h 1 v n (dp l)):nT.run v h=.val (.str l) h:=by
 have ae:=H.1
 rw [rn,Nat.mul_one] at ae
 have ak:=H.2
 have key:∀(b:a6) (off:Nat),jL h b off (dp l)→q3 b off l.length h=.val (.str l) h:=by
  intro b off ⟨_,us,aQ,aB,a'⟩
  rw [rn] at aB a'
  rcases aQ with aQ | ⟨c3,st,aQ⟩
  · exact ags aQ aB a'
  · exact I1 aQ aB a'
 cases v<;>simp only at ak<;>try (exact ak.elim)
 case ay=>
  subst ak
  rw [List.length_eq_zero_iff] at ae
  subst ae
  rfl
 case slice=>
  simp only [nT]
  rw [ak.1,←ae]
  exact key _ _ ak.2
 case ev=>
  simp only [nT]
  rw [ak.1,←ae]
  exact key _ _ ak.2
 case ia=>
  subst ak
  rw [List.length_eq_zero_iff] at ae
  subst ae
  rfl
end Go.Proofs.YtjbiefneffiogaaGreat.bA
namespace Go.Proofs.YtjbiefneffiogaaGreat.bA
variable [Lay]
set_option linter.defProp false
open Go Go.RowKit
def ad:=And.intro @aha<|And.intro @ahb @ahc
def ag1:=And.intro @ahd<|And.intro @ahe<|And.intro @ahf<|And.intro @ahg<|And.intro @ahh @ahi
def ag2:=And.intro @Option.isSome_some.{0}<|And.intro @Option.getD_some.{0}<|And.intro @if_true.{1}<|And.intro @if_false.{1}<|And.intro @true_and<|And.intro @and_true<|And.intro @List.getElem?_cons_zero.{0}<|And.intro @List.getElem?_cons_succ.{0}<|And.intro @List.length_cons.{0}<|And.intro @List.length_nil.{0}<|
 And.intro @List.drop_zero.{0}<|And.intro @List.drop_succ_cons.{0}<|And.intro @List.take_succ_cons.{0}<|And.intro @List.take_zero.{0}<|And.intro @List.cons_append.{0}<|And.intro @List.nil_append.{0}<|And.intro @Option.some.injEq.{0}<|And.intro @exists_eq_left'.{1}<|And.intro @List.cons.injEq.{0}<|
 And.intro @Nat.succ_ne_zero<|And.intro @ZK<|And.intro @ZJ<|And.intro @List.getElem?_nil.{0}<|And.intro @decide_true<|And.intro @decide_false<|And.intro @eq_self.{1}<|And.intro @not_true_eq_false<|And.intro @not_false_eq_true<|And.intro @ite_true.{1} @ite_false.{1}
end Go.Proofs.YtjbiefneffiogaaGreat.bA
