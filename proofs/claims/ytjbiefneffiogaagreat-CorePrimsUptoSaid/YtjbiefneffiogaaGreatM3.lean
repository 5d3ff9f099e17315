/- The abstract machine and its walks (a verified interpreter of the model's code: plain definitions and lemmas, no condition). Printed by a program from longer texts: names made short. -/
import Derived.Test.YtjbiefneffiogaaGreatM2
set_option linter.unusedSectionVars false
set_option linter.unusedSimpArgs false
set_option linter.unusedVariables false
namespace Go.Proofs.YtjbiefneffiogaaGreat.bs
variable [Lay]
open Go Go.RowKit
def w4 {α:Type} (o:Option α) (k:α→Prop):Prop:=
 match o with
 | some v=>k v
 | none=>False
@[congr] theorem aiH {α:Type} {o dV:Option α} {k:α→Prop} (h:o=dV):w4 o k=w4 dV k:=by rw [h]
def V.opt (c:Bool) (v:V):V:=bif c then v else .tuple []
theorem ada (v:V):V.opt true v=v:=(rfl)
theorem ac9 (v:V):V.opt false v=.tuple []:=(rfl)
@[congr] theorem ais {c nJ:Bool} {v db:V} (h:c=nJ) (bh:nJ=true→v=db):V.opt c v=V.opt nJ db:=by
 subst h
 cases c with
 | true=>rw [bh rfl]
 | false=>rfl
def V.bif (t:Bool) (a b:V):V:=bif t then a else b
theorem agw (a b:V):V.bif true a b=a:=(rfl)
theorem agv (a b:V):V.bif false a b=b:=(rfl)
theorem S9 (t a b:Bool):V.bif t (.bool a) (.bool b)=.bool (bif t then a else b):=by cases t<;>rfl
theorem S' (t:Bool) (k:IntKind) (a b:Int):V.bif t (.int k a) (.int k b)=.int k (if t=true then a else b):=by cases t<;>rfl
theorem Ta (t x:Bool):(bif t then true else x)=(t||x):=by cases t<;>rfl
theorem S8 (t x:Bool):(bif t then x else false)=(t&&x):=by cases t<;>rfl
@[congr] theorem ahi {t ph:Bool} {a cC b b2:V} (h:t=ph) (bT:ph=true→a=cC) (af:ph=false→b=b2):V.bif t a b=V.bif ph cC b2:=by
 subst h
 cases t with
 | true=>rw [V.bif,V.bif,bT rfl];rfl
 | false=>rw [V.bif,V.bif,af rfl];rfl
def gx (c:Bool) (A:Prop):Prop:=c=true→A
@[congr] theorem ahb {c nJ:Bool} {A Jt:Prop} (h:c=nJ) (bT:nJ=true→A=Jt):gx c A=gx nJ Jt:=by
 subst h
 exact propext ⟨fun q e=>(bT e) ▸ q e,fun q e=>(bT e) ▸ q e⟩
theorem R3 (c:Bool):gx c True=True:=propext ⟨fun _=>trivial,fun _ _=>trivial⟩
theorem R5 (A:Prop):gx true A=A:=propext ⟨fun q=>q rfl,fun q _=>q⟩
theorem R4 (A:Prop):gx false A=True:=propext ⟨fun _=>trivial,fun _ e=>by cases e⟩
def dG (v:V) (want:Bool):Bool:=
 match v with
 | .bool b=>b == want
 | _=>false
theorem aga (b w:Bool):dG (.bool b) w=(b == w):=(rfl)
theorem agc (ah:List V) (w:Bool):dG (.tuple ah) w=false:=(rfl)
theorem agb (c:Bool) (v:V) (w:Bool):dG (.opt c v) w=(c&&dG v w):=by cases c<;>rfl
def gR (v:V):Prop:=
 match v with
 | .bool _=>True
 | .tuple _=>True
 | _=>False
theorem Zy (b:Bool):gR (.bool b)=True:=(rfl)
theorem ZA (ah:List V):gR (.tuple ah)=True:=(rfl)
theorem Zz (c b:Bool):gR (.opt c (.bool b))=True:=by cases c<;>rfl
def G.pX:G→Bool
 | .gu _ | .pick .. | .build .. | .b7 _ | .gT .. | .tb _ | .bin .. | .un .. | .fn .. | .wk .. | .u3 .. | .g2 .. | .cX .. | .vy .. | .vz .. | .b9 .. | .s4 .. | .uE .. | .iT .. | .look .. | .ext .. | .gr _ | .fy _=>true
 | .ju (.int _) _=>true
 | .len .map _=>false
 | .len _ _=>true
 | _=>false
def V.te {α:Type} (v:V) (d:α) (f:List V→α):α:=
 match v with
 | .agg cs=>f cs
 | _=>d
def V.AZ {α:Type} (v:V) (d:α) (f:List V→α):α:=
 match v with
 | .tuple cs=>f cs
 | _=>d
def A8 (c a b:V):Option V:=
 match c with
 | .bool t=>some (V.bif t a b)
 | _=>none
theorem adr (t:Bool) (a b:V):A8 (.bool t) a b=some (V.bif t a b):=(rfl)
def gI (n:Nat) (x:V) (cm aH gh:Option V):Option V:=
 match x with
 | .aw=>wY cm aH gh
 | .slice b off uJ cap=>p' n b off uJ cap cm aH gh
 | .ei b off uJ idx=>pg n b off uJ idx cm aH gh
 | .h4 b off o5 idx=>yG b off o5 idx cm aH gh
 | _=>none
noncomputable def G.mY (P:Program) (g:G) (r:bP) (h:ai):Option V:=
 match g with
 | .gu x=>some (x.br r)
 | .pick c a b=>A8 (c.br r) (a.br r) (b.br r)
 | .build z ct=>(match j1 z (lD r ct) with
   | some cs=>some (.agg cs)
   | none=>none)
 | .b7 x=>o2 h (x.br r)
 | .gT n x=>o1 n h (x.br r)
 | .tb x=>uM (x.br r)
 | .bin k x y=>k.run P (x.br r) (y.br r)
 | .un op x=>sj op (x.br r)
 | .ju (.int k) x=>(x.br r).eX none fun _ n=>some (.int k (k.wrap n))
 | .fn f k0=>some (.func f (bp.hY r k0))
 | .wk t x=>some (.iface t (x.br r))
 | .u3 x cm aH gh=>mo (x.br r) (bp.opt r cm) (bp.opt r aH) (bp.opt r gh)
 | .g2 n x cm aH gh=>gI n (x.br r) (bp.opt r cm) (bp.opt r aH) (bp.opt r gh)
 | .cX off x=>(x.br r).n4 none fun b o=>some (.ptr b (o+off))
 | .vy off x=>(x.br r).te none fun cs=>cs[off]?
 | .vz off n x=>(x.br r).te none fun cs=>some (.agg ((cs.drop off).take n))
 | .b9 n x i=>(wq n).run (x.br r) (i.br r)
 | .s4 n s x i=>(s6 n s).run (x.br r) (i.br r)
 | .uE x i=>qR.run (x.br r) (i.br r)
 | .iT t x i=>(s7 P t).run (x.br r) (i.br r)
 | .look k z ok x i=>lb k.eq z ok h (x.br r) (i.br r)
 | .ext x i=>(x.br r).AZ none fun ah=>ah[i]?
 | .len (.arr n) _=>some (.int .i64 n)
 | .len .str x=>(p1 .string).run (x.br r)
 | .len .slice x=>(p1 (.slice 0)).run (x.br r)
 | .gr args=>lQ (fun b a=>!Int.leB a b) (bp.hY r args)
 | .fy args=>lQ (fun b a=>!Int.leB b a) (bp.hY r args)
 | _=>none
section
variable {P:Program} {r:bP} {h:ai}
theorem pure_run {g:G} (aQ:g.pX=true) (call:gd):g.run P call r h=bE.of h (g.mY P r h):=by
 cases g<;>simp only [G.pX] at aQ<;>try (cases aQ;done)
 all_goals simp only [G.run,G.mY]
 case gu x=>rfl
 case pick c a b=>
  generalize c.br r=q
  cases q<;>rfl
 case build z ct=>
  generalize j1 z (lD r ct)=q
  cases q<;>rfl
 case ju k x=>
  cases k<;>simp only at aQ<;>try (cases aQ;done)
  simp only [tG.run]
  generalize x.br r=q
  cases q<;>rfl
 case fn f k0=>rfl
 case wk t x=>rfl
 case g2 n x cm aH gh=>
  unfold gI
  generalize x.br r=q
  cases q<;>rfl
 case vy off x=>
  generalize x.br r=q
  cases q<;>rfl
 case vz off n x=>
  generalize x.br r=q
  cases q<;>rfl
 case ext x i=>
  generalize x.br r=q
  cases q<;>rfl
 case len k x=>
  cases k<;>simp only at aQ<;>first | rfl | (cases aQ;done)
theorem NF {g:G} (aQ:g.pX=true) {K:V→ai→Prop}:g.wp P r h K=w4 (g.mY P r h) fun v=>K v h:=by
 have e:g.wp P r h K=∃v J,g.run P n3 r h=.val v J∧K v J:=by
  cases g<;>first | rfl | (simp [G.pX] at aQ;done)
 rw [e,pure_run aQ]
 apply propext
 cases bh:g.mY P r h with
 | none=>exact ⟨fun ⟨v,J,q,_⟩=>(by cases q),fun q=>q.elim⟩
 | some v=>
   constructor
   · rintro ⟨v1,ad,q,k⟩
     simp only [bE.of,bE.val.injEq] at q
     obtain ⟨rfl,rfl⟩:=q
     exact k
   · intro k
     exact ⟨v,h,rfl,k⟩
theorem PE {d:Option Nat} {g:G} {rs:List Nat} {K:bP→V→ai→Prop} (aQ:g.pX=true):bq.wp P ⟨d,g,none,rs⟩ r h K=w4 (g.mY P (r.trim rs) h) fun v=>K (r.set d v) v h:=by
 rw [PD,NF aQ]
theorem PC {d:Option Nat} {g:G} {j:Nat} {want:Bool} {rs:List Nat} {K:bP→V→ai→Prop} (aQ:g.pX=true):bq.wp P ⟨d,g,some (j,want),rs⟩ r h K=
 (gR (r.trim rs j)∧gx (dG (r.trim rs j) want) ((g.mY P (r.trim rs) h).isSome=true)∧
   K (r.set d (V.opt (dG (r.trim rs j) want) ((g.mY P (r.trim rs) h).getD .bad))) (V.opt (dG (r.trim rs j) want) ((g.mY P (r.trim rs) h).getD .bad)) h):=by
 rw [PB,NF aQ]
 generalize r.trim rs j=q
 generalize g.mY P (r.trim rs) h=o
 apply propext
 cases q<;>simp only [gate,gR,dG,false_and,true_and]
 case bool b=>
  cases b<;>cases want<;>cases o<;>simp [w4,gx,V.opt]
 case tuple ah=>simp [gx,V.opt]
@[congr] theorem aiL {os:List bq} {r bR:bP} {h J:ai} {K:bP→ai→Prop} (aI:r=bR) (bo:h=J):tC P os r h K=tC P os bR J K:=by rw [aI,bo]
@[congr] theorem aiJ {os:List bq} {r bR:bP} {h J:ai} {K:List g5→bP→ai→Prop} (aI:r=bR) (bo:h=J):mw P os r h K=mw P os bR J K:=by rw [aI,bo]
@[congr] theorem ag' {o:bq} {r bR:bP} {h J:ai} {K:bP→V→ai→Prop} (aI:r=bR) (bo:h=J):o.wp P r h K=o.wp P bR J K:=by rw [aI,bo]
@[congr] theorem aha {g:G} {r bR:bP} {h J:ai} {K:V→ai→Prop} (aI:r=bR) (bo:h=J):g.wp P r h K=g.wp P bR J K:=by rw [aI,bo]
@[congr] theorem aiI {c:bK} {r bR:bP} {h J:ai} {Q:cN→bP→ai→Prop} (aI:r=bR) (bo:h=J):iY P c r h Q=iY P c bR J Q:=by rw [aI,bo]
@[congr] theorem ag9 {f:FuncId} {a cC:List V} {h J:ai} {K:V→ai→Prop} (aI:a=cC) (bo:h=J):bB P f a h K=bB P f cC J K:=by rw [aI,bo]
noncomputable def hU (k:cL) (off:Nat):Option V:=k.pd none fun n cs=>bif Nat.blt off n then some (T.get .bad (ao off) cs) else none
noncomputable def jl (n:Nat) (k:cL) (off:Nat):Option V:=k.pd none fun m cs=>bif Nat.ble (off+n) m then some (.agg (l7 cs off n)) else none
theorem abX (b:aV) (off:Nat):o2 h (.ptr b off)=hU (h.get b) off:=(rfl)
theorem abY (n:Nat) (b:aV) (off:Nat):o1 n h (.ptr b off)=jl n (h.get b) off:=(rfl)
theorem O4 {ah:List V} {off:Nat}:(bif Nat.blt off ah.length then some (T.get .bad (ao off) (g1 .e 0 ah)) else none)=ah[off]? :=by
 have:=CP ah 0 off .e
 rw [Nat.zero_add] at this
 rw [this]
 by_cases bA:off<ah.length
 · rw [show Nat.blt off ah.length=true from by rw [Nat.blt_eq];exact bA,if_pos bA]
   simp [List.getElem?_eq_getElem bA]
 · rw [show Nat.blt off ah.length=false from by rw [←Bool.not_eq_true,Nat.blt_eq];exact bA]
   rw [List.getElem?_eq_none (by omega)]
   rfl
theorem qU (ah:List V) (cS:Nat) (st:Bool) (off:Nat):hU (.au ah cS st) off=ah[off]? :=O4
theorem O3 (ah:List V) (off:Nat):hU (.ro ah) off=ah[off]? :=O4
theorem O6 {ah:List V} {off n:Nat}:(bif Nat.ble (off+n) ah.length then some (V.agg (l7 (g1 .e 0 ah) off n)) else none)=if off+n≤ah.length then some (.agg ((ah.drop off).take n)) else none:=by
 by_cases bA:off+n≤ah.length
 · rw [show Nat.ble (off+n) ah.length=true from by rw [Nat.ble_eq];exact bA,if_pos bA,zT ah n off bA]
   rfl
 · rw [show Nat.ble (off+n) ah.length=false from by rw [←Bool.not_eq_true,Nat.ble_eq];exact bA,if_neg bA]
   rfl
theorem HL (n:Nat) (ah:List V) (cS:Nat) (st:Bool) (off:Nat):jl n (.au ah cS st) off=if off+n≤ah.length then some (.agg ((ah.drop off).take n)) else none:=O6
theorem O5 (n:Nat) (ah:List V) (off:Nat):jl n (.ro ah) off=if off+n≤ah.length then some (.agg ((ah.drop off).take n)) else none:=O6
theorem Rd.b7 {b:aV} {ah:List V} (H:Rd h b ah) (off:Nat):hU (h.get b) off=ah[off]? :=by
 rcases H with H | ⟨_,_,H⟩<;>rw [H]
 · exact O3 ah off
 · exact qU ah _ _ off
theorem Rd.gT {b:aV} {ah:List V} (H:Rd h b ah) (n off:Nat):jl n (h.get b) off=if off+n≤ah.length then some (.agg ((ah.drop off).take n)) else none:=by
 rcases H with H | ⟨_,_,H⟩<;>rw [H]
 · exact O5 n ah off
 · exact HL n ah _ _ off
def fJ:List V→List V→List V
 | ah,[]=>ah
 | [],_::_=>[]
 | _::ah,w::ws=>w::fJ ah ws
def og:List V→Nat→List V→List V
 | ah,0,ws=>fJ ah ws
 | [],_+1,_=>[]
 | v::ah,n+1,ws=>v::og ah n ws
theorem PV:∀(ah ws:List V),ws.length≤ah.length→fJ ah ws=ws++ah.drop ws.length
 | ah,[],_=>by cases ah<;>rfl
 | [],_::_,h=>by simp at h
 | v::ah,w::ws,h=>by
   simp only [fJ,List.cons_append,List.length_cons,List.drop_succ_cons]
   rw [PV ah ws (by simpa using h)]
theorem yH:∀(ah:List V) (off:Nat) (ws:List V),off+ws.length≤ah.length→og ah off ws=iw ah off ws
 | ah,0,ws,h=>by
   cases ah<;>simp only [og,iw,List.take_zero,List.nil_append,Nat.zero_add]<;>exact PV _ ws (by omega)
 | [],n+1,ws,h=>by simp at h
 | v::ah,n+1,ws,h=>by
   simp only [List.length_cons] at h
   simp only [og,iw]
   rw [yH ah n ws (by omega)]
   simp only [iw,List.take_succ_cons,List.cons_append]
   rw [show n+1+ws.length=n+ws.length+1 from by omega,List.drop_succ_cons]
theorem IX (ah:List V) (off:Nat) (ws:List V) (h:off+ws.length≤ah.length):(og ah off ws).length=ah.length:=by
 rw [yH ah off ws h,u4 ah off ws h]
noncomputable def qT (n:Nat) (h:ai) (b:aV) (off:Nat) (y:V) (k:cL):Option ai:=
 bif Nat.beq y.cells.length n then k.on none fun m cs cS st=>
  bif Nat.ble (off+y.cells.length) m&&gv y.cells then some (h.set b (.cells m (g1 cs off y.cells) cS st)) else none else none
theorem af1 (n:Nat) (b:aV) (off:Nat) (y:V):Bk n h (.ptr b off) y=qT n h b off y (h.get b):=(rfl)
theorem HI {n:Nat} {b:aV} {off:Nat} {y:V} {ah:List V} {cS:Nat} {st:Bool} (ad:y.cells.length=n) (ak:gv y.cells=true) (aB:off+n≤ah.length):
 qT n h b off y (.au ah cS st)=some (h.set b (.au (og ah off y.cells) cS st)):=by
 unfold qT
 rw [show Nat.beq y.cells.length n=true from by rw [Nat.beq_eq];exact ad]
 simp only [cond_true,cL.au,cL.on]
 rw [show Nat.ble (off+y.cells.length) ah.length=true from by rw [Nat.ble_eq,ad];exact aB,ak]
 simp only [Bool.and_true,cond_true,Option.some.injEq]
 rw [IX ah off _ (by rw [ad];exact aB),yH ah off _ (by rw [ad];exact aB),Io _ ah off (by rw [ad];exact aB)]
theorem gz (k:cL):(h.new k).get (ao h.next)=k:=by rw [ai.eG,if_pos rfl]
theorem eG (b:aV) (k:cL):(h.new k).get b=if ao h.next=b then k else h.get b:=ai.eG h b k
theorem dB (b b2:aV) (k:cL):(h.set b k).get b2=if b=b2 then k else h.get b2:=ai.dB h b b2 k
def Old (h:ai) (b:aV):Prop:=cx b<h.next
theorem adp:∀b:aV,ao (cx b)=b:=by
 have key:∀(b:aV) (d:Nat),cx b+1<2 ^ d→uT d (cx b)=b:=by
  intro b
  induction b with
  | z=>intro d ca;cases d<;>rfl
  | l p bJ=>
    intro d ca
    cases d with
    | zero=>simp [cx] at ca
    | succ d=>
      have ak:2 ^ (d+1)=2 * 2 ^ d:=by rw [Nat.pow_succ];omega
      rw [ak] at ca
      simp only [cx] at ca ⊢
      simp only [uT,pA]
      rw [if_neg (by omega),if_pos (by omega),show (2 * cx p+1) / 2=cx p from by omega,bJ d (by omega)]
  | r p bJ=>
    intro d ca
    cases d with
    | zero=>simp [cx] at ca
    | succ d=>
      have ak:2 ^ (d+1)=2 * 2 ^ d:=by rw [Nat.pow_succ];omega
      rw [ak] at ca
      simp only [cx] at ca ⊢
      simp only [uT,pA]
      rw [if_neg (by omega),if_neg (by omega),show (2 * cx p+2) / 2-1=cx p from by omega,bJ d (by omega)]
 intro b
 exact key b _ Nat.lt_log2_self
theorem gi {b:aV} {i:Nat} (af:Old h b) (aH:h.next≤i):(ao i=b)=False:=by
 apply propext
 constructor
 · intro e
   unfold Old at af
   rw [←e,c'] at af
   omega
 · exact False.elim
theorem uQ {k:cL}:Old (h.new k) (ao h.next):=by unfold Old;rw [c'];exact Nat.lt_succ_self _
def CB (off:Nat) (x:V):Option V:=x.n4 none fun b o=>some (.ptr b (o+off))
theorem V_ (off:Nat) (b:aV) (o:Nat):CB off (.ptr b o)=some (.ptr b (o+off)):=(rfl)
theorem acR {α:Type} (ah:List V) (d:α) (f:List V→α):V.AZ (.tuple ah) d f=f ah:=(rfl)
theorem acQ {α:Type} (ah:List V) (d:α) (f:List V→α):V.te (.agg ah) d f=f ah:=(rfl)
def oZ (x:V):Option V:=(p1 (.slice 0)).run x
theorem abQ (b:aV) (off n c:Nat):oZ (.slice b off n c)=some (.int .i64 n):=(rfl)
theorem abO (b:aV) (off n c:Nat):oZ (.ei b off n c)=some (.int .i64 n):=(rfl)
theorem abR (b:aV) (off n c:Nat):oZ (.h4 b off n c)=some (.int .i64 0):=(rfl)
theorem abP:oZ .aw=some (.int .i64 0):=(rfl)
def Ds (x:V):Option V:=(p1 .string).run x
theorem abS (s:List UInt8):Ds (.str s)=some (.int .i64 s.length):=(rfl)
def e8 (n:Nat) (x i:V):Option V:=(wq n).run x i
theorem yc (n:Nat) (b:aV) (off len cap:Nat) (k:IntKind) (i:Int):e8 n (.slice b off len cap) (.int k i)=if 0≤i∧i<len then some (.ptr b (off+i.toNat * n)) else none:=by
 simp only [e8,wq,V.eX,s5,oY]
 by_cases ad:0≤i<;>by_cases ak:(len:Int)≤i<;>simp [ad,ak]<;>omega
theorem yb (n:Nat) (b:aV) (off len cap:Nat) (k:IntKind) (i:Int):e8 n (.ei b off len cap) (.int k i)=if 0≤i∧i<len then some (.ptr b (off+i.toNat * n)) else none:=by
 simp only [e8,wq,V.eX,s5,oY]
 by_cases ad:0≤i<;>by_cases ak:(len:Int)≤i<;>simp [ad,ak]<;>omega
def zG (k:IntKind) (x:V):Option V:=x.eX none fun _ n=>some (.int k (k.wrap n))
theorem VR (k cb:IntKind) (n:Int):zG k (.int cb n)=some (.int k (k.wrap n)):=(rfl)
end
end Go.Proofs.YtjbiefneffiogaaGreat.bs
namespace Go.Proofs.YtjbiefneffiogaaGreat.bs
variable [Lay]
open Go Go.RowKit
structure lu where
 all:List bq
 asks:List (Nat × List Nat)
 es:List g5
def mh (D:Option lu) (r:bP) (h:ai) (v:V):Option lu:=
 match D with
 | none=>none
 | some d=>some ⟨d.all,d.asks,d.es++[⟨r,h,v⟩]⟩
inductive iK where
 | os (D:Option lu) (os:List bq)
 | c (b:bK)
 | bb (id:Nat)
section
variable (P:Program)
noncomputable def vs (D:Option lu) (es:List g5) (ar:ai):Prop:=
 match D with
 | none=>True
 | some d=>qn P d.all (d.es++es) ar d.asks
noncomputable def bN:List iK→cN→bP→ai→(cN→bP→ai→Prop)→Prop
 | [],e,r,h,Q=>Q e r h
 | .os D os::aE,e,r,h,Q=>match e with
   | .normal=>mw P os r h fun es bR J=>vs P D es J∧bN aE .normal bR J Q
   | e=>bN aE e r h Q
 | .c b::aE,e,r,h,Q=>match e with
   | .normal=>iY P b r h fun e bR J=>bN aE e bR J Q
   | e=>bN aE e r h Q
 | .bb id::aE,e,r,h,Q=>bN aE (e.leave id) r h Q
noncomputable def eu (o:Option V) (d:Option Nat) (D:Option lu) (os:List bq) (aE:List iK) (r:bP) (h:ai) (Q:cN→bP→ai→Prop):Prop:=
 w4 o fun v=>bN P (.os (mh D r h v) os::aE) .normal (r.set d v) h Q
noncomputable def kx (o:bE) (d:Option Nat) (D:Option lu) (os:List bq) (aE:List iK) (r:bP) (aj:ai) (Q:cN→bP→ai→Prop):Prop:=
 match o with
 | .val v h=>bN P (.os (mh D r aj v) os::aE) .normal (r.set d v) h Q
 | .fail=>False
noncomputable def ij (v:V) (want:Bool) (d:Option Nat) (g:G) (rs:List Nat) (D:Option lu) (os:List bq) (aE:List iK) (r:bP) (h:ai) (Q:cN→bP→ai→Prop):Prop:=
 gate v want (bN P (.os D (⟨d,g,none,rs⟩::os)::aE) .normal r h Q) (bN P (.os (mh D r h (.tuple [])) os::aE) .normal (r.set d (.tuple [])) h Q)
noncomputable def xI (v:V) (a b:bK) (aE:List iK) (r:bP) (h:ai) (Q:cN→bP→ai→Prop):Prop:=
 match v with
 | .bool t=>(t=true→bN P (.c a::aE) .normal r h Q)∧(t=false→bN P (.c b::aE) .normal r h Q)
 | _=>False
noncomputable def sH (f:FuncId) (args:List V) (d:Option Nat) (D:Option lu) (os:List bq) (aE:List iK) (r:bP) (h:ai) (Q:cN→bP→ai→Prop):Prop:=
 bB P f args h fun v J=>bN P (.os (mh D r h v) os::aE) .normal (r.set d v) J Q
noncomputable def zC (f:V) (args:List V) (d:Option Nat) (D:Option lu) (os:List bq) (aE:List iK) (r:bP) (h:ai) (Q:cN→bP→ai→Prop):Prop:=
 ∃g cs,f=.func g cs∧sH P g (args++cs) d D os aE r h Q
noncomputable def uK (b:bK) (aE:List iK) (r:bP) (h:ai) (Q:cN→bP→ai→Prop):Prop:=iY P (.loop b) r h fun e bR J=>bN P aE e bR J Q
end
section
variable {P:Program} {r:bP} {h:ai} {Q:cN→bP→ai→Prop} {aE:List iK} {os:List bq} {D:Option lu}
theorem adC (r:bP) (h:ai) (v:V):mh none r h v=none:=(rfl)
theorem adD (all:List bq) (asks:List (Nat × List Nat)) (es:List g5) (r:bP) (h:ai) (v:V):mh (some ⟨all,asks,es⟩) r h v=some ⟨all,asks,es++[⟨r,h,v⟩]⟩:=(rfl)
theorem bO {c:bK} (H:bN P [.c c] .normal r h Q):iY P c r h Q:=H
theorem aau {e:cN}:bN P [] e r h Q=Q e r h:=(rfl)
theorem ZH {e:cN} {id:Nat}:bN P (.bb id::aE) e r h Q=bN P aE (e.leave id) r h Q:=(rfl)
theorem aaC {a b:bK}:bN P (.c (.seq a b)::aE) .normal r h Q=bN P (.c a::.c b::aE) .normal r h Q:=by
 simp only [bN]
 rw [U8]
 congr 1
 funext e bR J
 cases e<;>rfl
theorem ZI {id:Nat} {b:bK}:bN P (.c (.block id b)::aE) .normal r h Q=bN P (.c b::.bb id::aE) .normal r h Q:=(rfl)
theorem RE:∀(os:List bq) (r:bP) (h:ai) (K:bP→ai→Prop),mw P os r h (fun _ r h=>K r h)=tC P os r h K
 | [],_,_,_=>rfl
 | o::os,r,h,K=>by
   simp only [mw,tC]
   congr 1
   funext bR v J
   exact RE os bR J K
theorem aaz {ops:List bq}:bN P (.c (.ag ops)::aE) .normal r h Q=bN P (.os none ops::aE) .normal r h Q:=by
 simp only [bN,vs,true_and]
 rw [RE,U7]
theorem aaD:bN P (.c .skip::aE) .normal r h Q=bN P aE .normal r h Q:=(rfl)
theorem aaA:bN P (.c .ret::aE) .normal r h Q=bN P aE .ret r h Q:=(rfl)
theorem Z1 {i:Nat}:bN P (.c (.exit i)::aE) .normal r h Q=bN P aE (.exit i) r h Q:=(rfl)
theorem ZT {b:bK}:bN P (.c b::aE) .ret r h Q=bN P aE .ret r h Q:=(rfl)
theorem ZP {b:bK} {i:Nat}:bN P (.c b::aE) (.exit i) r h Q=bN P aE (.exit i) r h Q:=(rfl)
theorem ZR {c:bp} {a b:bK}:bN P (.c (.cond c a b)::aE) .normal r h Q=xI P (c.br r) a b aE r h Q:=by
 simp only [bN,iY]
 cases c.br r<;>rfl
theorem aak {b:bK}:bN P (.c (.loop b)::aE) .normal r h Q=uK P b aE r h Q:=(rfl)
theorem ZZ {ops:List bq} {asks:List (Nat × List Nat)}:bN P (.c (.draw ops asks)::aE) .normal r h Q=bN P (.os (some ⟨ops,asks,[]⟩) ops::aE) .normal r h Q:=(rfl)
theorem aax:bN P (.os none []::aE) .normal r h Q=bN P aE .normal r h Q:=by
 simp only [bN,mw,vs,true_and]
theorem ZY {all:List bq} {asks:List (Nat × List Nat)} {es:List g5}:bN P (.os (some ⟨all,asks,es⟩) []::aE) .normal r h Q=(qn P all es h asks∧bN P aE .normal r h Q):=by
 simp only [bN,mw,vs,List.append_nil]
theorem xz (D:Option lu) (r:bP) (h:ai) (v:V) (es:List g5) (ar:ai):vs P (mh D r h v) es ar=vs P D (⟨r,h,v⟩::es) ar:=by
 cases D with
 | none=>rfl
 | some d=>simp only [mh,vs,List.append_assoc,List.cons_append,List.nil_append]
theorem iF {d:Option Nat} {g:G} {rs:List Nat} (aQ:g.pX=true):bN P (.os D (⟨d,g,none,rs⟩::os)::aE) .normal r h Q=eu P (g.mY P (r.trim rs) h) d D os aE r h Q:=by
 simp only [bN,mw,eu]
 rw [PE aQ]
 simp only [xz]
theorem iE {d:Option Nat} {g:G} {j:Nat} {want:Bool} {rs:List Nat} (aQ:g.pX=true):bN P (.os D (⟨d,g,some (j,want),rs⟩::os)::aE) .normal r h Q=
 (gR (r.trim rs j)∧gx (dG (r.trim rs j) want) ((g.mY P (r.trim rs) h).isSome=true)∧
   eu P (some (V.opt (dG (r.trim rs j) want) ((g.mY P (r.trim rs) h).getD .bad))) d D os aE r h Q):=by
 simp only [bN,mw,eu,w4]
 rw [PC aQ]
 simp only [xz]
def G.ON:G→Bool
 | .call .. | .rA .. =>true
 | _=>false
theorem mT {d:Option Nat} {g:G} {rs:List Nat} (aQ:g.pX=false) (aC:g.ON=false):bN P (.os D (⟨d,g,none,rs⟩::os)::aE) .normal r h Q=kx P (g.run P n3 (r.trim rs) h) d D os aE r h Q:=by
 simp only [bN,mw]
 rw [PD]
 have e:∀K:V→ai→Prop,g.wp P (r.trim rs) h K=∃v J,g.run P n3 (r.trim rs) h=.val v J∧K v J:=by
  intro K
  cases g<;>first | rfl | (simp [G.ON] at aC;done)
 rw [e]
 unfold kx
 simp only [bN,xz]
 cases g.run P n3 (r.trim rs) h with
 | fail=>exact propext ⟨fun ⟨v,J,q,_⟩=>(by cases q),fun q=>q.elim⟩
 | val v1 ad=>
   apply propext
   constructor
   · rintro ⟨v,J,q,k⟩
     simp only [bE.val.injEq] at q
     obtain ⟨rfl,rfl⟩:=q
     exact k
   · intro k
     exact ⟨_,_,rfl,k⟩
theorem mc {d:Option Nat} {g:G} {j:Nat} {want:Bool} {rs:List Nat} (aQ:g.pX=false):bN P (.os D (⟨d,g,some (j,want),rs⟩::os)::aE) .normal r h Q=ij P (r.trim rs j) want d g rs D os aE r h Q:=by
 simp only [ij,bN,mw,xz]
 rw [PB]
 rfl
theorem ZN {d:Option Nat} {f:FuncId} {args:List bp} {rs:List Nat}:bN P (.os D (⟨d,.call f args,none,rs⟩::os)::aE) .normal r h Q=sH P f (bp.hY (r.trim rs) args) d D os aE r h Q:=by
 simp only [sH,bN,mw,xz]
 rfl
theorem ZO {d:Option Nat} {f:bp} {args:List bp} {rs:List Nat}:bN P (.os D (⟨d,.rA f args,none,rs⟩::os)::aE) .normal r h Q=zC P (f.br (r.trim rs)) (bp.hY (r.trim rs) args) d D os aE r h Q:=by
 simp only [zC,sH,bN,mw,xz]
 rfl
theorem Vc {g:FuncId} {cs args:List V} {d:Option Nat}:zC P (.func g cs) args d D os aE r h Q=sH P g (args++cs) d D os aE r h Q:=by
 apply propext
 constructor
 · rintro ⟨eR,FQ,q,k⟩
   simp only [V.func.injEq] at q
   obtain ⟨rfl,rfl⟩:=q
   exact k
 · intro k
   exact ⟨_,_,rfl,k⟩
@[congr] theorem aiB {o dV:Option V} {d:Option Nat} (e:o=dV):eu P o d D os aE r h Q=eu P dV d D os aE r h Q:=by rw [e]
@[congr] theorem aiA {o dV:bE} {d:Option Nat} (e:o=dV):kx P o d D os aE r h Q=kx P dV d D os aE r h Q:=by rw [e]
@[congr] theorem ahq {v db:V} {a b:bK} (e:v=db):xI P v a b aE r h Q=xI P db a b aE r h Q:=by rw [e]
@[congr] theorem ahF {v db:V} {want:Bool} {d:Option Nat} {g:G} {rs:List Nat} (e:v=db):ij P v want d g rs D os aE r h Q=ij P db want d g rs D os aE r h Q:=by rw [e]
@[congr] theorem aho {f zP:V} {args zp:List V} {d:Option Nat} (aI:f=zP) (bo:args=zp):zC P f args d D os aE r h Q=zC P zP zp d D os aE r h Q:=by rw [aI,bo]
@[congr] theorem ahn {f:FuncId} {args zp:List V} {d:Option Nat} (bo:args=zp):sH P f args d D os aE r h Q=sH P f zp d D os aE r h Q:=by rw [bo]
@[congr] theorem aiK {e fM:cN} {bR:bP} {J:ai} (ck:e=fM) (aI:r=bR) (bo:h=J):bN P aE e r h Q=bN P aE fM bR J Q:=by rw [ck,aI,bo]
@[congr] theorem aij {b:bK} {bR:bP} {J:ai} (aI:r=bR) (bo:h=J):uK P b aE r h Q=uK P b aE bR J Q:=by rw [aI,bo]
theorem af5 {v:V} {d:Option Nat}:eu P (some v) d D os aE r h Q=bN P (.os (mh D r h v) os::aE) .normal (r.set d v) h Q:=(rfl)
theorem IV {v:V} {J:ai} {d:Option Nat}:kx P (.val v J) d D os aE r h Q=bN P (.os (mh D r h v) os::aE) .normal (r.set d v) J Q:=(rfl)
theorem MT {t:Bool} {a b:bK}:xI P (.bool t) a b aE r h Q=((t=true→bN P (.c a::aE) .normal r h Q)∧(t=false→bN P (.c b::aE) .normal r h Q)):=(rfl)
theorem NH {b:Bool} {d:Option Nat} {g:G} {rs:List Nat}:ij P (.bool b) true d g rs D os aE r h Q=((b=true→bN P (.os D (⟨d,g,none,rs⟩::os)::aE) .normal r h Q)∧(b=false→bN P (.os (mh D r h (.tuple [])) os::aE) .normal (r.set d (.tuple [])) h Q)):=(rfl)
theorem NG {b:Bool} {d:Option Nat} {g:G} {rs:List Nat}:ij P (.bool b) false d g rs D os aE r h Q=((b=false→bN P (.os D (⟨d,g,none,rs⟩::os)::aE) .normal r h Q)∧(b=true→bN P (.os (mh D r h (.tuple [])) os::aE) .normal (r.set d (.tuple [])) h Q)):=(rfl)
theorem WB {ah:List V} {want:Bool} {d:Option Nat} {g:G} {rs:List Nat}:ij P (.tuple ah) want d g rs D os aE r h Q=bN P (.os (mh D r h (.tuple [])) os::aE) .normal (r.set d (.tuple [])) h Q:=(rfl)
def uR (v:V) (o:Option ai):bE:=kP v o
theorem adb (v:V) (J:ai):uR v (some J)=.val v J:=(rfl)
def Ko (b:Bool) (o:bE):bE:=bif b then o else .fail
theorem Te (o:bE):Ko true o=o:=(rfl)
noncomputable def Cj (n:Nat) (h:ai) (o:Option (List V)):bE:=
 match o with
 | some cs=>uR (.slice (ao h.next) 0 n n) (hL h cs)
 | none=>.fail
theorem Tf (n:Nat) (cs:List V):Cj n h (some cs)=uR (.slice (ao h.next) 0 n n) (hL h cs):=(rfl)
theorem afj {n size:Nat} {z:List V} {ct:List (Nat × Nat × bp)}:(G.h9 n size z ct).run P n3 r h=Cj n h (j1 (hN z n) (lD r ct)):=by
 simp only [G.run]
 cases j1 (hN z n) (lD r ct) with
 | none=>rfl
 | some cs=>
   simp only [Cj,uR,kP]
   cases hL h cs<;>rfl
theorem Wk (cells:List V):j1 cells []=some cells:=(rfl)
theorem Wi {cells:List V} {off size:Nat} {v:V} {rest:List (Nat × Nat × V)} (ad:v.e7=true) (ak:v.cells.length=size) (aB:off+size≤cells.length):
 j1 cells ((off,size,v)::rest)=j1 (og cells off v.cells) rest:=by
 simp only [j1]
 rw [ad,show Nat.beq v.cells.length size=true from by rw [Nat.beq_eq];exact ak,show Nat.ble (off+v.cells.length) cells.length=true from by rw [Nat.ble_eq,ak];exact aB]
 simp only [Bool.and_true,cond_true]
 congr 1
 have cX:∀(ws cs:List V) (o:Nat),o+ws.length≤cs.length→sO cs o ws=iw cs o ws:=by
  intro ws
  induction ws with
  | nil=>intro cs o _;simp [sO,iw]
  | cons w ws bJ=>
    intro cs o bA
    simp only [List.length_cons] at bA
    simp only [sO]
    rw [bJ (cs.set o w) (o+1) (by simp;omega),QQ cs o w ws (by omega)]
 rw [cX _ _ _ (by rw [ak];exact aB),yH _ _ _ (by rw [ak];exact aB)]
def Cl (o:Option (List V)):Option V:=
 match o with
 | some cs=>some (.agg cs)
 | none=>none
theorem Th (cs:List V):Cl (some cs)=some (.agg cs):=(rfl)
theorem V9:lD r []=[]:=(rfl)
theorem V8 {o s:Nat} {x:bp} {ct:List (Nat × Nat × bp)}:lD r ((o,s,x)::ct)=(o,s,x.br r)::lD r ct:=(rfl)
noncomputable def pw (P:Program) (o:bq) (e:g5) (H:ai):Prop:=o.wp P e.r H fun _ db _=>db=e.v
theorem SZ {ops:List bq} {es:List g5} {ar:ai}:qn P ops es ar []=True:=(rfl)
theorem SY {ops:List bq} {es:List g5} {ar:ai} {p:Nat} {gN:List Nat} {rest:List (Nat × List Nat)}:qn P ops es ar ((p,gN)::rest)=(sD P ops[p]? es[p]? es ar gN∧qn P ops es ar rest):=(rfl)
theorem SV {o:Option bq} {e:Option g5} {es:List g5} {ar:ai}:sD P o e es ar []=True:=(rfl)
theorem SQ {o:bq} {e:g5} {es:List g5} {ar:ai} {s:Nat} {gN:List Nat}:sD P (some o) (some e) es ar (s::gN)=(pw P o e (x3 es ar s)∧sD P (some o) (some e) es ar gN):=(rfl)
def Gy (o:Option g5) (ar:ai):ai:=
 match o with
 | some e=>e.h
 | none=>ar
theorem Xw (es:List g5) (ar:ai) (s:Nat):x3 es ar s=Gy es[s]? ar:=(rfl)
theorem Xy (e:g5) (ar:ai):Gy (some e) ar=e.h:=(rfl)
theorem Xx (ar:ai):Gy none ar=ar:=(rfl)
theorem Cf {d:Option Nat} {g:G} {rs:List Nat} {e:g5} {H:ai} (aQ:g.pX=true):pw P ⟨d,g,none,rs⟩ e H=(g.mY P (e.r.trim rs) H=some e.v):=by
 unfold pw
 rw [PE aQ]
 apply propext
 cases g.mY P (e.r.trim rs) H with
 | none=>exact ⟨fun q=>q.elim,fun q=>(by cases q)⟩
 | some v=>exact ⟨fun q=>by rw [show v=e.v from q],fun q=>by cases q;rfl⟩
theorem Fq {d:Option Nat} {g:G} {j:Nat} {want:Bool} {rs:List Nat} {e:g5} {H:ai} (aQ:g.pX=true):pw P ⟨d,g,some (j,want),rs⟩ e H=
 (gR (e.r.trim rs j)∧gx (dG (e.r.trim rs j) want) ((g.mY P (e.r.trim rs) H).isSome=true)∧V.opt (dG (e.r.trim rs j) want) ((g.mY P (e.r.trim rs) H).getD .bad)=e.v):=by
 unfold pw
 rw [PC aQ]
theorem SR {d:Option Nat} {x:bp} {rs:List Nat} {e:g5} {H:ai}:pw P ⟨d,.b7 x,none,rs⟩ e H=(o2 H (x.br (e.r.trim rs))=some e.v):=Cf rfl
theorem SS {d:Option Nat} {n:Nat} {x:bp} {rs:List Nat} {e:g5} {H:ai}:pw P ⟨d,.gT n x,none,rs⟩ e H=(o1 n H (x.br (e.r.trim rs))=some e.v):=Cf rfl
theorem SU {d:Option Nat} {k:fH} {z:V} {ok:Bool} {x i:bp} {rs:List Nat} {e:g5} {H:ai}:pw P ⟨d,.look k z ok x i,none,rs⟩ e H=(lb k.eq z ok H (x.br (e.r.trim rs)) (i.br (e.r.trim rs))=some e.v):=Cf rfl
theorem SW {d:Option Nat} {x:bp} {j:Nat} {want:Bool} {rs:List Nat} {e:g5} {H:ai}:pw P ⟨d,.b7 x,some (j,want),rs⟩ e H=
 (gR (e.r.trim rs j)∧gx (dG (e.r.trim rs j) want) ((o2 H (x.br (e.r.trim rs))).isSome=true)∧V.opt (dG (e.r.trim rs j) want) ((o2 H (x.br (e.r.trim rs))).getD .bad)=e.v):=Fq rfl
theorem SX {d:Option Nat} {n:Nat} {x:bp} {j:Nat} {want:Bool} {rs:List Nat} {e:g5} {H:ai}:pw P ⟨d,.gT n x,some (j,want),rs⟩ e H=
 (gR (e.r.trim rs j)∧gx (dG (e.r.trim rs j) want) ((o1 n H (x.br (e.r.trim rs))).isSome=true)∧V.opt (dG (e.r.trim rs j) want) ((o1 n H (x.br (e.r.trim rs))).getD .bad)=e.v):=Fq rfl
end
end Go.Proofs.YtjbiefneffiogaaGreat.bs
namespace Go.Proofs.YtjbiefneffiogaaGreat.bs
variable [Lay]
open Go Go.RowKit
noncomputable def D5 (x:V) (h:ai):bE:=
 match x with
 | .str s=>.val (.ptr (ao h.next) 0) (h.new (.iter s 0))
 | _=>.fail
theorem ad_ (s:List UInt8) (h:ai):D5 (.str s) h=.val (.ptr (ao h.next) 0) (h.new (.iter s 0)):=(rfl)
section
variable {P:Program} {r:bP} {h:ai} {Q:cN→bP→ai→Prop} {aE:List iK} {os:List bq} {D:Option lu} {d:Option Nat} {rs:List Nat}
theorem aaq {x:bp}:bN P (.os D (⟨d,(.gu x),none,rs⟩::os)::aE) .normal r h Q=eu P (some (x.br (r.trim rs))) d D os aE r h Q:=iF rfl
theorem abf {x:bp} {j:Nat} {want:Bool}:bN P (.os D (⟨d,(.gu x),some (j,want),rs⟩::os)::aE) .normal r h Q=(gR (r.trim rs j)∧gx (dG (r.trim rs j) want) ((some (x.br (r.trim rs))).isSome=true)∧eu P (some (V.opt (dG (r.trim rs j) want) ((some (x.br (r.trim rs))).getD .bad))) d D os aE r h Q):=iE rfl
theorem aay {c a b:bp}:bN P (.os D (⟨d,(.pick c a b),none,rs⟩::os)::aE) .normal r h Q=eu P (A8 (c.br (r.trim rs)) (a.br (r.trim rs)) (b.br (r.trim rs))) d D os aE r h Q:=iF rfl
theorem abk {c a b:bp} {j:Nat} {want:Bool}:bN P (.os D (⟨d,(.pick c a b),some (j,want),rs⟩::os)::aE) .normal r h Q=(gR (r.trim rs j)∧gx (dG (r.trim rs j) want) ((A8 (c.br (r.trim rs)) (a.br (r.trim rs)) (b.br (r.trim rs))).isSome=true)∧eu P (some (V.opt (dG (r.trim rs j) want) ((A8 (c.br (r.trim rs)) (a.br (r.trim rs)) (b.br (r.trim rs))).getD .bad))) d D os aE r h Q):=iE rfl
theorem ZM {z:List V} {ct:List (Nat × Nat × bp)}:bN P (.os D (⟨d,(.build z ct),none,rs⟩::os)::aE) .normal r h Q=eu P (Cl (j1 z (lD (r.trim rs) ct))) d D os aE r h Q:=iF rfl
theorem aaP {z:List V} {ct:List (Nat × Nat × bp)} {j:Nat} {want:Bool}:bN P (.os D (⟨d,(.build z ct),some (j,want),rs⟩::os)::aE) .normal r h Q=(gR (r.trim rs j)∧gx (dG (r.trim rs j) want) ((Cl (j1 z (lD (r.trim rs) ct))).isSome=true)∧eu P (some (V.opt (dG (r.trim rs j) want) ((Cl (j1 z (lD (r.trim rs) ct))).getD .bad))) d D os aE r h Q):=iE rfl
theorem aac {x:bp}:bN P (.os D (⟨d,(.b7 x),none,rs⟩::os)::aE) .normal r h Q=eu P (o2 h (x.br (r.trim rs))) d D os aE r h Q:=iF rfl
theorem aa7 {x:bp} {j:Nat} {want:Bool}:bN P (.os D (⟨d,(.b7 x),some (j,want),rs⟩::os)::aE) .normal r h Q=(gR (r.trim rs j)∧gx (dG (r.trim rs j) want) ((o2 h (x.br (r.trim rs))).isSome=true)∧eu P (some (V.opt (dG (r.trim rs j) want) ((o2 h (x.br (r.trim rs))).getD .bad))) d D os aE r h Q):=iE rfl
theorem aad {n:Nat} {x:bp}:bN P (.os D (⟨d,(.gT n x),none,rs⟩::os)::aE) .normal r h Q=eu P (o1 n h (x.br (r.trim rs))) d D os aE r h Q:=iF rfl
theorem aa8 {n:Nat} {x:bp} {j:Nat} {want:Bool}:bN P (.os D (⟨d,(.gT n x),some (j,want),rs⟩::os)::aE) .normal r h Q=(gR (r.trim rs j)∧gx (dG (r.trim rs j) want) ((o1 n h (x.br (r.trim rs))).isSome=true)∧eu P (some (V.opt (dG (r.trim rs j) want) ((o1 n h (x.br (r.trim rs))).getD .bad))) d D os aE r h Q):=iE rfl
theorem aav {x:bp}:bN P (.os D (⟨d,(.tb x),none,rs⟩::os)::aE) .normal r h Q=eu P (uM (x.br (r.trim rs))) d D os aE r h Q:=iF rfl
theorem abi {x:bp} {j:Nat} {want:Bool}:bN P (.os D (⟨d,(.tb x),some (j,want),rs⟩::os)::aE) .normal r h Q=(gR (r.trim rs j)∧gx (dG (r.trim rs j) want) ((uM (x.br (r.trim rs))).isSome=true)∧eu P (some (V.opt (dG (r.trim rs j) want) ((uM (x.br (r.trim rs))).getD .bad))) d D os aE r h Q):=iE rfl
theorem ZG {k:e4} {x y:bp}:bN P (.os D (⟨d,(.bin k x y),none,rs⟩::os)::aE) .normal r h Q=eu P (k.run P (x.br (r.trim rs)) (y.br (r.trim rs))) d D os aE r h Q:=iF rfl
theorem aaM {k:e4} {x y:bp} {j:Nat} {want:Bool}:bN P (.os D (⟨d,(.bin k x y),some (j,want),rs⟩::os)::aE) .normal r h Q=(gR (r.trim rs j)∧gx (dG (r.trim rs j) want) ((k.run P (x.br (r.trim rs)) (y.br (r.trim rs))).isSome=true)∧eu P (some (V.opt (dG (r.trim rs j) want) ((k.run P (x.br (r.trim rs)) (y.br (r.trim rs))).getD .bad))) d D os aE r h Q):=iE rfl
theorem aaI {o:UnOp} {x:bp}:bN P (.os D (⟨d,(.un o x),none,rs⟩::os)::aE) .normal r h Q=eu P (sj o (x.br (r.trim rs))) d D os aE r h Q:=iF rfl
theorem abp {o:UnOp} {x:bp} {j:Nat} {want:Bool}:bN P (.os D (⟨d,(.un o x),some (j,want),rs⟩::os)::aE) .normal r h Q=(gR (r.trim rs j)∧gx (dG (r.trim rs j) want) ((sj o (x.br (r.trim rs))).isSome=true)∧eu P (some (V.opt (dG (r.trim rs j) want) ((sj o (x.br (r.trim rs))).getD .bad))) d D os aE r h Q):=iE rfl
theorem Z6 {f:FuncId} {cs:List bp}:bN P (.os D (⟨d,(.fn f cs),none,rs⟩::os)::aE) .normal r h Q=eu P (some (V.func f (bp.hY (r.trim rs) cs))) d D os aE r h Q:=iF rfl
theorem aa1 {f:FuncId} {cs:List bp} {j:Nat} {want:Bool}:bN P (.os D (⟨d,(.fn f cs),some (j,want),rs⟩::os)::aE) .normal r h Q=(gR (r.trim rs j)∧gx (dG (r.trim rs j) want) ((some (V.func f (bp.hY (r.trim rs) cs))).isSome=true)∧eu P (some (V.opt (dG (r.trim rs j) want) ((some (V.func f (bp.hY (r.trim rs) cs))).getD .bad))) d D os aE r h Q):=iE rfl
theorem Z_ {t:TypeId} {x:bp}:bN P (.os D (⟨d,(.wk t x),none,rs⟩::os)::aE) .normal r h Q=eu P (some (V.iface t (x.br (r.trim rs)))) d D os aE r h Q:=iF rfl
theorem aa4 {t:TypeId} {x:bp} {j:Nat} {want:Bool}:bN P (.os D (⟨d,(.wk t x),some (j,want),rs⟩::os)::aE) .normal r h Q=(gR (r.trim rs j)∧gx (dG (r.trim rs j) want) ((some (V.iface t (x.br (r.trim rs)))).isSome=true)∧eu P (some (V.opt (dG (r.trim rs j) want) ((some (V.iface t (x.br (r.trim rs)))).getD .bad))) d D os aE r h Q):=iE rfl
theorem aaF {x:bp} {cm aH gh:Option bp}:bN P (.os D (⟨d,(.u3 x cm aH gh),none,rs⟩::os)::aE) .normal r h Q=eu P (mo (x.br (r.trim rs)) (bp.opt (r.trim rs) cm) (bp.opt (r.trim rs) aH) (bp.opt (r.trim rs) gh)) d D os aE r h Q:=iF rfl
theorem abn {x:bp} {cm aH gh:Option bp} {j:Nat} {want:Bool}:bN P (.os D (⟨d,(.u3 x cm aH gh),some (j,want),rs⟩::os)::aE) .normal r h Q=(gR (r.trim rs j)∧gx (dG (r.trim rs j) want) ((mo (x.br (r.trim rs)) (bp.opt (r.trim rs) cm) (bp.opt (r.trim rs) aH) (bp.opt (r.trim rs) gh)).isSome=true)∧eu P (some (V.opt (dG (r.trim rs j) want) ((mo (x.br (r.trim rs)) (bp.opt (r.trim rs) cm) (bp.opt (r.trim rs) aH) (bp.opt (r.trim rs) gh)).getD .bad))) d D os aE r h Q):=iE rfl
theorem aaE {n:Nat} {x:bp} {cm aH gh:Option bp}:bN P (.os D (⟨d,(.g2 n x cm aH gh),none,rs⟩::os)::aE) .normal r h Q=eu P (gI n (x.br (r.trim rs)) (bp.opt (r.trim rs) cm) (bp.opt (r.trim rs) aH) (bp.opt (r.trim rs) gh)) d D os aE r h Q:=iF rfl
theorem abm {n:Nat} {x:bp} {cm aH gh:Option bp} {j:Nat} {want:Bool}:bN P (.os D (⟨d,(.g2 n x cm aH gh),some (j,want),rs⟩::os)::aE) .normal r h Q=(gR (r.trim rs j)∧gx (dG (r.trim rs j) want) ((gI n (x.br (r.trim rs)) (bp.opt (r.trim rs) cm) (bp.opt (r.trim rs) aH) (bp.opt (r.trim rs) gh)).isSome=true)∧eu P (some (V.opt (dG (r.trim rs j) want) ((gI n (x.br (r.trim rs)) (bp.opt (r.trim rs) cm) (bp.opt (r.trim rs) aH) (bp.opt (r.trim rs) gh)).getD .bad))) d D os aE r h Q):=iE rfl
theorem Z3 {o:Nat} {x:bp}:bN P (.os D (⟨d,(.cX o x),none,rs⟩::os)::aE) .normal r h Q=eu P (CB o (x.br (r.trim rs))) d D os aE r h Q:=iF rfl
theorem aaY {o:Nat} {x:bp} {j:Nat} {want:Bool}:bN P (.os D (⟨d,(.cX o x),some (j,want),rs⟩::os)::aE) .normal r h Q=(gR (r.trim rs j)∧gx (dG (r.trim rs j) want) ((CB o (x.br (r.trim rs))).isSome=true)∧eu P (some (V.opt (dG (r.trim rs j) want) ((CB o (x.br (r.trim rs))).getD .bad))) d D os aE r h Q):=iE rfl
theorem Z4 {o:Nat} {x:bp}:bN P (.os D (⟨d,(.vy o x),none,rs⟩::os)::aE) .normal r h Q=eu P ((x.br (r.trim rs)).te none fun cs=>cs[o]?) d D os aE r h Q:=iF rfl
theorem aaZ {o:Nat} {x:bp} {j:Nat} {want:Bool}:bN P (.os D (⟨d,(.vy o x),some (j,want),rs⟩::os)::aE) .normal r h Q=(gR (r.trim rs j)∧gx (dG (r.trim rs j) want) (((x.br (r.trim rs)).te none fun cs=>cs[o]?).isSome=true)∧eu P (some (V.opt (dG (r.trim rs j) want) (((x.br (r.trim rs)).te none fun cs=>cs[o]?).getD .bad))) d D os aE r h Q):=iE rfl
theorem Z5 {o n:Nat} {x:bp}:bN P (.os D (⟨d,(.vz o n x),none,rs⟩::os)::aE) .normal r h Q=eu P ((x.br (r.trim rs)).te none fun cs=>some (V.agg ((cs.drop o).take n))) d D os aE r h Q:=iF rfl
theorem aa0 {o n:Nat} {x:bp} {j:Nat} {want:Bool}:bN P (.os D (⟨d,(.vz o n x),some (j,want),rs⟩::os)::aE) .normal r h Q=(gR (r.trim rs j)∧gx (dG (r.trim rs j) want) (((x.br (r.trim rs)).te none fun cs=>some (V.agg ((cs.drop o).take n))).isSome=true)∧eu P (some (V.opt (dG (r.trim rs j) want) (((x.br (r.trim rs)).te none fun cs=>some (V.agg ((cs.drop o).take n))).getD .bad))) d D os aE r h Q):=iE rfl
theorem Z9 {n:Nat} {x i:bp}:bN P (.os D (⟨d,(.b9 n x i),none,rs⟩::os)::aE) .normal r h Q=eu P (e8 n (x.br (r.trim rs)) (i.br (r.trim rs))) d D os aE r h Q:=iF rfl
theorem aa2 {n:Nat} {x i:bp} {j:Nat} {want:Bool}:bN P (.os D (⟨d,(.b9 n x i),some (j,want),rs⟩::os)::aE) .normal r h Q=(gR (r.trim rs j)∧gx (dG (r.trim rs j) want) ((e8 n (x.br (r.trim rs)) (i.br (r.trim rs))).isSome=true)∧eu P (some (V.opt (dG (r.trim rs j) want) ((e8 n (x.br (r.trim rs)) (i.br (r.trim rs))).getD .bad))) d D os aE r h Q):=iE rfl
theorem Z' {m n:Nat} {x i:bp}:bN P (.os D (⟨d,(.s4 m n x i),none,rs⟩::os)::aE) .normal r h Q=eu P ((s6 m n).run (x.br (r.trim rs)) (i.br (r.trim rs))) d D os aE r h Q:=iF rfl
theorem aa3 {m n:Nat} {x i:bp} {j:Nat} {want:Bool}:bN P (.os D (⟨d,(.s4 m n x i),some (j,want),rs⟩::os)::aE) .normal r h Q=(gR (r.trim rs j)∧gx (dG (r.trim rs j) want) (((s6 m n).run (x.br (r.trim rs)) (i.br (r.trim rs))).isSome=true)∧eu P (some (V.opt (dG (r.trim rs j) want) (((s6 m n).run (x.br (r.trim rs)) (i.br (r.trim rs))).getD .bad))) d D os aE r h Q):=iE rfl
theorem aab {x i:bp}:bN P (.os D (⟨d,(.uE x i),none,rs⟩::os)::aE) .normal r h Q=eu P (qR.run (x.br (r.trim rs)) (i.br (r.trim rs))) d D os aE r h Q:=iF rfl
theorem aa6 {x i:bp} {j:Nat} {want:Bool}:bN P (.os D (⟨d,(.uE x i),some (j,want),rs⟩::os)::aE) .normal r h Q=(gR (r.trim rs j)∧gx (dG (r.trim rs j) want) ((qR.run (x.br (r.trim rs)) (i.br (r.trim rs))).isSome=true)∧eu P (some (V.opt (dG (r.trim rs j) want) ((qR.run (x.br (r.trim rs)) (i.br (r.trim rs))).getD .bad))) d D os aE r h Q):=iE rfl
theorem aaa {t:TypeId} {x i:bp}:bN P (.os D (⟨d,(.iT t x i),none,rs⟩::os)::aE) .normal r h Q=eu P ((s7 P t).run (x.br (r.trim rs)) (i.br (r.trim rs))) d D os aE r h Q:=iF rfl
theorem aa5 {t:TypeId} {x i:bp} {j:Nat} {want:Bool}:bN P (.os D (⟨d,(.iT t x i),some (j,want),rs⟩::os)::aE) .normal r h Q=(gR (r.trim rs j)∧gx (dG (r.trim rs j) want) (((s7 P t).run (x.br (r.trim rs)) (i.br (r.trim rs))).isSome=true)∧eu P (some (V.opt (dG (r.trim rs j) want) (((s7 P t).run (x.br (r.trim rs)) (i.br (r.trim rs))).getD .bad))) d D os aE r h Q):=iE rfl
theorem aaj {k:fH} {z:V} {ok:Bool} {x i:bp}:bN P (.os D (⟨d,(.look k z ok x i),none,rs⟩::os)::aE) .normal r h Q=eu P (lb k.eq z ok h (x.br (r.trim rs)) (i.br (r.trim rs))) d D os aE r h Q:=iF rfl
theorem abb {k:fH} {z:V} {ok:Bool} {x i:bp} {j:Nat} {want:Bool}:bN P (.os D (⟨d,(.look k z ok x i),some (j,want),rs⟩::os)::aE) .normal r h Q=(gR (r.trim rs j)∧gx (dG (r.trim rs j) want) ((lb k.eq z ok h (x.br (r.trim rs)) (i.br (r.trim rs))).isSome=true)∧eu P (some (V.opt (dG (r.trim rs j) want) ((lb k.eq z ok h (x.br (r.trim rs)) (i.br (r.trim rs))).getD .bad))) d D os aE r h Q):=iE rfl
theorem Z2 {x:bp} {i:Nat}:bN P (.os D (⟨d,(.ext x i),none,rs⟩::os)::aE) .normal r h Q=eu P ((x.br (r.trim rs)).AZ none fun ah=>ah[i]?) d D os aE r h Q:=iF rfl
theorem aaX {x:bp} {i:Nat} {j:Nat} {want:Bool}:bN P (.os D (⟨d,(.ext x i),some (j,want),rs⟩::os)::aE) .normal r h Q=(gR (r.trim rs j)∧gx (dG (r.trim rs j) want) (((x.br (r.trim rs)).AZ none fun ah=>ah[i]?).isSome=true)∧eu P (some (V.opt (dG (r.trim rs j) want) (((x.br (r.trim rs)).AZ none fun ah=>ah[i]?).getD .bad))) d D os aE r h Q):=iE rfl
theorem aao {args:List bp}:bN P (.os D (⟨d,(.gr args),none,rs⟩::os)::aE) .normal r h Q=eu P (lQ (fun b a=>!Int.leB a b) (bp.hY (r.trim rs) args)) d D os aE r h Q:=iF rfl
theorem abe {args:List bp} {j:Nat} {want:Bool}:bN P (.os D (⟨d,(.gr args),some (j,want),rs⟩::os)::aE) .normal r h Q=(gR (r.trim rs j)∧gx (dG (r.trim rs j) want) ((lQ (fun b a=>!Int.leB a b) (bp.hY (r.trim rs) args)).isSome=true)∧eu P (some (V.opt (dG (r.trim rs j) want) ((lQ (fun b a=>!Int.leB a b) (bp.hY (r.trim rs) args)).getD .bad))) d D os aE r h Q):=iE rfl
theorem aar {args:List bp}:bN P (.os D (⟨d,(.fy args),none,rs⟩::os)::aE) .normal r h Q=eu P (lQ (fun b a=>!Int.leB b a) (bp.hY (r.trim rs) args)) d D os aE r h Q:=iF rfl
theorem abg {args:List bp} {j:Nat} {want:Bool}:bN P (.os D (⟨d,(.fy args),some (j,want),rs⟩::os)::aE) .normal r h Q=(gR (r.trim rs j)∧gx (dG (r.trim rs j) want) ((lQ (fun b a=>!Int.leB b a) (bp.hY (r.trim rs) args)).isSome=true)∧eu P (some (V.opt (dG (r.trim rs j) want) ((lQ (fun b a=>!Int.leB b a) (bp.hY (r.trim rs) args)).getD .bad))) d D os aE r h Q):=iE rfl
theorem ZV {k:IntKind} {x:bp}:bN P (.os D (⟨d,(.ju (.int k) x),none,rs⟩::os)::aE) .normal r h Q=eu P (zG k (x.br (r.trim rs))) d D os aE r h Q:=iF rfl
theorem aaU {k:IntKind} {x:bp} {j:Nat} {want:Bool}:bN P (.os D (⟨d,(.ju (.int k) x),some (j,want),rs⟩::os)::aE) .normal r h Q=(gR (r.trim rs j)∧gx (dG (r.trim rs j) want) ((zG k (x.br (r.trim rs))).isSome=true)∧eu P (some (V.opt (dG (r.trim rs j) want) ((zG k (x.br (r.trim rs))).getD .bad))) d D os aE r h Q):=iE rfl
theorem aag {x:bp}:bN P (.os D (⟨d,(.len .slice x),none,rs⟩::os)::aE) .normal r h Q=eu P (oZ (x.br (r.trim rs))) d D os aE r h Q:=iF rfl
theorem aa_ {x:bp} {j:Nat} {want:Bool}:bN P (.os D (⟨d,(.len .slice x),some (j,want),rs⟩::os)::aE) .normal r h Q=(gR (r.trim rs j)∧gx (dG (r.trim rs j) want) ((oZ (x.br (r.trim rs))).isSome=true)∧eu P (some (V.opt (dG (r.trim rs j) want) ((oZ (x.br (r.trim rs))).getD .bad))) d D os aE r h Q):=iE rfl
theorem aah {x:bp}:bN P (.os D (⟨d,(.len .str x),none,rs⟩::os)::aE) .normal r h Q=eu P (Ds (x.br (r.trim rs))) d D os aE r h Q:=iF rfl
theorem aba {x:bp} {j:Nat} {want:Bool}:bN P (.os D (⟨d,(.len .str x),some (j,want),rs⟩::os)::aE) .normal r h Q=(gR (r.trim rs j)∧gx (dG (r.trim rs j) want) ((Ds (x.br (r.trim rs))).isSome=true)∧eu P (some (V.opt (dG (r.trim rs j) want) ((Ds (x.br (r.trim rs))).getD .bad))) d D os aE r h Q):=iE rfl
theorem aae {n:Nat} {x:bp}:bN P (.os D (⟨d,(.len (.arr n) x),none,rs⟩::os)::aE) .normal r h Q=eu P (some (V.int .i64 n)) d D os aE r h Q:=iF rfl
theorem aa9 {n:Nat} {x:bp} {j:Nat} {want:Bool}:bN P (.os D (⟨d,(.len (.arr n) x),some (j,want),rs⟩::os)::aE) .normal r h Q=(gR (r.trim rs j)∧gx (dG (r.trim rs j) want) ((some (V.int .i64 n)).isSome=true)∧eu P (some (V.opt (dG (r.trim rs j) want) ((some (V.int .i64 n)).getD .bad))) d D os aE r h Q):=iE rfl
theorem aat {z:List V}:bN P (.os D (⟨d,(.new z),none,rs⟩::os)::aE) .normal r h Q=kx P (uR (.ptr (ao h.next) 0) (hL h z)) d D os aE r h Q:=mT rfl rfl
theorem abh {z:List V} {j:Nat} {want:Bool}:bN P (.os D (⟨d,(.new z),some (j,want),rs⟩::os)::aE) .normal r h Q=ij P (r.trim rs j) want d (.new z) rs D os aE r h Q:=mc rfl
theorem ZK {x:bp}:bN P (.os D (⟨d,(.box x),none,rs⟩::os)::aE) .normal r h Q=kx P (Ko (x.br (r.trim rs)).e7 (uR (.ptr (ao h.next) 0) (hL h (x.br (r.trim rs)).cells))) d D os aE r h Q:=mT rfl rfl
theorem aaN {x:bp} {j:Nat} {want:Bool}:bN P (.os D (⟨d,(.box x),some (j,want),rs⟩::os)::aE) .normal r h Q=ij P (r.trim rs j) want d (.box x) rs D os aE r h Q:=mc rfl
theorem ZL {n m:Nat} {z:List V} {ct:List (Nat × Nat × bp)}:bN P (.os D (⟨d,(.h9 n m z ct),none,rs⟩::os)::aE) .normal r h Q=kx P (Cj n h (j1 (hN z n) (lD (r.trim rs) ct))) d D os aE r h Q:=by rw [mT rfl rfl,afj]
theorem aaO {n m:Nat} {z:List V} {ct:List (Nat × Nat × bp)} {j:Nat} {want:Bool}:bN P (.os D (⟨d,(.h9 n m z ct),some (j,want),rs⟩::os)::aE) .normal r h Q=ij P (r.trim rs j) want d (.h9 n m z ct) rs D os aE r h Q:=mc rfl
theorem aaG {n:Nat} {x y:bp}:bN P (.os D (⟨d,(.st n x y),none,rs⟩::os)::aE) .normal r h Q=kx P (uR .bad (Bk n h (x.br (r.trim rs)) (y.br (r.trim rs)))) d D os aE r h Q:=mT rfl rfl
theorem abo {n:Nat} {x y:bp} {j:Nat} {want:Bool}:bN P (.os D (⟨d,(.st n x y),some (j,want),rs⟩::os)::aE) .normal r h Q=ij P (r.trim rs j) want d (.st n x y) rs D os aE r h Q:=mc rfl
theorem aan {n:Nat} {z:List V} {l c:bp}:bN P (.os D (⟨d,(.AK n z l c),none,rs⟩::os)::aE) .normal r h Q=kx P (Dy n z (l.br (r.trim rs)) (c.br (r.trim rs)) h) d D os aE r h Q:=mT rfl rfl
theorem abd {n:Nat} {z:List V} {l c:bp} {j:Nat} {want:Bool}:bN P (.os D (⟨d,(.AK n z l c),some (j,want),rs⟩::os)::aE) .normal r h Q=ij P (r.trim rs j) want d (.AK n z l c) rs D os aE r h Q:=mc rfl
theorem Dn {k:fH} {m i x:bp}:bN P (.os D (⟨d,(.fc k m i x),none,rs⟩::os)::aE) .normal r h Q=kx P (uR .bad (lp k.eq h (m.br (r.trim rs)) (i.br (r.trim rs)) (x.br (r.trim rs)))) d D os aE r h Q:=mT rfl rfl
theorem abq {k:fH} {m i x:bp} {j:Nat} {want:Bool}:bN P (.os D (⟨d,(.fc k m i x),some (j,want),rs⟩::os)::aE) .normal r h Q=ij P (r.trim rs j) want d (.fc k m i x) rs D os aE r h Q:=mc rfl
theorem aam {x:Option bp}:bN P (.os D (⟨d,(.r2 x),none,rs⟩::os)::aE) .normal r h Q=kx P (qX (bp.opt (r.trim rs) x) h) d D os aE r h Q:=mT rfl rfl
theorem abc {x:Option bp} {j:Nat} {want:Bool}:bN P (.os D (⟨d,(.r2 x),some (j,want),rs⟩::os)::aE) .normal r h Q=ij P (r.trim rs j) want d (.r2 x) rs D os aE r h Q:=mc rfl
theorem aaB {x:bp}:bN P (.os D (⟨d,(.Bd x),none,rs⟩::os)::aE) .normal r h Q=kx P (D5 (x.br (r.trim rs)) h) d D os aE r h Q:=(mT rfl rfl).trans (by first | rfl | (unfold D5;simp only [G.run];cases x.br (r.trim rs)<;>rfl) | (unfold D5;cases x.br (r.trim rs)<;>rfl))
theorem abl {x:bp} {j:Nat} {want:Bool}:bN P (.os D (⟨d,(.Bd x),some (j,want),rs⟩::os)::aE) .normal r h Q=ij P (r.trim rs j) want d (.Bd x) rs D os aE r h Q:=mc rfl
theorem aaw {x:bp}:bN P (.os D (⟨d,(.AQ x),none,rs⟩::os)::aE) .normal r h Q=kx P (AN (x.br (r.trim rs)) h) d D os aE r h Q:=mT rfl rfl
theorem abj {x:bp} {j:Nat} {want:Bool}:bN P (.os D (⟨d,(.AQ x),some (j,want),rs⟩::os)::aE) .normal r h Q=ij P (r.trim rs j) want d (.AQ x) rs D os aE r h Q:=mc rfl
theorem ZE {n:Nat} {s x:bp}:bN P (.os D (⟨d,(.app n s x),none,rs⟩::os)::aE) .normal r h Q=kx P (l2 n (s.br (r.trim rs)) (x.br (r.trim rs)) h) d D os aE r h Q:=mT rfl rfl
theorem aaL {n:Nat} {s x:bp} {j:Nat} {want:Bool}:bN P (.os D (⟨d,(.app n s x),some (j,want),rs⟩::os)::aE) .normal r h Q=ij P (r.trim rs j) want d (.app n s x) rs D os aE r h Q:=mc rfl
theorem ZS {n:Nat} {nb s:bp}:bN P (.os D (⟨d,(.copy n nb s),none,rs⟩::os)::aE) .normal r h Q=kx P (copyV n (nb.br (r.trim rs)) (s.br (r.trim rs)) h) d D os aE r h Q:=mT rfl rfl
theorem aaS {n:Nat} {nb s:bp} {j:Nat} {want:Bool}:bN P (.os D (⟨d,(.copy n nb s),some (j,want),rs⟩::os)::aE) .normal r h Q=ij P (r.trim rs j) want d (.copy n nb s) rs D os aE r h Q:=mc rfl
theorem ZQ {z:List V} {x:bp}:bN P (.os D (⟨d,(.Cq z x),none,rs⟩::os)::aE) .normal r h Q=kx P (t' z (x.br (r.trim rs)) h) d D os aE r h Q:=mT rfl rfl
theorem aaf {x:bp}:bN P (.os D (⟨d,(.len .map x),none,rs⟩::os)::aE) .normal r h Q=kx P (AG [x.br (r.trim rs)] h) d D os aE r h Q:=mT rfl rfl
theorem aa' {x:bp} {j:Nat} {want:Bool}:bN P (.os D (⟨d,(.len .map x),some (j,want),rs⟩::os)::aE) .normal r h Q=ij P (r.trim rs j) want d (.len .map x) rs D os aE r h Q:=mc rfl
theorem ZU {x:bp}:bN P (.os D (⟨d,(.ju .bytes x),none,rs⟩::os)::aE) .normal r h Q=kx P (zE.run (x.br (r.trim rs)) h) d D os aE r h Q:=mT rfl rfl
theorem aaT {x:bp} {j:Nat} {want:Bool}:bN P (.os D (⟨d,(.ju .bytes x),some (j,want),rs⟩::os)::aE) .normal r h Q=ij P (r.trim rs j) want d (.ju .bytes x) rs D os aE r h Q:=mc rfl
theorem ZX {x:bp}:bN P (.os D (⟨d,(.ju .str x),none,rs⟩::os)::aE) .normal r h Q=kx P (nM.run (x.br (r.trim rs)) h) d D os aE r h Q:=mT rfl rfl
theorem aaW {x:bp} {j:Nat} {want:Bool}:bN P (.os D (⟨d,(.ju .str x),some (j,want),rs⟩::os)::aE) .normal r h Q=ij P (r.trim rs j) want d (.ju .str x) rs D os aE r h Q:=mc rfl
theorem ZW {s nb:TypeId} {x:bp}:bN P (.os D (⟨d,(.ju (.other s nb) x),none,rs⟩::os)::aE) .normal r h Q=kx P ((rB P s nb).run (x.br (r.trim rs)) h) d D os aE r h Q:=mT rfl rfl
theorem aaV {s nb:TypeId} {x:bp} {j:Nat} {want:Bool}:bN P (.os D (⟨d,(.ju (.other s nb) x),some (j,want),rs⟩::os)::aE) .normal r h Q=ij P (r.trim rs j) want d (.ju (.other s nb) x) rs D os aE r h Q:=mc rfl
theorem aaQ {f:FuncId} {args:List bp} {j:Nat} {want:Bool}:bN P (.os D (⟨d,(.call f args),some (j,want),rs⟩::os)::aE) .normal r h Q=ij P (r.trim rs j) want d (.call f args) rs D os aE r h Q:=mc rfl
theorem aaR {f:bp} {args:List bp} {j:Nat} {want:Bool}:bN P (.os D (⟨d,(.rA f args),some (j,want),rs⟩::os)::aE) .normal r h Q=ij P (r.trim rs j) want d (.rA f args) rs D os aE r h Q:=mc rfl
end
end Go.Proofs.YtjbiefneffiogaaGreat.bs
namespace Go.Proofs.YtjbiefneffiogaaGreat.bs
variable [Lay]
open Go Go.RowKit
theorem acu (h:ai) (ah:List V):hL h ah=if ah.length≤top then some (h.new (.au ah 0 false)) else none:=by
 by_cases aL:ah.length≤top
 · rw [if_pos aL,acs aL]
 · rw [if_neg aL]
   unfold hL
   rw [show Nat.ble ah.length top=false from by rw [←Bool.not_eq_true,Nat.ble_eq];exact aL]
   rfl
theorem abD (h:ai) (n:Nat) (b:aV) (off:Nat) (y:V) (ah:List V) (cS:Nat) (st:Bool):
 qT n h b off y (.au ah cS st)=if y.cells.length=n∧gv y.cells=true∧off+n≤ah.length then some (h.set b (.au (og ah off y.cells) cS st)) else none:=by
 by_cases aC:y.cells.length=n∧gv y.cells=true∧off+n≤ah.length
 · rw [if_pos aC,HI aC.1 aC.2.1 aC.2.2]
 · rw [if_neg aC]
   unfold qT
   by_cases ad:y.cells.length=n
   · rw [show Nat.beq y.cells.length n=true from by rw [Nat.beq_eq];exact ad]
     simp only [cond_true,cL.au,cL.on]
     by_cases ak:gv y.cells=true
     · have aB:¬off+y.cells.length≤ah.length:=fun q=>aC ⟨ad,ak,by omega⟩
       rw [show Nat.ble (off+y.cells.length) ah.length=false from by rw [←Bool.not_eq_true,Nat.ble_eq];exact aB]
       rfl
     · rw [show gv y.cells=false from by simpa using ak,Bool.and_false]
       rfl
   · rw [show Nat.beq y.cells.length n=false from by rw [←Bool.not_eq_true,Nat.beq_eq];exact ad]
     rfl
theorem Wj (cells:List V) (off size:Nat) (v:V) (rest:List (Nat × Nat × V)):
 j1 cells ((off,size,v)::rest)=if v.e7=true∧v.cells.length=size∧off+size≤cells.length then j1 (og cells off v.cells) rest else none:=by
 by_cases aC:v.e7=true∧v.cells.length=size∧off+size≤cells.length
 · rw [if_pos aC,Wi aC.1 aC.2.1 aC.2.2]
 · rw [if_neg aC]
   simp only [j1]
   cases af:(v.e7&&(Nat.beq v.cells.length size&&Nat.ble (off+v.cells.length) cells.length)) with
   | false=>rfl
   | true=>
     simp only [Bool.and_eq_true,Nat.beq_eq,Nat.ble_eq] at af
     exact absurd ⟨af.1,af.2.1,by omega⟩ aC
theorem Vh (b:Bool):V.cells (.bool b:V)=[.bool b]:=rfl
theorem acS (b:Bool):V.one (.bool b:V)=true:=rfl
theorem WM (b:Bool):V.e7 (.bool b:V)=true:=rfl
theorem Vl (k:IntKind) (n:Int):V.cells (.int k n:V)=[.int k n]:=rfl
theorem DL (k:IntKind) (n:Int):V.one (.int k n:V)=true:=rfl
theorem oP (k:IntKind) (n:Int):V.e7 (.int k n:V)=true:=rfl
theorem Vu (s:List UInt8):V.cells (.str s:V)=[.str s]:=rfl
theorem ac4 (s:List UInt8):V.one (.str s:V)=true:=rfl
theorem WZ (s:List UInt8):V.e7 (.str s:V)=true:=rfl
theorem Vq:V.cells (.cc:V)=[.cc]:=rfl
theorem ac0:V.one (.cc:V)=true:=rfl
theorem WV:V.e7 (.cc:V)=true:=rfl
theorem Vs (b:aV) (o:Nat):V.cells (.ptr b o:V)=[.ptr b o]:=rfl
theorem ac2 (b:aV) (o:Nat):V.one (.ptr b o:V)=true:=rfl
theorem WX (b:aV) (o:Nat):V.e7 (.ptr b o:V)=true:=rfl
theorem Vt (b:aV) (o l c:Nat):V.cells (.slice b o l c:V)=[.slice b o l c]:=rfl
theorem ac3 (b:aV) (o l c:Nat):V.one (.slice b o l c:V)=true:=rfl
theorem WY (b:aV) (o l c:Nat):V.e7 (.slice b o l c:V)=true:=rfl
theorem Vj (b:aV) (o l c:Nat):V.cells (.ei b o l c:V)=[.ei b o l c]:=rfl
theorem acU (b:aV) (o l c:Nat):V.one (.ei b o l c:V)=true:=rfl
theorem WO (b:aV) (o l c:Nat):V.e7 (.ei b o l c:V)=true:=rfl
theorem Vv (b:aV) (o l c:Nat):V.cells (.h4 b o l c:V)=[.h4 b o l c]:=rfl
theorem ac5 (b:aV) (o l c:Nat):V.one (.h4 b o l c:V)=true:=rfl
theorem W0 (b:aV) (o l c:Nat):V.e7 (.h4 b o l c:V)=true:=rfl
theorem Vr:V.cells (.aw:V)=[.aw]:=rfl
theorem ac1:V.one (.aw:V)=true:=rfl
theorem WW:V.e7 (.aw:V)=true:=rfl
theorem Vp:V.cells (.lN:V)=[.lN]:=rfl
theorem acZ:V.one (.lN:V)=true:=rfl
theorem WU:V.e7 (.lN:V)=true:=rfl
theorem Vm (b:aV):V.cells (.map b:V)=[.map b]:=rfl
theorem acW (b:aV):V.one (.map b:V)=true:=rfl
theorem WR (b:aV):V.e7 (.map b:V)=true:=rfl
theorem Vi (f:FuncId) (cs:List V):V.cells (.func f cs:V)=[.func f cs]:=rfl
theorem acT (f:FuncId) (cs:List V):V.one (.func f cs:V)=true:=rfl
theorem WN (f:FuncId) (cs:List V):V.e7 (.func f cs:V)=true:=rfl
theorem Vo:V.cells (.kN:V)=[.kN]:=rfl
theorem acY:V.one (.kN:V)=true:=rfl
theorem WT:V.e7 (.kN:V)=true:=rfl
theorem Vk (t:TypeId) (v:V):V.cells (.iface t v:V)=[.iface t v]:=rfl
theorem acV (t:TypeId) (v:V):V.one (.iface t v:V)=true:=rfl
theorem WQ (t:TypeId) (v:V):V.e7 (.iface t v:V)=true:=rfl
theorem Vn:V.cells (.nilIface:V)=[.nilIface]:=rfl
theorem acX:V.one (.nilIface:V)=true:=rfl
theorem WS:V.e7 (.nilIface:V)=true:=rfl
theorem Vg (cs:List V):V.cells (.agg cs)=cs:=rfl
theorem WL (cs:List V):V.e7 (.agg cs)=true:=rfl
theorem W1 (cs:List V):V.e7 (.tuple cs)=true:=rfl
theorem Su (n:Nat):n+1+1=n+2:=rfl
theorem SA (n:Nat):n+2+1=n+3:=rfl
theorem SB (n:Nat):n+3+1=n+4:=rfl
theorem SC (n:Nat):n+4+1=n+5:=rfl
theorem SD (n:Nat):n+5+1=n+6:=rfl
theorem SE (n:Nat):n+6+1=n+7:=rfl
theorem SF (n:Nat):n+7+1=n+8:=rfl
theorem SG (n:Nat):n+8+1=n+9:=rfl
theorem SH (n:Nat):n+9+1=n+10:=rfl
theorem St (n:Nat):n+10+1=n+11:=rfl
theorem Sv (n:Nat):n+11+1=n+12:=rfl
theorem Sw (n:Nat):n+12+1=n+13:=rfl
theorem Sx (n:Nat):n+13+1=n+14:=rfl
theorem Sy (n:Nat):n+14+1=n+15:=rfl
theorem Sz (n:Nat):n+15+1=n+16:=rfl
theorem wL (n:Nat):(n+1=n)=False:=eq_false (by omega)
theorem agW (n:Nat):(n=n+1)=False:=eq_false (by omega)
theorem uO (n:Nat):(n+2=n)=False:=eq_false (by omega)
theorem agX (n:Nat):(n=n+2)=False:=eq_false (by omega)
theorem q0 (n:Nat):(n+3=n)=False:=eq_false (by omega)
theorem agY (n:Nat):(n=n+3)=False:=eq_false (by omega)
theorem tc (n:Nat):(n+4=n)=False:=eq_false (by omega)
theorem agZ (n:Nat):(n=n+4)=False:=eq_false (by omega)
theorem H8 (n:Nat):(n+5=n)=False:=eq_false (by omega)
theorem ag0 (n:Nat):(n=n+5)=False:=eq_false (by omega)
theorem acE (n:Nat):(n+6=n)=False:=eq_false (by omega)
theorem ag1 (n:Nat):(n=n+6)=False:=eq_false (by omega)
theorem acF (n:Nat):(n+7=n)=False:=eq_false (by omega)
theorem ag2 (n:Nat):(n=n+7)=False:=eq_false (by omega)
theorem acG (n:Nat):(n+8=n)=False:=eq_false (by omega)
theorem ag3 (n:Nat):(n=n+8)=False:=eq_false (by omega)
theorem WA {P:Program} {r:bP} {h:ai} {Q:cN→bP→ai→Prop} {aE:List iK} {os:List bq} {D:Option lu} {d:Option Nat} {g:G} {rs:List Nat}:ij P (.bool true) true d g rs D os aE r h Q=bN P (.os D (⟨d,g,none,rs⟩::os)::aE) .normal r h Q:=by
 rw [NH];simp
theorem Wx {P:Program} {r:bP} {h:ai} {Q:cN→bP→ai→Prop} {aE:List iK} {os:List bq} {D:Option lu} {d:Option Nat} {g:G} {rs:List Nat}:ij P (.bool false) false d g rs D os aE r h Q=bN P (.os D (⟨d,g,none,rs⟩::os)::aE) .normal r h Q:=by
 rw [NG];simp
theorem Wz {P:Program} {r:bP} {h:ai} {Q:cN→bP→ai→Prop} {aE:List iK} {os:List bq} {D:Option lu} {d:Option Nat} {g:G} {rs:List Nat}:ij P (.bool true) false d g rs D os aE r h Q=bN P (.os (mh D r h (.tuple [])) os::aE) .normal (r.set d (.tuple [])) h Q:=by
 rw [NG];simp
theorem Wy {P:Program} {r:bP} {h:ai} {Q:cN→bP→ai→Prop} {aE:List iK} {os:List bq} {D:Option lu} {d:Option Nat} {g:G} {rs:List Nat}:ij P (.bool false) true d g rs D os aE r h Q=bN P (.os (mh D r h (.tuple [])) os::aE) .normal (r.set d (.tuple [])) h Q:=by
 rw [NH];simp
theorem S_ (c:Bool) (a b:V):V.bif (!c) a (V.opt c b)=V.bif (!c) a b:=by cases c<;>rfl
theorem Zn (A:Prop):(True→A)=A:=propext ⟨fun q=>q trivial,fun q _=>q⟩
theorem Zm (A:Prop):(False→A)=True:=propext ⟨fun _=>trivial,fun _ q=>q.elim⟩
section
variable {P:Program}
theorem fV {b:bK} {aE:List iK} {r:bP} {h:ai} {Q:cN→bP→ai→Prop} (I:bP→ai→Prop) (μ:bP→ai→Nat) (aj:I r h)
 (step:∀r h,I r h→bN P [.c b] .normal r h fun e bR J=>e.andThen (I bR J∧μ bR J<μ r h) (bN P aE e bR J Q)):uK P b aE r h Q:=
 ⟨I,μ,aj,step⟩
def V.gV:V→Nat
 | .int _ n=>n.toNat
 | _=>0
theorem af_ (k:IntKind) (n:Int):V.gV (.int k n)=n.toNat:=rfl
theorem ih {f:FuncId} {args:List V} {d:Option Nat} {os:List bq} {D:Option lu} {aE:List iK} {r:bP} {h:ai} {Q:cN→bP→ai→Prop} {v:V}
 (c:lr P f args h v h) (H:bN P (.os (mh D r h v) os::aE) .normal (r.set d v) h Q):sH P f args d D os aE r h Q:=⟨v,h,c,H⟩
theorem aS {f:FuncId} {args:List V} {d:Option Nat} {os:List bq} {D:Option lu} {aE:List iK} {r:bP} {h:ai} {Q:cN→bP→ai→Prop} {K:V→ai→Prop}
 (c:bB P f args h K) (H:∀v J,K v J→bN P (.os (mh D r h v) os::aE) .normal (r.set d v) J Q):sH P f args d D os aE r h Q:=c.mono H
structure Ext (h J:ai):Prop where
 next:h.next≤J.next
 get:∀b,Old h b→J.get b=h.get b
theorem Ext.refl (h:ai):Ext h h:=⟨Nat.le_refl _,fun _ _=>rfl⟩
theorem Ext.b5 {h J:ai} (e:Ext h J) {b:aV} (af:Old h b):Old J b:=Nat.lt_of_lt_of_le af e.next
theorem Ext.trans {h J fh:ai} (e:Ext h J) (fM:Ext J fh):Ext h fh:=
 ⟨Nat.le_trans e.next fM.next,fun b af=>(fM.get b (e.b5 af)).trans (e.get b af)⟩
theorem Ext.new {h J:ai} (e:Ext h J) (k:cL):Ext h (J.new k):=
 ⟨Nat.le_succ_of_le e.next,fun b af=>by
   rw [eG,if_neg (fun q=>(gi (h:=h) af e.next) ▸ q)]
   exact e.get b af⟩
theorem Ext.set {h J:ai} (e:Ext h J) {i:Nat} (aH:h.next≤i) (k:cL):Ext h (J.set (ao i) k):=
 ⟨e.next,fun b af=>by
   rw [dB,if_neg (fun q=>(gi (h:=h) af aH) ▸ q)]
   exact e.get b af⟩
theorem Ext.rd {h J:ai} (e:Ext h J) {b:aV} (af:Old h b) {ah:List V} (H:Rd h b ah):Rd J b ah:=by
 unfold Rd at H ⊢
 rw [e.get b af]
 exact H
def jB (h:ai) (b:aV) (off:Nat) (ah:List V):Prop:=Old h b∧∃us,Rd h b us∧off+ah.length≤us.length∧(us.drop off).take ah.length=ah
theorem jB.ext {h J:ai} (e:Ext h J) {b:aV} {off:Nat} {ah:List V} (H:jB h b off ah):jB J b off ah:=by
 obtain ⟨aj,us,ad,ak,aB⟩:=H
 exact ⟨e.b5 aj,us,e.rd aj ad,ak,aB⟩
theorem jB.b7 {h:ai} {b:aV} {off:Nat} {ah:List V} (H:jB h b off ah) {i:Nat} (aH:i<ah.length):hU (h.get b) (off+i)=some ah[i]:=by
 obtain ⟨_,us,ad,ak,aB⟩:=H
 rw [ad.b7,List.getElem?_eq_getElem (by omega)]
 congr 1
 have:((us.drop off).take ah.length)[i]? =ah[i]? :=by rw [aB]
 rw [List.getElem?_take_of_lt aH,List.getElem?_drop,List.getElem?_eq_getElem (by omega),List.getElem?_eq_getElem aH] at this
 simpa using this
theorem jB.gT {h:ai} {b:aV} {off:Nat} {ah:List V} (H:jB h b off ah) {i n:Nat} (aH:i+n≤ah.length):jl n (h.get b) (off+i)=some (.agg ((ah.drop i).take n)):=by
 obtain ⟨_,us,ad,ak,aB⟩:=H
 rw [ad.gT,if_pos (by omega)]
 congr 2
 have:(((us.drop off).take ah.length).drop i).take n=(ah.drop i).take n:=by rw [aB]
 rw [←this,List.drop_take,List.drop_drop,List.take_take]
 congr 1
 omega
def cj (h:ai) (size:Nat) (v:V) (n:Nat) (ah:List V):Prop:=
 ah.length=n * size∧match v with
  | .aw=>n=0
  | .slice b off len _=>len=n∧jB h b off ah
  | .ei b off len _=>len=n∧jB h b off ah
  | .h4 _ _ _ _=>n=0
  | _=>False
theorem cj.ext {h J:ai} (e:Ext h J) {size:Nat} {v:V} {n:Nat} {ah:List V} (H:cj h size v n ah):cj J size v n ah:=by
 refine ⟨H.1,?_⟩
 have ez:=H.2
 cases v<;>simp only at ez ⊢<;>first | exact ez | exact ⟨ez.1,ez.2.ext e⟩
theorem cj.len {h:ai} {size:Nat} {v:V} {n:Nat} {ah:List V} (H:cj h size v n ah):oZ v=some (.int .i64 n):=by
 have ez:=H.2
 cases v<;>simp only at ez<;>first
  | (rw [←ez.1];rfl)
  | (subst ez;rfl)
  | (exact ez.elim)
theorem cj.b9 {h:ai} {size:Nat} {v:V} {n:Nat} {ah:List V} (H:cj h size v n ah) {k:IntKind} {i:Nat} (aH:i<n):
 ∃b off,e8 size v (.int k i)=some (.ptr b (off+i * size))∧jB h b off ah:=by
 have ez:=H.2
 cases v<;>simp only at ez<;>first
  | omega
  | (exact ez.elim)
  | skip
 · rename_i b off len cap
   obtain ⟨rfl,ad⟩:=ez
   refine ⟨b,off,?_,ad⟩
   rw [yc,if_pos (by omega)]
   simp
 · rename_i b off len cap
   obtain ⟨rfl,ad⟩:=ez
   refine ⟨b,off,?_,ad⟩
   rw [yb,if_pos (by omega)]
   simp
end
end Go.Proofs.YtjbiefneffiogaaGreat.bs
namespace Go.Proofs.YtjbiefneffiogaaGreat.bs
variable [Lay]
open Go Go.RowKit
structure Mod (M:aV→Prop) (h J:ai):Prop where
 next:h.next≤J.next
 get:∀b,Old h b→¬M b→J.get b=h.get b
theorem Mod.refl (M:aV→Prop) (h:ai):Mod M h h:=⟨Nat.le_refl _,fun _ _ _=>rfl⟩
theorem Mod.b5 {M:aV→Prop} {h J:ai} (e:Mod M h J) {b:aV} (af:Old h b):Old J b:=Nat.lt_of_lt_of_le af e.next
theorem Mod.trans {M:aV→Prop} {h J fh:ai} (e:Mod M h J) (fM:Mod M J fh):Mod M h fh:=
 ⟨Nat.le_trans e.next fM.next,fun b af hm=>(fM.get b (e.b5 af) hm).trans (e.get b af hm)⟩
theorem Mod.mono {M JY:aV→Prop} {h J:ai} (e:Mod M h J) (hm:∀b,Old h b→M b→JY b):Mod JY h J:=
 ⟨e.next,fun b af a1=>e.get b af fun q=>a1 (hm b af q)⟩
theorem Mod.new {M:aV→Prop} {h J:ai} (e:Mod M h J) (k:cL):Mod M h (J.new k):=
 ⟨Nat.le_succ_of_le e.next,fun b af hm=>by
   rw [eG,if_neg (fun q=>(gi (h:=h) af e.next) ▸ q)]
   exact e.get b af hm⟩
theorem Mod.set {M:aV→Prop} {h J:ai} (e:Mod M h J) {b:aV} (af:Old h b→M b) (k:cL):Mod M h (J.set b k):=
 ⟨e.next,fun b2 ew hm=>by
   rw [dB]
   by_cases q:b=b2
   · subst q
     exact absurd (af ew) hm
   · rw [if_neg q]
     exact e.get b2 ew hm⟩
theorem Ext.mod {h J:ai} (e:Ext h J) (M:aV→Prop):Mod M h J:=⟨e.next,fun b af _=>e.get b af⟩
theorem Ext.qZ {h J fh:ai} (e:Ext h J) {M:aV→Prop} (m:Mod M J fh) (hm:∀b,M b→h.next≤cx b):Ext h fh:=
 ⟨Nat.le_trans e.next m.next,fun b af=>by
   have kl:¬M b:=fun q=>by have:=hm b q;unfold Old at af;omega
   exact (m.get b (e.b5 af) kl).trans (e.get b af)⟩
theorem Mod.at {M:aV→Prop} {h J:ai} (e:Mod M h J) {b:aV} {off:Nat} {ah:List V} (H:jB h b off ah) (hm:¬M b):jB J b off ah:=by
 obtain ⟨aj,us,ad,ak,aB⟩:=H
 refine ⟨e.b5 aj,us,?_,ak,aB⟩
 unfold Rd at ad ⊢
 rw [e.get b aj hm]
 exact ad
theorem dP {h:ai} {i:Nat} (aH:i<h.next):Old h (ao i):=by unfold Old;rw [c'];exact aH
theorem lM {h:ai} {b:aV} {i:Nat} (af:Old h b) (aH:h.next≤i):(b=ao i)=False:=by
 apply eq_false
 intro e
 unfold Old at af
 rw [e,c'] at af
 omega
def V.bb:V→aV→Prop
 | .slice b _ _ _,b2=>b2=b
 | .ei b _ _ _,b2=>b2=b
 | _,_=>False
theorem cj.k' {h:ai} {size:Nat} {v:V} {n:Nat} {ah:List V} (H:cj h size v n ah) {k:IntKind} {i:Nat} (aH:i<n):
 ∃b off,e8 size v (.int k i)=some (.ptr b (off+i * size))∧jB h b off ah∧v.bb b:=by
 have ez:=H.2
 cases v<;>simp only at ez<;>first
  | omega
  | (exact ez.elim)
  | skip
 · rename_i b off len cap
   obtain ⟨rfl,ad⟩:=ez
   refine ⟨b,off,?_,ad,rfl⟩
   rw [yc,if_pos (by omega)]
   simp
 · rename_i b off len cap
   obtain ⟨rfl,ad⟩:=ez
   refine ⟨b,off,?_,ad,rfl⟩
   rw [yb,if_pos (by omega)]
   simp
theorem cj.one {h:ai} {size:Nat} {v:V} {n:Nat} {ah:List V} (H:cj h size v n ah):v.one=true∧v.cells=[v]∧v.e7=true:=by
 have q:=H.2
 cases v<;>simp only at q<;>first | exact ⟨rfl,rfl,rfl⟩ | exact q.elim
theorem cj.mod {M:aV→Prop} {h J:ai} (e:Mod M h J) {size:Nat} {v:V} {n:Nat} {ah:List V} (H:cj h size v n ah) (hm:∀b,v.bb b→¬M b):cj J size v n ah:=by
 refine ⟨H.1,?_⟩
 have ez:=H.2
 cases v<;>simp only at ez ⊢<;>first | exact ez | exact ⟨ez.1,e.at ez.2 (hm _ rfl)⟩
theorem cj.b5 {h:ai} {size:Nat} {v:V} {n:Nat} {ah:List V} (H:cj h size v n ah) {b:aV} (af:v.bb b):Old h b:=by
 have ez:=H.2
 cases v<;>simp only [V.bb] at ez af<;>first | (exact af.elim) | (subst af;exact ez.2.1)
def cn (B:Nat) (h:ai) (size:Nat) (v:V) (n:Nat) (ah:List V):Prop:=
 ah.length=n * size∧match v with
  | .aw=>n=0
  | .slice b off len cap=>len=n∧B≤cx b∧Old h b∧n≤cap∧cap≤top∧∃us cS st,h.get b=.au us cS st∧off+cap * size≤us.length∧(us.drop off).take ah.length=ah
  | .ei b off len idx=>len=n∧B≤cx b∧Old h b∧off=0∧idx=0∧∃us st,h.get b=.au us size st∧ah.length≤us.length∧us.take ah.length=ah
  | _=>False
theorem cn.v {B:Nat} {h:ai} {size:Nat} {v:V} {n:Nat} {ah:List V} (H:cn B h size v n ah):cj h size v n ah:=by
 obtain ⟨ad,ak⟩:=H
 refine ⟨ad,?_⟩
 cases v<;>simp only at ak ⊢<;>first | exact ak | skip
 · obtain ⟨aP,_,aA,a2,_,us,cS,st,b',da,eh⟩:=ak
   refine ⟨aP,aA,us,.inr ⟨cS,st,b'⟩,?_,eh⟩
   rw [ad]
   have:=Nat.mul_le_mul_right size a2
   omega
 · obtain ⟨aP,_,aA,a2,_,us,st,b',da,eh⟩:=ak
   subst a2
   exact ⟨aP,aA,us,.inr ⟨size,st,b'⟩,by omega,by simpa using eh⟩
theorem cn.base {B:Nat} {h:ai} {size:Nat} {v:V} {n:Nat} {ah:List V} (H:cn B h size v n ah) {b:aV} (af:v.bb b):B≤cx b:=by
 have ez:=H.2
 cases v<;>simp only [V.bb] at ez af<;>first | (exact af.elim) | (subst af;exact ez.2.1)
theorem cn.mono {B Bx:Nat} {h:ai} {size:Nat} {v:V} {n:Nat} {ah:List V} (H:cn B h size v n ah) (dF:Bx≤B):cn Bx h size v n ah:=by
 refine ⟨H.1,?_⟩
 have ez:=H.2
 cases v<;>simp only at ez ⊢<;>first | exact ez | exact ⟨ez.1,Nat.le_trans dF ez.2.1,ez.2.2⟩
theorem cn.mod {M:aV→Prop} {h J:ai} (e:Mod M h J) {B size:Nat} {v:V} {n:Nat} {ah:List V} (H:cn B h size v n ah) (hm:∀b,v.bb b→¬M b):cn B J size v n ah:=by
 refine ⟨H.1,?_⟩
 have ez:=H.2
 cases v<;>simp only at ez ⊢<;>first | exact ez | skip
 · obtain ⟨aP,aA,a2,b',da,us,cS,st,eh,eE⟩:=ez
   exact ⟨aP,aA,e.b5 a2,b',da,us,cS,st,by rw [e.get _ a2 (hm _ rfl)];exact eh,eE⟩
 · obtain ⟨aP,aA,a2,b',da,us,st,eh,eE⟩:=ez
   exact ⟨aP,aA,e.b5 a2,b',da,us,st,by rw [e.get _ a2 (hm _ rfl)];exact eh,eE⟩
theorem cn.ext {h J:ai} (e:Ext h J) {B size:Nat} {v:V} {n:Nat} {ah:List V} (H:cn B h size v n ah):cn B J size v n ah:=
 H.mod (e.mod fun _=>False) fun _ _ q=>q
theorem abN {h:ai} {size:Nat} {v:V} {n:Nat} {ah:List V} (H:cj h size v n ah):o0 v=some n:=by
 have ez:=H.2
 cases v<;>simp only at ez<;>first
  | (rw [←ez.1];rfl)
  | (subst ez;rfl)
  | (exact ez.elim)
theorem Bi {h:ai} {b:aV} {off size n:Nat} {ah:List V} (H:jB h b off ah) (aL:ah.length=n * size):sc h size b off n=some ah:=by
 obtain ⟨_,us,ad,ak,aB⟩:=H
 unfold sc
 rw [ad.pd,show Nat.ble (off+n * size) us.length=true from by rw [Nat.ble_eq];omega,zT us _ off (by omega),←aL,aB]
 rfl
theorem afN {h:ai} {size:Nat} {v:V} {n:Nat} {ah:List V} (H:cj h size v n ah):tv h size v n=some ah:=by
 obtain ⟨ad,ak⟩:=H
 cases v<;>simp only at ak<;>first
  | (exact ak.elim)
  | (obtain ⟨_,aB⟩:=ak;exact Bi aB ad)
  | (subst ak
     have:ah=[]:=List.eq_nil_of_length_eq_zero (by omega)
     subst this
     rfl)
theorem cn.grown {B:Nat} {h:ai} {size:Nat} {ah:List V} {n:Nat} {st:Bool} (aL:ah.length=n * size) (dF:B≤h.next):cn B (h.new (.au ah size st)) size (.ei (ao h.next) 0 n 0) n ah:=
 ⟨aL,rfl,by rw [c'];exact dF,uQ,rfl,rfl,ah,st,gz _,Nat.le_refl _,List.take_length⟩
theorem SN {h:ai} {size:Nat} {s x:V} {m:Nat} {ah:List V} (ez:cj h size x m ah) (hm:m≤top):l2 size s x h=(match s with
 | .aw=>xx size m ah h
 | .slice b off len cap=>xw size b off len cap m ah h
 | .ei b off len idx=>xv size b off len idx m ah h
 | _=>.fail):=by
 unfold l2
 rw [abN ez]
 simp only
 rw [afN ez]
 simp only
 rw [show Nat.ble m top=true from by rw [Nat.ble_eq];exact hm]
 rfl
theorem Q2 (A:List V) (o:Nat) (W:List V) (h:o+W.length≤A.length) (q:Nat):(iw A o W)[q]? =if q<o then A[q]? else if q<o+W.length then W[q-o]? else A[q]? :=by
 have aL:(A.take o).length=o:=by rw [List.length_take];omega
 unfold iw
 rw [List.append_assoc]
 by_cases cg:q<o
 · rw [if_pos cg,List.getElem?_append_left (by omega),List.getElem?_take_of_lt cg]
 · rw [if_neg cg,List.getElem?_append_right (by omega),aL]
   by_cases dk:q<o+W.length
   · rw [if_pos dk,List.getElem?_append_left (by omega)]
   · rw [if_neg dk,List.getElem?_append_right (by omega),List.getElem?_drop]
     congr 1
     omega
theorem yI (A:List V) (o j:Nat) (L W:List V) (dz:o+L.length≤A.length) (b6:(A.drop o).take L.length=L) (bQ:j+W.length≤L.length):((iw A (o+j) W).drop o).take L.length=iw L j W:=by
 apply List.ext_getElem?
 intro q
 have aL:((A.drop o).take L.length)[q]? =L[q]? :=by rw [b6]
 rw [Q2 L j W bQ]
 by_cases aZ:q<L.length
 · rw [List.getElem?_take_of_lt aZ,List.getElem?_drop,Q2 A (o+j) W (by omega)]
   rw [List.getElem?_take_of_lt aZ,List.getElem?_drop] at aL
   by_cases cg:q<j
   · rw [if_pos (by omega),if_pos cg,aL]
   · rw [if_neg (by omega),if_neg cg]
     by_cases dk:q<j+W.length
     · rw [if_pos (by omega),if_pos dk]
       congr 1
       omega
     · rw [if_neg (by omega),if_neg dk,aL]
 · rw [List.getElem?_take_eq_none (by omega),if_neg (by omega),if_neg (by omega),List.getElem?_eq_none (by omega)]
theorem zo {B:Nat} {h:ai} {size:Nat} {s x:V} {n m:Nat} {us ah:List V} (gG:1≤size) (H1:cn B h size s n us) (ez:cj h size x m ah) (dF:B≤h.next) (hlen:(n+m) * size≤top) (bA:gv ah=true):
 ∃v J,l2 size s x h=.val v J∧cn B J size v (n+m) (us++ah)∧Mod s.bb h J∧∀b,v.bb b→s.bb b∨h.next≤cx b:=by
 have kl:n+m≤top:=Nat.le_trans (Nat.le_mul_of_pos_right _ gG) hlen
 have e0:=H1.1
 have gZ:=ez.1
 have gF:(us++ah).length=(n+m) * size:=by rw [List.length_append,e0,gZ,Nat.add_mul]
 rw [SN ez (by omega)]
 have ak:=H1.2
 cases s<;>simp only at ak ⊢<;>try (exact ak.elim)
 case aw=>
  subst ak
  have:us=[]:=List.eq_nil_of_length_eq_zero (by omega)
  subst this
  unfold xx
  by_cases hm:m=0
  · subst hm
    have:ah=[]:=List.eq_nil_of_length_eq_zero (by omega)
    subst this
    exact ⟨.aw,h,rfl,⟨by simp,rfl⟩,Mod.refl _ _,fun b af=>.inl af⟩
  · rw [show Nat.beq m 0=false from by rw [←Bool.not_eq_true,Nat.beq_eq];exact hm]
    simp only [cond_false]
    rw [ys (by rw [gZ];simpa using hlen) gG]
    refine ⟨_,_,rfl,?_,(Mod.refl _ _).new _,fun b af=>.inr (by rw [show b=ao h.next from af,c'];exact Nat.le_refl _)⟩
    have:=cn.grown (B:=B) (h:=h) (size:=size) (ah:=ah) (n:=m) (st:=false) gZ dF
    simpa using this
 case slice b off len cap=>
  obtain ⟨rfl,aA,a2,b',da,ie,cS,st,eh,eE,fa⟩:=ak
  unfold xw
  by_cases aC:len+m≤cap
  · rw [show Nat.ble (len+m) cap=true from by rw [Nat.ble_eq];exact aC]
    simp only [cond_true]
    have hZ:off+len * size+ah.length≤ie.length:=by
     have:=Nat.mul_le_mul_right size aC
     rw [Nat.add_mul] at this
     rw [gZ]
     omega
    rw [Own.lay (ah:=ie) (cS:=cS) (st:=st) eh hZ bA]
    refine ⟨_,_,rfl,⟨gF,rfl,aA,a2,aC,da,_,cS,st,dB _ _ _ |>.trans (if_pos rfl),?_,?_⟩,(Mod.refl (V.bb (.slice b off len cap)) h).set (fun _=>rfl) _,fun b2 af=>.inl af⟩
    · rw [u4 _ _ _ hZ];exact eE
    · rw [List.length_append]
      unfold iw
      have fj:off+us.length≤ie.length:=by rw [e0];omega
      have aI:ie.take (off+len * size)=ie.take off++us:=by
       rw [←e0,List.take_add,fa]
      rw [aI,List.append_assoc,List.append_assoc,List.drop_append,List.drop_eq_nil_of_le (by rw [List.length_take];omega),List.nil_append]
      rw [show off - (ie.take off).length=0 from by rw [List.length_take];omega,List.drop_zero]
      rw [←List.append_assoc,List.take_left' (by rw [List.length_append])]
  · rw [show Nat.ble (len+m) cap=false from by rw [←Bool.not_eq_true,Nat.ble_eq];exact aC]
    simp only [cond_false]
    rw [show (Nat.ble (len+m) top&&Nat.ble cap top)=true from by simp only [Bool.and_eq_true,Nat.ble_eq];exact ⟨kl,da⟩]
    simp only [cond_true]
    have g':jB h b off us:=⟨a2,ie,.inr ⟨cS,st,eh⟩,by rw [e0];have:=Nat.mul_le_mul_right size b';omega,fa⟩
    rw [Bi g' e0]
    simp only
    rw [ys (by rw [gF];exact hlen) gG]
    exact ⟨_,_,rfl,cn.grown gF dF,(Mod.refl _ _).new _,fun b af=>.inr (by rw [show b=ao h.next from af,c'];exact Nat.le_refl _)⟩
 case ei b off len idx=>
  obtain ⟨rfl,aA,a2,rfl,rfl,ie,st,eh,eE,fa⟩:=ak
  unfold xv
  by_cases hm:m=0
  · subst hm
    have:ah=[]:=List.eq_nil_of_length_eq_zero (by omega)
    subst this
    exact ⟨_,h,rfl,⟨gF,rfl,aA,a2,rfl,rfl,ie,st,eh,by simpa using eE,by simpa using fa⟩,Mod.refl _ _,fun b af=>.inl af⟩
  · rw [show Nat.beq m 0=false from by rw [←Bool.not_eq_true,Nat.beq_eq];exact hm]
    simp only [cond_false]
    rw [eh]
    simp only [cL.au,cL.on]
    rw [show (Nat.beq size size&&(Nat.ble (len+m) top&&gv ah)&&Nat.beq 0 (0 * size))=true from by
     simp only [Bool.and_eq_true,Nat.beq_eq,Nat.ble_eq]
     exact ⟨⟨trivial,kl,bA⟩,by omega⟩]
    simp only [cond_true]
    have g':jB h b 0 us:=⟨a2,ie,.inr ⟨size,st,eh⟩,by omega,by simpa using fa⟩
    rw [Bi g' e0]
    simp only
    rw [ys (by rw [gF];exact hlen) gG]
    exact ⟨_,_,rfl,cn.grown (h:=h.set b .dead) gF dF,((Mod.refl (V.bb (.ei b 0 len 0)) h).set (fun _=>rfl) _).new _,fun b2 af=>.inr (by rw [show b2=ao h.next from af,c'];exact Nat.le_refl _)⟩
theorem ac6 {ah ws:List V} (ad:gv ah=true) (ak:gv ws=true):gv (ah++ws)=true:=by
 induction ah with
 | nil=>exact ak
 | cons v ah bJ=>
   simp only [gv,Bool.and_eq_true,List.cons_append] at ad ⊢
   exact ⟨ad.1,bJ ad.2⟩
def V.at (v:V) (b:aV) (off:Nat):Prop:=
 match v with
 | .slice b2 o _ _=>b=b2∧off=o
 | .ei b2 o _ _=>b=b2∧off=o
 | _=>False
theorem Ft {h:ai} {size:Nat} {v:V} {n:Nat} {ah:List V} (H:cj h size v n ah) {k:IntKind} {i:Nat} (aH:i<n) {b:aV} {off:Nat} (e:e8 size v (.int k i)=some (.ptr b (off+i * size))):v.at b off:=by
 have ez:=H.2
 cases v<;>simp only at ez<;>first | omega | (exact ez.elim) | skip
 · obtain ⟨rfl,_⟩:=ez
   rw [yc,if_pos (by omega)] at e
   simp only [Option.some.injEq,V.ptr.injEq,Int.toNat_natCast] at e
   exact ⟨e.1.symm,by omega⟩
 · obtain ⟨rfl,_⟩:=ez
   rw [yb,if_pos (by omega)] at e
   simp only [Option.some.injEq,V.ptr.injEq,Int.toNat_natCast] at e
   exact ⟨e.1.symm,by omega⟩
theorem Q3 (ah:List V) (c:Nat) (y:V) (h:c<ah.length):iw ah c [y]=ah.set c y:=by
 unfold iw
 rw [List.set_eq_take_append_cons_drop,if_pos h]
 simp
theorem cn.Im {B:Nat} {h:ai} {size:Nat} {v:V} {n:Nat} {ah:List V} (H:cn B h size v n ah) {b:aV} {off:Nat} (bT:v.at b off) {c:Nat} (aC:c<ah.length) {y:V} (bG:y.cells=[y]) (bA:y.one=true):
 ∃k,qT 1 h b (off+c) y (h.get b)=some (h.set b k)∧(∀jn:ai,jn.get b=h.get b→qT 1 jn b (off+c) y (h.get b)=some (jn.set b k))∧cn B (h.set b k) size v n (ah.set c y)∧v.bb b:=by
 obtain ⟨ad,ak⟩:=H
 have x8:gv y.cells=true:=by rw [bG];simp [gv,bA]
 cases v<;>simp only at ak<;>simp only [V.at] at bT<;>try (exact bT.elim)
 case slice b2 o len cap=>
  obtain ⟨rfl,rfl⟩:=bT
  obtain ⟨rfl,aA,a2,b',da,ie,cS,st,eh,eE,fa⟩:=ak
  have N0:=Nat.mul_le_mul_right size b'
  have hZ:off+c+y.cells.length≤ie.length:=by rw [bG];simp;omega
  have e:∀jn:ai,jn.get b=h.get b→qT 1 jn b (off+c) y (h.get b)=some (jn.set b (.au (og ie (off+c) y.cells) cS st)):=by
   intro jn _
   rw [eh]
   exact HI (by rw [bG];rfl) x8 (by rw [bG] at hZ;simpa using hZ)
  refine ⟨_,e h rfl,e,⟨by simpa using ad,rfl,aA,a2,b',da,_,cS,st,dB _ _ _ |>.trans (if_pos rfl),?_,?_⟩,rfl⟩
  · rw [IX _ _ _ hZ];exact eE
  · rw [yH _ _ _ hZ,List.length_set]
    have:=yI ie off c ah y.cells (by rw [ad];omega) fa (by rw [bG];simp;omega)
    rw [this,bG,Q3 ah c y aC]
 case ei b2 o len idx=>
  obtain ⟨rfl,rfl⟩:=bT
  obtain ⟨rfl,aA,a2,rfl,rfl,ie,st,eh,eE,fa⟩:=ak
  have hZ:0+c+y.cells.length≤ie.length:=by rw [bG];simp;omega
  have e:∀jn:ai,jn.get b=h.get b→qT 1 jn b (0+c) y (h.get b)=some (jn.set b (.au (og ie (0+c) y.cells) size st)):=by
   intro jn _
   rw [eh]
   exact HI (by rw [bG];rfl) x8 (by rw [bG] at hZ;simpa using hZ)
  refine ⟨_,e h rfl,e,⟨by simpa using ad,rfl,aA,a2,rfl,rfl,_,st,dB _ _ _ |>.trans (if_pos rfl),?_,?_⟩,rfl⟩
  · rw [IX _ _ _ hZ,List.length_set];exact eE
  · rw [yH _ _ _ hZ,List.length_set]
    have:=yI ie 0 c ah y.cells (by omega) (by simpa using fa) (by rw [bG];simp;omega)
    rw [List.drop_zero] at this
    rw [this,bG,Q3 ah c y aC]
theorem ac' (r:bP):bp.opt r none=none:=(rfl)
theorem ac_ (r:bP) (x:bp):bp.opt r (some x)=some (x.br r):=(rfl)
theorem m' {k:IntKind} {m d y:Nat} (h:m≤y):bound (some (.int k (m:Int))) d y=some m:=by
 simp only [bound,V.eX,oY]
 rw [show (decide ((0:Int)≤(m:Int))&&decide ((m:Int)≤(y:Int)))=true from by simp;omega]
 simp
theorem mI (d y:Nat):bound none d y=some d:=rfl
theorem cj.cut {h:ai} {size:Nat} {v:V} {n:Nat} {ah:List V} (H:cj h size v n ah) {k cb:IntKind} {cm aH:Nat} (ad:cm≤aH) (ak:aH≤n) (wG vR:Option V)
 (fj:wG=some (.int k cm)∨wG=none∧cm=0) (j3:vR=some (.int cb aH)∨vR=none∧aH=n) (rG:∀b off l c,v=.slice b off l c→l≤c):
 ∃db,gI size v wG vR none=some db∧cj h size db (aH-cm) ((ah.drop (cm * size)).take ((aH-cm) * size))∧∀b,db.bb b→v.bb b:=by
 obtain ⟨aP,aA⟩:=H
 have gF:((ah.drop (cm * size)).take ((aH-cm) * size)).length=(aH-cm) * size:=by
  rw [List.length_take,List.length_drop,aP]
  have aI:=Nat.mul_le_mul_right size ad
  have bo:=Nat.mul_le_mul_right size ak
  rw [Nat.sub_mul]
  omega
 have vu:∀y,cm≤y→bound wG 0 y=some cm:=by
  intro y bG
  rcases fj with rfl | ⟨rfl,rfl⟩
  · exact m' bG
  · rfl
 have zs:∀d y,n=d→n≤y→bound vR d y=some aH:=by
  intro d y ca bG
  rcases j3 with rfl | ⟨rfl,rfl⟩
  · exact m' (by omega)
  · rw [mI,ca]
 have piece:∀(b:aV) (off:Nat),jB h b off ah→jB h b (off+cm * size) ((ah.drop (cm * size)).take ((aH-cm) * size)):=by
  rintro b off ⟨bt,us,b1,a3,a4⟩
  have aI:=Nat.mul_le_mul_right size ad
  have bo:=Nat.mul_le_mul_right size ak
  refine ⟨bt,us,b1,?_,?_⟩
  · rw [gF,Nat.sub_mul];omega
  · rw [gF,←List.drop_drop]
    have:(us.drop off).drop (cm * size)=(((us.drop off).take ah.length).drop (cm * size))++(us.drop off).drop ah.length:=by
     rw [←List.drop_append_of_le_length (by rw [List.length_take,List.length_drop];omega),List.take_append_drop]
    rw [this,a4,List.take_append_of_le_length (by rw [List.length_drop,aP,Nat.sub_mul];omega)]
 cases v<;>simp only at aA<;>try (exact aA.elim)
 case aw=>
  subst aA
  obtain rfl:aH=0:=by omega
  obtain rfl:cm=0:=by omega
  refine ⟨.aw,?_,⟨gF,rfl⟩,fun b af=>af⟩
  simp only [gI,wY,zs 0 0 rfl (Nat.le_refl _),vu 0 (Nat.le_refl _)]
 case slice b off len cap=>
  obtain ⟨rfl,a2⟩:=aA
  have aC:=rG b off len cap rfl
  have e:gI size (.slice b off len cap) wG vR none=some (.slice b (bif Nat.beq cap cm then off else off+cm * size) (aH-cm) (cap-cm)):=by
   simp only [gI,p',zs len cap rfl aC,vu aH ad]
  rw [e]
  refine ⟨_,rfl,⟨gF,rfl,?_⟩,fun b2 af=>af⟩
  cases af:Nat.beq cap cm with
  | false=>exact piece b off a2
  | true=>
    rw [Nat.beq_eq] at af
    obtain rfl:aH=cm:=by omega
    obtain ⟨bt,us,b1,a3,a4⟩:=a2
    refine ⟨bt,us,b1,?_,?_⟩<;>simp
    omega
 case ei b off len idx=>
  obtain ⟨rfl,a2⟩:=aA
  by_cases a7:cm<len
  · have e:gI size (.ei b off len idx) wG vR none=some (.ei b (off+cm * size) (aH-cm) (idx+cm)):=by
     simp only [gI,pg,zs len len rfl (Nat.le_refl _),vu aH ad]
     rw [show Nat.blt cm len=true from by rw [Nat.blt_eq];exact a7]
     rfl
    rw [e]
    exact ⟨_,rfl,⟨gF,rfl,piece b off a2⟩,fun b2 af=>af⟩
  · have e:gI size (.ei b off len idx) wG vR none=some (.h4 b off (off+cm * size) (idx+cm)):=by
     simp only [gI,pg,zs len len rfl (Nat.le_refl _),vu aH ad]
     rw [show Nat.blt cm len=false from by rw [←Bool.not_eq_true,Nat.blt_eq];exact a7]
     rfl
    rw [e]
    exact ⟨_,rfl,⟨gF,by omega⟩,fun b2 af=>af.elim⟩
 case h4 b off o5 idx=>
  subst aA
  obtain rfl:aH=0:=by omega
  obtain rfl:cm=0:=by omega
  refine ⟨.h4 b off o5 idx,?_,⟨gF,rfl⟩,fun b af=>af⟩
  simp only [gI,yG,zs 0 0 rfl (Nat.le_refl _),vu 0 (Nat.le_refl _)]
theorem cn.cut {B:Nat} {h:ai} {size:Nat} {v:V} {n:Nat} {ah:List V} (H:cn B h size v n ah) {k:IntKind} {m:Nat} (hm:m≤n) (a1:1≤n):
 ∃db,gI size v none (some (.int k m)) none=some db∧cn B h size db m (ah.take (m * size))∧∀b,db.bb b→v.bb b:=by
 obtain ⟨aP,aA⟩:=H
 have X_:=Nat.mul_le_mul_right size hm
 have gF:(ah.take (m * size)).length=m * size:=by rw [List.length_take];omega
 cases v<;>simp only at aA<;>try (first | omega | exact aA.elim)
 case slice b off len cap=>
  obtain ⟨rfl,a2,b',da,eh,us,cS,st,eE,fa,hM⟩:=aA
  have e:gI size (.slice b off len cap) none (some (.int k m)) none=some (.slice b off m cap):=by
   simp only [gI,p',m' (show m≤cap by omega),mI]
   cases Nat.beq cap 0<;>simp
  rw [e]
  refine ⟨_,rfl,⟨gF,rfl,a2,b',by omega,eh,us,cS,st,eE,fa,?_⟩,fun b2 af=>af⟩
  rw [gF,←hM,List.take_take]
  congr 1
  omega
 case ei b off len idx=>
  obtain ⟨rfl,a2,b',rfl,rfl,us,st,eE,fa,hM⟩:=aA
  have e:gI size (.ei b 0 len 0) none (some (.int k m)) none=some (.ei b 0 m 0):=by
   simp only [gI,pg,m' hm,mI]
   rw [show Nat.blt 0 len=true from by rw [Nat.blt_eq];omega]
   simp
  rw [e]
  refine ⟨_,rfl,⟨gF,rfl,a2,b',rfl,rfl,us,st,eE,by omega,?_⟩,fun b2 af=>af⟩
  rw [gF,←hM,List.take_take]
  congr 1
  omega
theorem acx (b:aV) (o:Nat):uM (.ptr b o)=some (.ptr b o):=rfl
theorem ach (k cb:IntKind) (a b:Int):lQ (fun b a=>!Int.leB a b) [.int k a,.int cb b]=some (.int k (if b<a then b else a)):=by
 simp only [lQ,wR,V.eX,oY]
 by_cases h:b<a
 · rw [if_pos h]
   have:¬a≤b:=by omega
   simp [this]
 · rw [if_neg h]
   have:a≤b:=by omega
   simp [this]
theorem acj (k cb:IntKind) (a b:Int):lQ (fun b a=>!Int.leB b a) [.int k a,.int cb b]=some (.int k (if a<b then b else a)):=by
 simp only [lQ,wR,V.eX,oY]
 by_cases h:a<b
 · rw [if_pos h]
   have:¬b≤a:=by omega
   simp [this]
 · rw [if_neg h]
   have:b≤a:=by omega
   simp [this]
theorem jB.cell {h:ai} {b:aV} {off:Nat} {ah:List V} (H:jB h b off ah) {i j n:Nat} {ws:List V} (hw:(ah.drop i).take n=ws) (aH:i+n≤ah.length) (bQ:j<n):hU (h.get b) (off+i+j)=ws[j]? :=by
 rw [Nat.add_assoc,H.b7 (by omega),←hw,List.getElem?_take_of_lt bQ,List.getElem?_drop,List.getElem?_eq_getElem]
end Go.Proofs.YtjbiefneffiogaaGreat.bs
namespace Go.Proofs.YtjbiefneffiogaaGreat.bs
variable [Lay]
open Go Go.RowKit
set_option linter.defProp false
end Go.Proofs.YtjbiefneffiogaaGreat.bs
namespace Go.Proofs.YtjbiefneffiogaaGreat.bs
variable [Lay]
open Go Go.RowKit
theorem VF {P:Program} {aE:List iK} {r:bP} {h:ai} {Q:cN→bP→ai→Prop} {a b:bK}:xI P (.bool true) a b aE r h Q=bN P (.c a::aE) .normal r h Q:=by
 rw [MT];simp
theorem VE {P:Program} {aE:List iK} {r:bP} {h:ai} {Q:cN→bP→ai→Prop} {a b:bK}:xI P (.bool false) a b aE r h Q=bN P (.c b::aE) .normal r h Q:=by
 rw [MT];simp
theorem xD (a b:List UInt8):py a b=decide (a=b):=by
 rw [xE,Bool.eq_iff_iff]
 simp
theorem Fx (k:IntKind) (b:Int) (d y:Nat):bound (some (.int k b)) d y=if 0≤b∧b≤(y:Int) then some b.toNat else none:=by
 simp only [bound,V.eX,oY]
 by_cases ad:0≤b<;>by_cases ak:b≤(y:Int)<;>simp [ad,ak]
theorem afE (s:List UInt8) (k:IntKind) (b:Int):mo (.str s) none (some (.int k b)) none=if 0≤b∧b≤(s.length:Int) then some (.str (s.take b.toNat)) else none:=by
 simp only [mo,Fx]
 by_cases h:0≤b∧b≤(s.length:Int)
 · simp only [h,and_self,if_true,bound,List.drop_zero,Nat.sub_zero]
 · simp only [h,if_false]
theorem afF (s:List UInt8) (k:IntKind) (a:Int):mo (.str s) (some (.int k a)) none none=if 0≤a∧a≤(s.length:Int) then some (.str (s.drop a.toNat)) else none:=by
 simp only [mo,mI,Fx]
 by_cases h:0≤a∧a≤(s.length:Int)
 · simp only [h,and_self,if_true]
   rw [List.take_of_length_le (by rw [List.length_drop];omega)]
 · simp only [h,if_false]
theorem IU (s:List UInt8) (k cb:IntKind) (a b:Int):mo (.str s) (some (.int k a)) (some (.int cb b)) none=if 0≤a∧a≤b∧b≤(s.length:Int) then some (.str ((s.drop a.toNat).take (b.toNat-a.toNat))) else none:=by
 simp only [mo,Fx]
 by_cases h:0≤b∧b≤(s.length:Int)
 · simp only [h,and_self,if_true]
   by_cases ak:0≤a∧a≤b
   · have:0≤a∧a≤((b.toNat:Nat):Int):=by omega
     simp only [this,and_self,if_true,ak,h]
   · have aB:¬(0≤a∧a≤((b.toNat:Nat):Int)):=by omega
     have bw:¬(0≤a∧a≤b∧b≤(s.length:Int)):=by omega
     have ej:¬(0≤a∧a≤b∧True):=fun q=>ak ⟨q.1,q.2.1⟩
     rw [if_neg ej,if_neg aB]
 · have bw:¬(0≤a∧a≤b∧b≤(s.length:Int)):=by omega
   simp only [h,bw,if_false]
theorem afD (s:List UInt8):mo (.str s) none none none=some (.str s):=by
 simp only [mo,mI,List.drop_zero,Nat.sub_zero,List.take_length]
section
variable {P:Program}
theorem QM (a b:List UInt8):(e4.str .eql).run P (.str a) (.str b)=some (.bool (decide (a=b))):=by simp only [e4.run,tw,se,xD]
theorem IL (a b:List UInt8):(e4.str .add).run P (.str a) (.str b)=if a.length+b.length≤top then some (.str (a++b)) else none:=by
 simp only [e4.run,tw,Ef]
 by_cases h:a.length+b.length≤top
 · rw [if_pos h,show Nat.ble (a.length+b.length) top=true from by rw [Nat.ble_eq];exact h]
   rfl
 · rw [if_neg h,show Nat.ble (a.length+b.length) top=false from by rw [←Bool.not_eq_true,Nat.ble_eq];exact h]
   rfl
theorem IM (s:List UInt8) (k:IntKind) (i:Int):qR.run (.str s) (.int k i)=if 0≤i∧i < (s.length:Int) then some (.int .u8 (((s[i.toNat]?).getD 0).toNat:Int)) else none:=by
 simp only [qR,V.eX,oY]
 by_cases ad:0≤i
 · simp only [ad,decide_true,cond_true,true_and]
   by_cases ak:i < (s.length:Int)
   · rw [if_pos ak,List.getElem?_eq_getElem (by omega)]
     rfl
   · rw [if_neg ak,List.getElem?_eq_none (by omega)]
 · simp only [ad,decide_false,cond_false,false_and,if_false]
theorem afn (a b:List UInt8):(e4.str .neq).run P (.str a) (.str b)=some (.bool (!decide (a=b))):=by simp only [e4.run,tw,se,xD]
end
end Go.Proofs.YtjbiefneffiogaaGreat.bs
namespace Go.Proofs.YtjbiefneffiogaaGreat.bs
open Go Go.RowKit
set_option linter.defProp false
def agI:=
 And.intro @aau<|And.intro @ZH<|And.intro @aaC<|And.intro @ZI<|And.intro @aaz<|And.intro @aaD<|And.intro @aaA<|And.intro @Z1<|And.intro @ZT<|And.intro @ZP<|And.intro @ZR<|And.intro @aak<|And.intro @ZZ<|And.intro @aax<|And.intro @aaq<|And.intro @abf<|And.intro @aay<|And.intro @abk<|And.intro @ZM<|And.intro @aaP<|And.intro @aac<|And.intro @aa7<|And.intro @aad<|And.intro @aa8<|And.intro @aav<|And.intro @abi<|And.intro @ZG<|And.intro @aaM<|And.intro @aaI<|And.intro @abp<|And.intro @Z6<|And.intro @aa1<|And.intro @Z_<|And.intro @aa4<|And.intro @aaF<|And.intro @abn<|And.intro @aaE<|And.intro @abm<|And.intro @Z3<|@aaY
def agJ:=
 And.intro @Z4<|And.intro @aaZ<|And.intro @Z5<|And.intro @aa0<|And.intro @Z9<|And.intro @aa2<|And.intro @Z'<|And.intro @aa3<|And.intro @aab<|And.intro @aa6<|And.intro @aaa<|And.intro @aa5<|And.intro @aaj<|And.intro @abb<|And.intro @Z2<|And.intro @aaX<|And.intro @aao<|And.intro @abe<|And.intro @aar<|And.intro @abg<|And.intro @ZV<|And.intro @aaU<|And.intro @aag<|And.intro @aa_<|And.intro @aah<|And.intro @aba<|And.intro @aae<|And.intro @aa9<|And.intro @aat<|And.intro @abh<|And.intro @ZK<|And.intro @aaN<|And.intro @ZL<|And.intro @aaO<|And.intro @aaG<|And.intro @abo<|And.intro @aan<|And.intro @abd<|And.intro @Dn<|@abq
def agK:=
 And.intro @aam<|And.intro @abc<|And.intro @aaB<|And.intro @abl<|And.intro @aaw<|And.intro @abj<|And.intro @ZE<|And.intro @aaL<|And.intro @ZS<|And.intro @aaS<|And.intro @aaf<|And.intro @aa'<|And.intro @ZU<|And.intro @aaT<|And.intro @ZX<|And.intro @aaW<|And.intro @ZW<|And.intro @aaV<|And.intro @aaQ<|And.intro @aaR<|And.intro @ZN<|And.intro @ZO<|@ZY
def agL:=
 And.intro @af5<|And.intro @IV<|And.intro @VF<|And.intro @VE<|And.intro @Vc<|And.intro @ad_<|And.intro @Tf<|And.intro @Te<|And.intro @adb<|And.intro @Wk<|And.intro @Wj<|And.intro @Th<|And.intro @V9<|And.intro @V8<|And.intro @adr<|And.intro @V_<|And.intro @acR<|And.intro @acQ<|And.intro @abQ<|And.intro @abO<|And.intro @abR<|And.intro @abP<|And.intro @abS<|And.intro @yc<|And.intro @yb<|And.intro @VR<|And.intro @Cz<|And.intro @xQ<|And.intro @agd<|And.intro @afs<|And.intro @aft<|And.intro @acK<|And.intro @acL<|And.intro @ada<|And.intro @ac9<|And.intro @agw<|And.intro @agv<|And.intro @S9<|And.intro @S'<|@S_
def agM:=
 And.intro @Ta<|And.intro @S8<|And.intro @R3<|And.intro @R5<|And.intro @R4<|And.intro @aga<|And.intro @agc<|And.intro @agb<|And.intro @Zy<|And.intro @ZA<|And.intro @Zz<|And.intro @ZD<|And.intro @aaH<|And.intro @aap<|And.intro @Z0<|And.intro @aas<|And.intro @aal<|And.intro @aai<|And.intro @Z8<|And.intro @Z7<|And.intro @ZF<|And.intro @ZJ<|And.intro @agl<|And.intro @agk<|And.intro @abX<|And.intro @abY<|And.intro @qU<|And.intro @O3<|And.intro @HL<|And.intro @O5<|And.intro @af1<|And.intro @abD<|And.intro @gz<|And.intro @eG<|And.intro @dB<|And.intro @gM<|And.intro @cY<|And.intro @hf<|And.intro @acu<|@Vh
def agN:=
 And.intro @acS<|And.intro @WM<|And.intro @Vl<|And.intro @DL<|And.intro @oP<|And.intro @Vu<|And.intro @ac4<|And.intro @WZ<|And.intro @Vq<|And.intro @ac0<|And.intro @WV<|And.intro @Vs<|And.intro @ac2<|And.intro @WX<|And.intro @Vt<|And.intro @ac3<|And.intro @WY<|And.intro @Vj<|And.intro @acU<|And.intro @WO<|And.intro @Vv<|And.intro @ac5<|And.intro @W0<|And.intro @Vr<|And.intro @ac1<|And.intro @WW<|And.intro @Vp<|And.intro @acZ<|And.intro @WU<|And.intro @Vm<|And.intro @acW<|And.intro @WR<|And.intro @Vi<|And.intro @acT<|And.intro @WN<|And.intro @Vo<|And.intro @acY<|And.intro @WT<|And.intro @Vk<|@acV
def agO:=
 And.intro @WQ<|And.intro @Vn<|And.intro @acX<|And.intro @WS<|And.intro @Vg<|And.intro @WL<|And.intro @W1<|And.intro @abJ<|And.intro @abK<|And.intro @abI<|And.intro @beq_true<|And.intro @beq_false<|And.intro @Bool.not_true<|And.intro @Bool.not_false<|And.intro @Bool.true_and<|And.intro @Bool.and_true<|And.intro @Bool.false_and<|And.intro @Bool.and_false<|And.intro @Bool.not_not<|And.intro @V.bool.injEq<|And.intro @Nat.zero_add<|And.intro @Nat.add_zero<|And.intro @af9<|And.intro @af'<|And.intro @af8<|And.intro @Bool.true_eq_false<|And.intro @Bool.false_eq_true<|And.intro @af_<|And.intro @adC<|And.intro @adD<|And.intro @SZ<|And.intro @SY<|And.intro @SV<|And.intro @SQ<|And.intro @Xw<|And.intro @Xy<|And.intro @Xx<|And.intro @SR<|And.intro @SS<|@SW
def agP:=
 And.intro @SX<|And.intro @wL<|And.intro @agW<|And.intro @uO<|And.intro @agX<|And.intro @q0<|And.intro @agY<|And.intro @tc<|And.intro @agZ<|And.intro @H8<|And.intro @ag0<|And.intro @acE<|And.intro @ag1<|And.intro @acF<|And.intro @ag2<|And.intro @acG<|And.intro @ag3<|And.intro @WA<|And.intro @Wx<|And.intro @Wz<|And.intro @Wy<|And.intro @WB<|And.intro @Bool.or_false<|And.intro @Bool.false_or<|And.intro @Bool.or_true<|And.intro @Bool.true_or<|And.intro @acx<|And.intro @ach<|And.intro @acj<|And.intro @ac'<|And.intro @ac_<|And.intro @Su<|And.intro @SA<|And.intro @SB<|And.intro @SC<|And.intro @SD<|And.intro @SE<|And.intro @SF<|And.intro @SG<|@SH
def agQ:=
 And.intro @St<|And.intro @Sv<|And.intro @Sw<|And.intro @Sx<|And.intro @Sy<|And.intro @Sz<|And.intro @afE<|And.intro @afF<|And.intro @IU<|And.intro @afD<|And.intro @QM<|And.intro @afn<|And.intro @IL<|@IM
end Go.Proofs.YtjbiefneffiogaaGreat.bs
namespace Go.Proofs.YtjbiefneffiogaaGreat.bs
variable [Lay]
open Go Go.RowKit
theorem ja {B:Nat} {h:ai} {size:Nat} {s:V} {n:Nat} {us cs:List V} (gG:1≤size) (H1:cn B h size s n us) (dF:B≤h.next) (hlen:(n+1) * size≤top) (g_:cs.length=size) (bA:gv cs=true):
 ∃v J,l2 size s (.slice (ao h.next) 0 1 1) (h.new (.au cs 0 false))=.val v J∧cn B J size v (n+1) (us++cs)∧Mod s.bb h J∧h.next+1≤J.next∧∀b,v.bb b→s.bb b∨h.next<cx b:=by
 have ax:Ext h (h.new (.au cs 0 false)):=(Ext.refl h).new _
 have bh:cj (h.new (.au cs 0 false)) size (.slice (ao h.next) 0 1 1) 1 cs:=by
  refine ⟨by rw [g_];omega,rfl,dP (by rw [cY];omega),cs,.inr ⟨0,false,by rw [gz]⟩,by omega,by simp⟩
 obtain ⟨v,J,aP,aA,a2,b'⟩:=zo gG (H1.ext ax) bh (by rw [cY];omega) hlen bA
 refine ⟨v,J,aP,aA,(ax.mod _).trans a2,by have:=a2.next;rw [cY] at this;exact this,fun b af=>?_⟩
 rcases b' b af with q | q
 · exact .inl q
 · exact .inr (by rw [cY] at q;omega)
theorem I4:∀l:List UInt8,pj (dt l)=some l
 | []=>rfl
 | c::l=>by
   have bJ:=I4 l
   simp only [dt,pj,bJ]
   simp
theorem ry:∀l:List UInt8,(dt l).length=l.length
 | []=>rfl
 | c::l=>by simp only [dt,List.length_cons,ry l]
theorem zA:∀l m:List UInt8,dt (l++m)=dt l++dt m
 | [],m=>rfl
 | c::l,m=>by simp only [dt,List.cons_append,zA l m]
theorem Kt:∀l:List UInt8,gv (dt l)=true
 | []=>rfl
 | c::l=>by
   have bJ:=Kt l
   simp only [dt,gv,bJ,DL,Bool.and_true]
theorem IZ {h:ai} {b:aV} {us:List V} {cS:Nat} {st:Bool} {off:Nat} {l:List UInt8} (bl:h.get b=.au us cS st) (aL:off+l.length≤us.length) (hu:(us.drop off).take l.length=dt l):q_ b off l.length h=.val (.str l) h:=by
 unfold q_
 rw [bl]
 simp only [cL.pd,cL.au]
 rw [show Nat.ble (off+l.length) us.length=true from by rw [Nat.ble_eq];exact aL]
 simp only [cond_true]
 rw [zT us l.length off aL,hu,I4]
theorem VJ {B:Nat} {h:ai} {v:V} {n:Nat} {l:List UInt8} (H:cn B h 1 v n (dt l)):nM.run v h=.val (.str l) h:=by
 have ad:=H.1
 rw [ry,Nat.mul_one] at ad
 have ak:=H.2
 cases v<;>simp only at ak<;>try (exact ak.elim)
 case aw=>
  subst ak
  rw [List.length_eq_zero_iff] at ad
  subst ad
  rfl
 case slice=>
  obtain ⟨aP,aA,a2,b',da,us,cS,st,eh,eE,fa⟩:=ak
  rw [ry] at fa
  simp only [nM]
  rw [aP,←ad]
  exact IZ eh (by omega) fa
 case ei=>
  obtain ⟨aP,aA,a2,b',da,us,st,eh,eE,fa⟩:=ak
  rw [ry] at fa eE
  simp only [nM]
  rw [aP,b',←ad]
  exact IZ eh (by omega) (by simpa using fa)
noncomputable def Fp (size:Nat) (s:V) (m:Nat) (ah:List V) (h:ai):bE:=match s with
 | .aw=>xx size m ah h
 | .slice b off len cap=>xw size b off len cap m ah h
 | .ei b off len idx=>xv size b off len idx m ah h
 | _=>.fail
theorem SP {B:Nat} {h:ai} {size:Nat} {s x:V} {n m:Nat} {us ah:List V} (gG:1≤size) (H1:cn B h size s n us) (gZ:ah.length=m * size) (W8:l2 size s x h=Fp size s m ah h) (dF:B≤h.next) (hlen:(n+m) * size≤top) (bA:gv ah=true):
 ∃v J,l2 size s x h=.val v J∧cn B J size v (n+m) (us++ah)∧Mod s.bb h J∧∀b,v.bb b→s.bb b∨h.next≤cx b:=by
 have kl:n+m≤top:=Nat.le_trans (Nat.le_mul_of_pos_right _ gG) hlen
 have e0:=H1.1
 have gF:(us++ah).length=(n+m) * size:=by rw [List.length_append,e0,gZ,Nat.add_mul]
 rw [W8]
 unfold Fp
 have ak:=H1.2
 cases s<;>simp only at ak ⊢<;>try (exact ak.elim)
 case aw=>
  subst ak
  have:us=[]:=List.eq_nil_of_length_eq_zero (by omega)
  subst this
  unfold xx
  by_cases hm:m=0
  · subst hm
    have:ah=[]:=List.eq_nil_of_length_eq_zero (by omega)
    subst this
    exact ⟨.aw,h,rfl,⟨by simp,rfl⟩,Mod.refl _ _,fun b af=>.inl af⟩
  · rw [show Nat.beq m 0=false from by rw [←Bool.not_eq_true,Nat.beq_eq];exact hm]
    simp only [cond_false]
    rw [ys (by rw [gZ];simpa using hlen) gG]
    refine ⟨_,_,rfl,?_,(Mod.refl _ _).new _,fun b af=>.inr (by rw [show b=ao h.next from af,c'];exact Nat.le_refl _)⟩
    have:=cn.grown (B:=B) (h:=h) (size:=size) (ah:=ah) (n:=m) (st:=false) gZ dF
    simpa using this
 case slice b off len cap=>
  obtain ⟨rfl,aA,a2,b',da,ie,cS,st,eh,eE,fa⟩:=ak
  unfold xw
  by_cases aC:len+m≤cap
  · rw [show Nat.ble (len+m) cap=true from by rw [Nat.ble_eq];exact aC]
    simp only [cond_true]
    have hZ:off+len * size+ah.length≤ie.length:=by
     have:=Nat.mul_le_mul_right size aC
     rw [Nat.add_mul] at this
     rw [gZ]
     omega
    rw [Own.lay (ah:=ie) (cS:=cS) (st:=st) eh hZ bA]
    refine ⟨_,_,rfl,⟨gF,rfl,aA,a2,aC,da,_,cS,st,dB _ _ _ |>.trans (if_pos rfl),?_,?_⟩,(Mod.refl (V.bb (.slice b off len cap)) h).set (fun _=>rfl) _,fun b2 af=>.inl af⟩
    · rw [u4 _ _ _ hZ];exact eE
    · rw [List.length_append]
      unfold iw
      have fj:off+us.length≤ie.length:=by rw [e0];omega
      have aI:ie.take (off+len * size)=ie.take off++us:=by
       rw [←e0,List.take_add,fa]
      rw [aI,List.append_assoc,List.append_assoc,List.drop_append,List.drop_eq_nil_of_le (by rw [List.length_take];omega),List.nil_append]
      rw [show off - (ie.take off).length=0 from by rw [List.length_take];omega,List.drop_zero]
      rw [←List.append_assoc,List.take_left' (by rw [List.length_append])]
  · rw [show Nat.ble (len+m) cap=false from by rw [←Bool.not_eq_true,Nat.ble_eq];exact aC]
    simp only [cond_false]
    rw [show (Nat.ble (len+m) top&&Nat.ble cap top)=true from by simp only [Bool.and_eq_true,Nat.ble_eq];exact ⟨kl,da⟩]
    simp only [cond_true]
    have g':jB h b off us:=⟨a2,ie,.inr ⟨cS,st,eh⟩,by rw [e0];have:=Nat.mul_le_mul_right size b';omega,fa⟩
    rw [Bi g' e0]
    simp only
    rw [ys (by rw [gF];exact hlen) gG]
    exact ⟨_,_,rfl,cn.grown gF dF,(Mod.refl _ _).new _,fun b af=>.inr (by rw [show b=ao h.next from af,c'];exact Nat.le_refl _)⟩
 case ei b off len idx=>
  obtain ⟨rfl,aA,a2,rfl,rfl,ie,st,eh,eE,fa⟩:=ak
  unfold xv
  by_cases hm:m=0
  · subst hm
    have:ah=[]:=List.eq_nil_of_length_eq_zero (by omega)
    subst this
    exact ⟨_,h,rfl,⟨gF,rfl,aA,a2,rfl,rfl,ie,st,eh,by simpa using eE,by simpa using fa⟩,Mod.refl _ _,fun b af=>.inl af⟩
  · rw [show Nat.beq m 0=false from by rw [←Bool.not_eq_true,Nat.beq_eq];exact hm]
    simp only [cond_false]
    rw [eh]
    simp only [cL.au,cL.on]
    rw [show (Nat.beq size size&&(Nat.ble (len+m) top&&gv ah)&&Nat.beq 0 (0 * size))=true from by
     simp only [Bool.and_eq_true,Nat.beq_eq,Nat.ble_eq]
     exact ⟨⟨trivial,kl,bA⟩,by omega⟩]
    simp only [cond_true]
    have g':jB h b 0 us:=⟨a2,ie,.inr ⟨size,st,eh⟩,by omega,by simpa using fa⟩
    rw [Bi g' e0]
    simp only
    rw [ys (by rw [gF];exact hlen) gG]
    exact ⟨_,_,rfl,cn.grown (h:=h.set b .dead) gF dF,((Mod.refl (V.bb (.ei b 0 len 0)) h).set (fun _=>rfl) _).new _,fun b2 af=>.inr (by rw [show b2=ao h.next from af,c'];exact Nat.le_refl _)⟩
theorem J9 {B:Nat} {h:ai} {s:V} {n:Nat} {us:List V} (t:List UInt8) (H1:cn B h 1 s n us) (dF:B≤h.next) (hlen:n+t.length≤top):
 ∃v J,l2 1 s (.str t) h=.val v J∧cn B J 1 v (n+t.length) (us++dt t)∧Mod s.bb h J∧∀b,v.bb b→s.bb b∨h.next≤cx b:=by
 refine SP (by omega) H1 (by rw [ry,Nat.mul_one]) ?_ dF (by omega) (Kt t)
 have a1:Nat.ble t.length top=true:=by rw [Nat.ble_eq];omega
 have nZ:tv h 1 (.str t) t.length=some (dt t):=by
  simp only [tv]
  rw [show Nat.ble t.length t.length=true from by rw [Nat.ble_eq];exact Nat.le_refl _,List.take_length]
  rfl
 unfold l2 Fp
 simp only [o0]
 rw [nZ]
 simp only [a1]
 rfl
theorem af2 {h:ai} {b:aV} {us:List V} {off:Nat} {l:List UInt8} (bl:h.get b=.ro us) (aL:off+l.length≤us.length) (hu:(us.drop off).take l.length=dt l):q_ b off l.length h=.val (.str l) h:=by
 unfold q_
 rw [bl]
 simp only [cL.pd,cL.ro]
 rw [show Nat.ble (off+l.length) us.length=true from by rw [Nat.ble_eq];exact aL]
 simp only [cond_true]
 rw [zT us l.length off aL,hu,I4]
theorem MU {h:ai} {v:V} {n:Nat} {l:List UInt8} (H:cj h 1 v n (dt l)):nM.run v h=.val (.str l) h:=by
 have ad:=H.1
 rw [ry,Nat.mul_one] at ad
 have ak:=H.2
 have key:∀(b:aV) (off:Nat),jB h b off (dt l)→q_ b off l.length h=.val (.str l) h:=by
  intro b off ⟨_,us,aP,aA,a2⟩
  rw [ry] at aA a2
  rcases aP with aP | ⟨cS,st,aP⟩
  · exact af2 aP aA a2
  · exact IZ aP aA a2
 cases v<;>simp only at ak<;>try (exact ak.elim)
 case aw=>
  subst ak
  rw [List.length_eq_zero_iff] at ad
  subst ad
  rfl
 case slice=>
  simp only [nM]
  rw [ak.1,←ad]
  exact key _ _ ak.2
 case ei=>
  simp only [nM]
  rw [ak.1,←ad]
  exact key _ _ ak.2
 case h4=>
  subst ak
  rw [List.length_eq_zero_iff] at ad
  subst ad
  rfl
end Go.Proofs.YtjbiefneffiogaaGreat.bs
namespace Go.Proofs.YtjbiefneffiogaaGreat.bs
variable [Lay]
set_option linter.defProp false
open Go Go.RowKit
def ab:=And.intro @agI<|And.intro @agJ @agK
def agy:=And.intro @agL<|And.intro @agM<|And.intro @agN<|And.intro @agO<|And.intro @agP @agQ
def agz:=And.intro @Option.isSome_some.{0}<|And.intro @Option.getD_some.{0}<|And.intro @if_true.{1}<|And.intro @if_false.{1}<|And.intro @true_and<|And.intro @and_true<|And.intro @List.getElem?_cons_zero.{0}<|And.intro @List.getElem?_cons_succ.{0}<|And.intro @List.length_cons.{0}<|And.intro @List.length_nil.{0}<|
 And.intro @List.drop_zero.{0}<|And.intro @List.drop_succ_cons.{0}<|And.intro @List.take_succ_cons.{0}<|And.intro @List.take_zero.{0}<|And.intro @List.cons_append.{0}<|And.intro @List.nil_append.{0}<|And.intro @Option.some.injEq.{0}<|And.intro @exists_eq_left'.{1}<|And.intro @List.cons.injEq.{0}<|
 And.intro @Nat.succ_ne_zero<|And.intro @Zn<|And.intro @Zm<|And.intro @List.getElem?_nil.{0}<|And.intro @decide_true<|And.intro @decide_false<|And.intro @eq_self.{1}<|And.intro @not_true_eq_false<|And.intro @not_false_eq_true<|And.intro @ite_true.{1} @ite_false.{1}
end Go.Proofs.YtjbiefneffiogaaGreat.bs
