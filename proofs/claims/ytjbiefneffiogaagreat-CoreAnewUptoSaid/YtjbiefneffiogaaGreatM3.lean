/- The abstract machine and its walks (a verified interpreter of the model's code: plain definitions and lemmas, no condition). Printed by a program from longer texts: names made short. -/
import Derived.Test.YtjbiefneffiogaaGreatM2
set_option linter.unusedSectionVars false
set_option linter.unusedSimpArgs false
set_option linter.unusedVariables false
namespace Go.Proofs.YtjbiefneffiogaaGreat.ba
variable [Lay]
open Go Go.RowKit
def uw {α:Type} (o:Option α) (k:α→Prop):Prop:=
 match o with
 | some v=>k v
 | none=>False
@[congr] theorem afl {α:Type} {o dI:Option α} {k:α→Prop} (h:o=dI):uw o k=uw dI k:=by rw [h]
def V.opt (c:Bool) (v:V):V:=bif c then v else .tuple []
theorem aap (v:V):V.opt true v=v:=(rfl)
theorem aam (v:V):V.opt false v=.tuple []:=(rfl)
@[congr] theorem ae_ {c lN:Bool} {v dE:V} (h:c=lN) (a6:lN=true→v=dE):V.opt c v=V.opt lN dE:=by
 subst h
 cases c with
 | true=>rw [a6 rfl]
 | false=>rfl
def V.bif (t:Bool) (a b:V):V:=bif t then a else b
theorem ada (a b:V):V.bif true a b=a:=(rfl)
theorem ac_ (a b:V):V.bif false a b=b:=(rfl)
theorem Qv (t a b:Bool):V.bif t (.bool a) (.bool b)=.bool (bif t then a else b):=by cases t<;>rfl
theorem Qw (t:Bool) (k:IntKind) (a b:Int):V.bif t (.int k a) (.int k b)=.int k (if t=true then a else b):=by cases t<;>rfl
theorem Qy (t x:Bool):(bif t then true else x)=(t||x):=by cases t<;>rfl
theorem Qu (t x:Bool):(bif t then x else false)=(t&&x):=by cases t<;>rfl
@[congr] theorem ad6 {t Bx:Bool} {a cc b bN:V} (h:t=Bx) (bH:Bx=true→a=cc) (ah:Bx=false→b=bN):V.bif t a b=V.bif Bx cc bN:=by
 subst h
 cases t with
 | true=>rw [V.bif,V.bif,bH rfl];rfl
 | false=>rw [V.bif,V.bif,ah rfl];rfl
def e2 (c:Bool) (A:Prop):Prop:=c=true→A
@[congr] theorem adZ {c lN:Bool} {A wq:Prop} (h:c=lN) (bH:lN=true→A=wq):e2 c A=e2 lN wq:=by
 subst h
 exact propext ⟨fun q e=>(bH e) ▸ q e,fun q e=>(bH e) ▸ q e⟩
theorem Pk (c:Bool):e2 c True=True:=propext ⟨fun _=>trivial,fun _ _=>trivial⟩
theorem Pm (A:Prop):e2 true A=A:=propext ⟨fun q=>q rfl,fun q _=>q⟩
theorem Pl (A:Prop):e2 false A=True:=propext ⟨fun _=>trivial,fun _ e=>by cases e⟩
def cW (v:V) (want:Bool):Bool:=
 match v with
 | .bool b=>b == want
 | _=>false
theorem acO (b w:Bool):cW (.bool b) w=(b == w):=(rfl)
theorem acQ (ad:List V) (w:Bool):cW (.tuple ad) w=false:=(rfl)
theorem acP (c:Bool) (v:V) (w:Bool):cW (.opt c v) w=(c&&cW v w):=by cases c<;>rfl
def fo (v:V):Prop:=
 match v with
 | .bool _=>True
 | .tuple _=>True
 | _=>False
theorem WJ (b:Bool):fo (.bool b)=True:=(rfl)
theorem WL (ad:List V):fo (.tuple ad)=True:=(rfl)
theorem WK (c b:Bool):fo (.opt c (.bool b))=True:=by cases c<;>rfl
def G.nO:G→Bool
 | .fz _ | .pick .. | .build .. | .dq _ | .gd .. | .q9 _ | .bin .. | .un .. | .fn .. | .tz .. | .um .. | .gZ .. | .cf .. | .s3 .. | .s4 .. | .cl .. | .q1 .. | .tE .. | .hT .. | .look .. | .ext .. | .gU _ | .eo _=>true
 | .hr (.int _) _=>true
 | .len .map _=>false
 | .len _ _=>true
 | _=>false
def V.q' {α:Type} (v:V) (d:α) (f:List V→α):α:=
 match v with
 | .agg cs=>f cs
 | _=>d
def V.x7 {α:Type} (v:V) (d:α) (f:List V→α):α:=
 match v with
 | .tuple cs=>f cs
 | _=>d
def yc (c a b:V):Option V:=
 match c with
 | .bool t=>some (V.bif t a b)
 | _=>none
theorem aaG (t:Bool) (a b:V):yc (.bool t) a b=some (V.bif t a b):=(rfl)
def g0 (n:Nat) (x:V) (bU ax dV:Option V):Option V:=
 match x with
 | .aF=>v' bU ax dV
 | .slice b off tK cap=>o' n b off tK cap bU ax dV
 | .dp b off tK idx=>n3 n b off tK idx bU ax dV
 | .gN b off mZ idx=>v_ b off mZ idx bU ax dV
 | _=>none
noncomputable def G.k4 (P:Program) (g:G) (r:bD) (h:ag):Option V:=
 match g with
 | .fz x=>some (x.a8 r)
 | .pick c a b=>yc (c.a8 r) (a.a8 r) (b.a8 r)
 | .build z bX=>(match ij z (j1 r bX) with
   | some cs=>some (.agg cs)
   | none=>none)
 | .dq x=>mW h (x.a8 r)
 | .gd n x=>mV n h (x.a8 r)
 | .q9 x=>sh (x.a8 r)
 | .bin k x y=>k.run P (x.a8 r) (y.a8 r)
 | .un op x=>qc op (x.a8 r)
 | .hr (.int k) x=>(x.a8 r).dD none fun _ n=>some (.int k (k.wrap n))
 | .fn f jz=>some (.func f (aZ.gH r jz))
 | .tz t x=>some (.iface t (x.a8 r))
 | .um x bU ax dV=>k' (x.a8 r) (aZ.opt r bU) (aZ.opt r ax) (aZ.opt r dV)
 | .gZ n x bU ax dV=>g0 n (x.a8 r) (aZ.opt r bU) (aZ.opt r ax) (aZ.opt r dV)
 | .cf off x=>(x.a8 r).l5 none fun b o=>some (.ptr b (o+off))
 | .s3 off x=>(x.a8 r).q' none fun cs=>cs[off]?
 | .s4 off n x=>(x.a8 r).q' none fun cs=>some (.agg ((cs.drop off).take n))
 | .cl n x i=>(tC n).run (x.a8 r) (i.a8 r)
 | .q1 n s x i=>(q3 n s).run (x.a8 r) (i.a8 r)
 | .tE x i=>pL.run (x.a8 r) (i.a8 r)
 | .hT t x i=>(q4 P t).run (x.a8 r) (i.a8 r)
 | .look k z ok x i=>jL k.eq z ok h (x.a8 r) (i.a8 r)
 | .ext x i=>(x.a8 r).x7 none fun ad=>ad[i]?
 | .len (.arr n) _=>some (.int .i64 n)
 | .len .str x=>(nU .string).run (x.a8 r)
 | .len .slice x=>(nU (.slice 0)).run (x.a8 r)
 | .gU args=>ka (fun b a=>!Int.leB a b) (aZ.gH r args)
 | .eo args=>ka (fun b a=>!Int.leB b a) (aZ.gH r args)
 | _=>none
section
variable {P:Program} {r:bD} {h:ag}
theorem pure_run {g:G} (aH:g.nO=true) (call:eO):g.run P call r h=bh.of h (g.k4 P r h):=by
 cases g<;>simp only [G.nO] at aH<;>try (cases aH;done)
 all_goals simp only [G.run,G.k4]
 case fz x=>rfl
 case pick c a b=>
  generalize c.a8 r=q
  cases q<;>rfl
 case build z bX=>
  generalize ij z (j1 r bX)=q
  cases q<;>rfl
 case hr k x=>
  cases k<;>simp only at aH<;>try (cases aH;done)
  simp only [rA.run]
  generalize x.a8 r=q
  cases q<;>rfl
 case fn f jz=>rfl
 case tz t x=>rfl
 case gZ n x bU ax dV=>
  unfold g0
  generalize x.a8 r=q
  cases q<;>rfl
 case s3 off x=>
  generalize x.a8 r=q
  cases q<;>rfl
 case s4 off n x=>
  generalize x.a8 r=q
  cases q<;>rfl
 case ext x i=>
  generalize x.a8 r=q
  cases q<;>rfl
 case len k x=>
  cases k<;>simp only at aH<;>first | rfl | (cases aH;done)
theorem Kc {g:G} (aH:g.nO=true) {K:V→ag→Prop}:g.wp P r h K=uw (g.k4 P r h) fun v=>K v h:=by
 have e:g.wp P r h K=∃v aa,g.run P l4 r h=.val v aa∧K v aa:=by
  cases g<;>first | rfl | (simp [G.nO] at aH;done)
 rw [e,pure_run aH]
 apply propext
 cases a6:g.k4 P r h with
 | none=>exact ⟨fun ⟨v,aa,q,_⟩=>(by cases q),fun q=>q.elim⟩
 | some v=>
   constructor
   · rintro ⟨v1,ab,q,k⟩
     simp only [bh.of,bh.val.injEq] at q
     obtain ⟨rfl,rfl⟩:=q
     exact k
   · intro k
     exact ⟨v,h,rfl,k⟩
theorem Mh {d:Option Nat} {g:G} {rs:List Nat} {K:bD→V→ag→Prop} (aH:g.nO=true):bu.wp P ⟨d,g,none,rs⟩ r h K=uw (g.k4 P (r.trim rs) h) fun v=>K (r.set d v) v h:=by
 rw [Mg,Kc aH]
theorem Mf {d:Option Nat} {g:G} {j:Nat} {want:Bool} {rs:List Nat} {K:bD→V→ag→Prop} (aH:g.nO=true):bu.wp P ⟨d,g,some (j,want),rs⟩ r h K=
 (fo (r.trim rs j)∧e2 (cW (r.trim rs j) want) ((g.k4 P (r.trim rs) h).isSome=true)∧
   K (r.set d (V.opt (cW (r.trim rs j) want) ((g.k4 P (r.trim rs) h).getD .bad))) (V.opt (cW (r.trim rs j) want) ((g.k4 P (r.trim rs) h).getD .bad)) h):=by
 rw [Me,Kc aH]
 generalize r.trim rs j=q
 generalize g.k4 P (r.trim rs) h=o
 apply propext
 cases q<;>simp only [gate,fo,cW,false_and,true_and]
 case bool b=>
  cases b<;>cases want<;>cases o<;>simp [uw,e2,V.opt]
 case tuple ad=>simp [e2,V.opt]
@[congr] theorem afq {os:List bu} {r bI:bD} {h aa:ag} {K:bD→ag→Prop} (aL:r=bI) (bo:h=aa):rv P os r h K=rv P os bI aa K:=by rw [aL,bo]
@[congr] theorem afo {os:List bu} {r bI:bD} {h aa:ag} {K:List fF→bD→ag→Prop} (aL:r=bI) (bo:h=aa):kD P os r h K=kD P os bI aa K:=by rw [aL,bo]
@[congr] theorem adW {o:bu} {r bI:bD} {h aa:ag} {K:bD→V→ag→Prop} (aL:r=bI) (bo:h=aa):o.wp P r h K=o.wp P bI aa K:=by rw [aL,bo]
@[congr] theorem adY {g:G} {r bI:bD} {h aa:ag} {K:V→ag→Prop} (aL:r=bI) (bo:h=aa):g.wp P r h K=g.wp P bI aa K:=by rw [aL,bo]
@[congr] theorem afn {c:bL} {r bI:bD} {h aa:ag} {Q:cr→bD→ag→Prop} (aL:r=bI) (bo:h=aa):hx P c r h Q=hx P c bI aa Q:=by rw [aL,bo]
@[congr] theorem adV {f:FuncId} {a cc:List V} {h aa:ag} {K:V→ag→Prop} (aL:a=cc) (bo:h=aa):bR P f a h K=bR P f cc aa K:=by rw [aL,bo]
noncomputable def h9 (k:cp) (off:Nat):Option V:=k.m5 none fun n cs=>bif Nat.blt off n then some (T.get .bad (ak off) cs) else none
noncomputable def mR (n:Nat) (k:cp) (off:Nat):Option V:=k.m5 none fun m cs=>bif Nat.ble (off+n) m then some (.agg (kl cs off n)) else none
theorem Zd (b:aN) (off:Nat):mW h (.ptr b off)=h9 (h.get b) off:=(rfl)
theorem Ze (n:Nat) (b:aN) (off:Nat):mV n h (.ptr b off)=mR n (h.get b) off:=(rfl)
theorem LG {ad:List V} {off:Nat}:(bif Nat.blt off ad.length then some (T.get .bad (ak off) (fC .e 0 ad)) else none)=ad[off]? :=by
 have:=zQ ad 0 off .e
 rw [Nat.zero_add] at this
 rw [this]
 by_cases bt:off<ad.length
 · rw [show Nat.blt off ad.length=true from by rw [Nat.blt_eq];exact bt,if_pos bt]
   simp [List.getElem?_eq_getElem bt]
 · rw [show Nat.blt off ad.length=false from by rw [←Bool.not_eq_true,Nat.blt_eq];exact bt]
   rw [List.getElem?_eq_none (by omega)]
   rfl
theorem sd (ad:List V) (cw:Nat) (st:Bool) (off:Nat):h9 (.ar ad cw st) off=ad[off]? :=LG
theorem LF (ad:List V) (off:Nat):h9 (.ro ad) off=ad[off]? :=LG
theorem LI {ad:List V} {off n:Nat}:(bif Nat.ble (off+n) ad.length then some (V.agg (kl (fC .e 0 ad) off n)) else none)=if off+n≤ad.length then some (.agg ((ad.drop off).take n)) else none:=by
 by_cases bt:off+n≤ad.length
 · rw [show Nat.ble (off+n) ad.length=true from by rw [Nat.ble_eq];exact bt,if_pos bt,xd ad n off bt]
   rfl
 · rw [show Nat.ble (off+n) ad.length=false from by rw [←Bool.not_eq_true,Nat.ble_eq];exact bt,if_neg bt]
   rfl
theorem ET (n:Nat) (ad:List V) (cw:Nat) (st:Bool) (off:Nat):mR n (.ar ad cw st) off=if off+n≤ad.length then some (.agg ((ad.drop off).take n)) else none:=LI
theorem LH (n:Nat) (ad:List V) (off:Nat):mR n (.ro ad) off=if off+n≤ad.length then some (.agg ((ad.drop off).take n)) else none:=LI
theorem Rd.dq {b:aN} {ad:List V} (H:Rd h b ad) (off:Nat):h9 (h.get b) off=ad[off]? :=by
 rcases H with H | ⟨_,_,H⟩<;>rw [H]
 · exact LF ad off
 · exact sd ad _ _ off
theorem Rd.gd {b:aN} {ad:List V} (H:Rd h b ad) (n off:Nat):mR n (h.get b) off=if off+n≤ad.length then some (.agg ((ad.drop off).take n)) else none:=by
 rcases H with H | ⟨_,_,H⟩<;>rw [H]
 · exact LH n ad off
 · exact ET n ad _ _ off
def hF:List V→List V→List V
 | ad,[]=>ad
 | [],_::_=>[]
 | _::ad,w::ws=>w::hF ad ws
def l8:List V→Nat→List V→List V
 | ad,0,ws=>hF ad ws
 | [],_+1,_=>[]
 | v::ad,n+1,ws=>v::l8 ad n ws
theorem MF:∀(ad ws:List V),ws.length≤ad.length→hF ad ws=ws++ad.drop ws.length
 | ad,[],_=>by cases ad<;>rfl
 | [],_::_,h=>by simp at h
 | v::ad,w::ws,h=>by
   simp only [hF,List.cons_append,List.length_cons,List.drop_succ_cons]
   rw [MF ad ws (by simpa using h)]
theorem wa:∀(ad:List V) (off:Nat) (ws:List V),off+ws.length≤ad.length→l8 ad off ws=hd ad off ws
 | ad,0,ws,h=>by
   cases ad<;>simp only [l8,hd,List.take_zero,List.nil_append,Nat.zero_add]<;>exact MF _ ws (by omega)
 | [],n+1,ws,h=>by simp at h
 | v::ad,n+1,ws,h=>by
   simp only [List.length_cons] at h
   simp only [l8,hd]
   rw [wa ad n ws (by omega)]
   simp only [hd,List.take_succ_cons,List.cons_append]
   rw [show n+1+ws.length=n+ws.length+1 from by omega,List.drop_succ_cons]
theorem F0 (ad:List V) (off:Nat) (ws:List V) (h:off+ws.length≤ad.length):(l8 ad off ws).length=ad.length:=by
 rw [wa ad off ws h,sx ad off ws h]
noncomputable def pR (n:Nat) (h:ag) (b:aN) (off:Nat) (y:V) (k:cp):Option ag:=
 bif Nat.beq y.cells.length n then k.on none fun m cs cw st=>
  bif Nat.ble (off+y.cells.length) m&&fg y.cells then some (h.set b (.cells m (fC cs off y.cells) cw st)) else none else none
theorem acB (n:Nat) (b:aN) (off:Nat) (y:V):yu n h (.ptr b off) y=pR n h b off y (h.get b):=(rfl)
theorem EP {n:Nat} {b:aN} {off:Nat} {y:V} {ad:List V} {cw:Nat} {st:Bool} (ab:y.cells.length=n) (af:fg y.cells=true) (aK:off+n≤ad.length):
 pR n h b off y (.ar ad cw st)=some (h.set b (.ar (l8 ad off y.cells) cw st)):=by
 unfold pR
 rw [show Nat.beq y.cells.length n=true from by rw [Nat.beq_eq];exact ab]
 simp only [cond_true,cp.ar,cp.on]
 rw [show Nat.ble (off+y.cells.length) ad.length=true from by rw [Nat.ble_eq,ab];exact aK,af]
 simp only [Bool.and_true,cond_true,Option.some.injEq]
 rw [F0 ad off _ (by rw [ab];exact aK),wa ad off _ (by rw [ab];exact aK),Fw _ ad off (by rw [ab];exact aK)]
theorem gT (k:cp):(h.new k).get (ak h.next)=k:=by rw [ag.dT,if_pos rfl]
theorem dT (b:aN) (k:cp):(h.new k).get b=if ak h.next=b then k else h.get b:=ag.dT h b k
theorem cM (b bN:aN) (k:cp):(h.set b k).get bN=if b=bN then k else h.get bN:=ag.cM h b bN k
def Old (h:ag) (b:aN):Prop:=cd b<h.next
theorem aaF:∀b:aN,ak (cd b)=b:=by
 have key:∀(b:aN) (d:Nat),cd b+1<2 ^ d→sm d (cd b)=b:=by
  intro b
  induction b with
  | z=>intro d bE;cases d<;>rfl
  | l p bb=>
    intro d bE
    cases d with
    | zero=>simp [cd] at bE
    | succ d=>
      have af:2 ^ (d+1)=2 * 2 ^ d:=by rw [Nat.pow_succ];omega
      rw [af] at bE
      simp only [cd] at bE ⊢
      simp only [sm,nq]
      rw [if_neg (by omega),if_pos (by omega),show (2 * cd p+1) / 2=cd p from by omega,bb d (by omega)]
  | r p bb=>
    intro d bE
    cases d with
    | zero=>simp [cd] at bE
    | succ d=>
      have af:2 ^ (d+1)=2 * 2 ^ d:=by rw [Nat.pow_succ];omega
      rw [af] at bE
      simp only [cd] at bE ⊢
      simp only [sm,nq]
      rw [if_neg (by omega),if_neg (by omega),show (2 * cd p+2) / 2-1=cd p from by omega,bb d (by omega)]
 intro b
 exact key b _ Nat.lt_log2_self
theorem kt {b:aN} {i:Nat} (ah:Old h b) (ax:h.next≤i):(ak i=b)=False:=by
 apply propext
 constructor
 · intro e
   unfold Old at ah
   rw [←e,cA] at ah
   omega
 · exact False.elim
theorem t_ {k:cp}:Old (h.new k) (ak h.next):=by unfold Old;rw [cA];exact Nat.lt_succ_self _
def zD (off:Nat) (x:V):Option V:=x.l5 none fun b o=>some (.ptr b (o+off))
theorem Ti (off:Nat) (b:aN) (o:Nat):zD off (.ptr b o)=some (.ptr b (o+off)):=(rfl)
theorem Z3 {α:Type} (ad:List V) (d:α) (f:List V→α):V.x7 (.tuple ad) d f=f ad:=(rfl)
theorem Z2 {α:Type} (ad:List V) (d:α) (f:List V→α):V.q' (.agg ad) d f=f ad:=(rfl)
def mT (x:V):Option V:=(nU (.slice 0)).run x
theorem Y' (b:aN) (off n c:Nat):mT (.slice b off n c)=some (.int .i64 n):=(rfl)
theorem Y8 (b:aN) (off n c:Nat):mT (.dp b off n c)=some (.int .i64 n):=(rfl)
theorem Y_ (b:aN) (off n c:Nat):mT (.gN b off n c)=some (.int .i64 0):=(rfl)
theorem Y9:mT .aF=some (.int .i64 0):=(rfl)
def Ax (x:V):Option V:=(nU .string).run x
theorem Za (s:List UInt8):Ax (.str s)=some (.int .i64 s.length):=(rfl)
def gy (n:Nat) (x i:V):Option V:=(tC n).run x i
theorem vu (n:Nat) (b:aN) (off len cap:Nat) (k:IntKind) (i:Int):gy n (.slice b off len cap) (.int k i)=if 0≤i∧i<len then some (.ptr b (off+i.toNat * n)) else none:=by
 simp only [gy,tC,V.dD,q2,mS]
 by_cases ab:0≤i<;>by_cases af:(len:Int)≤i<;>simp [ab,af]<;>omega
theorem vt (n:Nat) (b:aN) (off len cap:Nat) (k:IntKind) (i:Int):gy n (.dp b off len cap) (.int k i)=if 0≤i∧i<len then some (.ptr b (off+i.toNat * n)) else none:=by
 simp only [gy,tC,V.dD,q2,mS]
 by_cases ab:0≤i<;>by_cases af:(len:Int)≤i<;>simp [ab,af]<;>omega
def w3 (k:IntKind) (x:V):Option V:=x.dD none fun _ n=>some (.int k (k.wrap n))
theorem SZ (k bK:IntKind) (n:Int):w3 k (.int bK n)=some (.int k (k.wrap n)):=(rfl)
end
end Go.Proofs.YtjbiefneffiogaaGreat.ba
namespace Go.Proofs.YtjbiefneffiogaaGreat.ba
variable [Lay]
open Go Go.RowKit
structure jT where
 all:List bu
 asks:List (Nat × List Nat)
 es:List fF
def ku (D:Option jT) (r:bD) (h:ag) (v:V):Option jT:=
 match D with
 | none=>none
 | some d=>some ⟨d.all,d.asks,d.es++[⟨r,h,v⟩]⟩
inductive hK where
 | os (D:Option jT) (os:List bu)
 | c (b:bL)
 | a_ (id:Nat)
section
variable (P:Program)
noncomputable def sT (D:Option jT) (es:List fF) (au:ag):Prop:=
 match D with
 | none=>True
 | some d=>oq P d.all (d.es++es) au d.asks
noncomputable def bx:List hK→cr→bD→ag→(cr→bD→ag→Prop)→Prop
 | [],e,r,h,Q=>Q e r h
 | .os D os::ay,e,r,h,Q=>match e with
   | .normal=>kD P os r h fun es bI aa=>sT P D es aa∧bx ay .normal bI aa Q
   | e=>bx ay e r h Q
 | .c b::ay,e,r,h,Q=>match e with
   | .normal=>hx P b r h fun e bI aa=>bx ay e bI aa Q
   | e=>bx ay e r h Q
 | .a_ id::ay,e,r,h,Q=>bx ay (e.leave id) r h Q
noncomputable def dn (o:Option V) (d:Option Nat) (D:Option jT) (os:List bu) (ay:List hK) (r:bD) (h:ag) (Q:cr→bD→ag→Prop):Prop:=
 uw o fun v=>bx P (.os (ku D r h v) os::ay) .normal (r.set d v) h Q
noncomputable def iU (o:bh) (d:Option Nat) (D:Option jT) (os:List bu) (ay:List hK) (r:bD) (ao:ag) (Q:cr→bD→ag→Prop):Prop:=
 match o with
 | .val v h=>bx P (.os (ku D r ao v) os::ay) .normal (r.set d v) h Q
 | .fail=>False
noncomputable def g7 (v:V) (want:Bool) (d:Option Nat) (g:G) (rs:List Nat) (D:Option jT) (os:List bu) (ay:List hK) (r:bD) (h:ag) (Q:cr→bD→ag→Prop):Prop:=
 gate v want (bx P (.os D (⟨d,g,none,rs⟩::os)::ay) .normal r h Q) (bx P (.os (ku D r h (.tuple [])) os::ay) .normal (r.set d (.tuple [])) h Q)
noncomputable def uV (v:V) (a b:bL) (ay:List hK) (r:bD) (h:ag) (Q:cr→bD→ag→Prop):Prop:=
 match v with
 | .bool t=>(t=true→bx P (.c a::ay) .normal r h Q)∧(t=false→bx P (.c b::ay) .normal r h Q)
 | _=>False
noncomputable def qC (f:FuncId) (args:List V) (d:Option Nat) (D:Option jT) (os:List bu) (ay:List hK) (r:bD) (h:ag) (Q:cr→bD→ag→Prop):Prop:=
 bR P f args h fun v aa=>bx P (.os (ku D r h v) os::ay) .normal (r.set d v) aa Q
noncomputable def wZ (f:V) (args:List V) (d:Option Nat) (D:Option jT) (os:List bu) (ay:List hK) (r:bD) (h:ag) (Q:cr→bD→ag→Prop):Prop:=
 ∃g cs,f=.func g cs∧qC P g (args++cs) d D os ay r h Q
noncomputable def vC (b:bL) (ay:List hK) (r:bD) (h:ag) (Q:cr→bD→ag→Prop):Prop:=hx P (.loop b) r h fun e bI aa=>bx P ay e bI aa Q
end
section
variable {P:Program} {r:bD} {h:ag} {Q:cr→bD→ag→Prop} {ay:List hK} {os:List bu} {D:Option jT}
theorem aaM (r:bD) (h:ag) (v:V):ku none r h v=none:=(rfl)
theorem aaN (all:List bu) (asks:List (Nat × List Nat)) (es:List fF) (r:bD) (h:ag) (v:V):ku (some ⟨all,asks,es⟩) r h v=some ⟨all,asks,es++[⟨r,h,v⟩]⟩:=(rfl)
theorem b9 {c:bL} (H:bx P [.c c] .normal r h Q):hx P c r h Q:=H
theorem XH {e:cr}:bx P [] e r h Q=Q e r h:=(rfl)
theorem WU {e:cr} {id:Nat}:bx P (.a_ id::ay) e r h Q=bx P ay (e.leave id) r h Q:=(rfl)
theorem XR {a b:bL}:bx P (.c (.seq a b)::ay) .normal r h Q=bx P (.c a::.c b::ay) .normal r h Q:=by
 simp only [bx]
 rw [R8]
 congr 1
 funext e bI aa
 cases e<;>rfl
theorem WV {id:Nat} {b:bL}:bx P (.c (.block id b)::ay) .normal r h Q=bx P (.c b::.a_ id::ay) .normal r h Q:=(rfl)
theorem OQ:∀(os:List bu) (r:bD) (h:ag) (K:bD→ag→Prop),kD P os r h (fun _ r h=>K r h)=rv P os r h K
 | [],_,_,_=>rfl
 | o::os,r,h,K=>by
   simp only [kD,rv]
   congr 1
   funext bI v aa
   exact OQ os bI aa K
theorem XN {ops:List bu}:bx P (.c (.aj ops)::ay) .normal r h Q=bx P (.os none ops::ay) .normal r h Q:=by
 simp only [bx,sT,true_and]
 rw [OQ,R7]
theorem XS:bx P (.c .skip::ay) .normal r h Q=bx P ay .normal r h Q:=(rfl)
theorem XP:bx P (.c .ret::ay) .normal r h Q=bx P ay .ret r h Q:=(rfl)
theorem Xc {i:Nat}:bx P (.c (.exit i)::ay) .normal r h Q=bx P ay (.exit i) r h Q:=(rfl)
theorem W6 {b:bL}:bx P (.c b::ay) .ret r h Q=bx P ay .ret r h Q:=(rfl)
theorem W2 {b:bL} {i:Nat}:bx P (.c b::ay) (.exit i) r h Q=bx P ay (.exit i) r h Q:=(rfl)
theorem W4 {c:aZ} {a b:bL}:bx P (.c (.cond c a b)::ay) .normal r h Q=uV P (c.a8 r) a b ay r h Q:=by
 simp only [bx,hx]
 cases c.a8 r<;>rfl
theorem Xx {b:bL}:bx P (.c (.loop b)::ay) .normal r h Q=vC P b ay r h Q:=(rfl)
theorem Xa {ops:List bu} {asks:List (Nat × List Nat)}:bx P (.c (.draw ops asks)::ay) .normal r h Q=bx P (.os (some ⟨ops,asks,[]⟩) ops::ay) .normal r h Q:=(rfl)
theorem XK:bx P (.os none []::ay) .normal r h Q=bx P ay .normal r h Q:=by
 simp only [bx,kD,sT,true_and]
theorem W_ {all:List bu} {asks:List (Nat × List Nat)} {es:List fF}:bx P (.os (some ⟨all,asks,es⟩) []::ay) .normal r h Q=(oq P all es h asks∧bx P ay .normal r h Q):=by
 simp only [bx,kD,sT,List.append_nil]
theorem uQ (D:Option jT) (r:bD) (h:ag) (v:V) (es:List fF) (au:ag):sT P (ku D r h v) es au=sT P D (⟨r,h,v⟩::es) au:=by
 cases D with
 | none=>rfl
 | some d=>simp only [ku,sT,List.append_assoc,List.cons_append,List.nil_append]
theorem hj {d:Option Nat} {g:G} {rs:List Nat} (aH:g.nO=true):bx P (.os D (⟨d,g,none,rs⟩::os)::ay) .normal r h Q=dn P (g.k4 P (r.trim rs) h) d D os ay r h Q:=by
 simp only [bx,kD,dn]
 rw [Mh aH]
 simp only [uQ]
theorem hi {d:Option Nat} {g:G} {j:Nat} {want:Bool} {rs:List Nat} (aH:g.nO=true):bx P (.os D (⟨d,g,some (j,want),rs⟩::os)::ay) .normal r h Q=
 (fo (r.trim rs j)∧e2 (cW (r.trim rs j) want) ((g.k4 P (r.trim rs) h).isSome=true)∧
   dn P (some (V.opt (cW (r.trim rs j) want) ((g.k4 P (r.trim rs) h).getD .bad))) d D os ay r h Q):=by
 simp only [bx,kD,dn,uw]
 rw [Mf aH]
 simp only [uQ]
def G.Lp:G→Bool
 | .call .. | .ps .. =>true
 | _=>false
theorem kX {d:Option Nat} {g:G} {rs:List Nat} (aH:g.nO=false) (aA:g.Lp=false):bx P (.os D (⟨d,g,none,rs⟩::os)::ay) .normal r h Q=iU P (g.run P l4 (r.trim rs) h) d D os ay r h Q:=by
 simp only [bx,kD]
 rw [Mg]
 have e:∀K:V→ag→Prop,g.wp P (r.trim rs) h K=∃v aa,g.run P l4 (r.trim rs) h=.val v aa∧K v aa:=by
  intro K
  cases g<;>first | rfl | (simp [G.Lp] at aA;done)
 rw [e]
 unfold iU
 simp only [bx,uQ]
 cases g.run P l4 (r.trim rs) h with
 | fail=>exact propext ⟨fun ⟨v,aa,q,_⟩=>(by cases q),fun q=>q.elim⟩
 | val v1 ab=>
   apply propext
   constructor
   · rintro ⟨v,aa,q,k⟩
     simp only [bh.val.injEq] at q
     obtain ⟨rfl,rfl⟩:=q
     exact k
   · intro k
     exact ⟨_,_,rfl,k⟩
theorem kr {d:Option Nat} {g:G} {j:Nat} {want:Bool} {rs:List Nat} (aH:g.nO=false):bx P (.os D (⟨d,g,some (j,want),rs⟩::os)::ay) .normal r h Q=g7 P (r.trim rs j) want d g rs D os ay r h Q:=by
 simp only [g7,bx,kD,uQ]
 rw [Me]
 rfl
theorem W0 {d:Option Nat} {f:FuncId} {args:List aZ} {rs:List Nat}:bx P (.os D (⟨d,.call f args,none,rs⟩::os)::ay) .normal r h Q=qC P f (aZ.gH (r.trim rs) args) d D os ay r h Q:=by
 simp only [qC,bx,kD,uQ]
 rfl
theorem W1 {d:Option Nat} {f:aZ} {args:List aZ} {rs:List Nat}:bx P (.os D (⟨d,.ps f args,none,rs⟩::os)::ay) .normal r h Q=wZ P (f.a8 (r.trim rs)) (aZ.gH (r.trim rs) args) d D os ay r h Q:=by
 simp only [wZ,qC,bx,kD,uQ]
 rfl
theorem Sc {g:FuncId} {cs args:List V} {d:Option Nat}:wZ P (.func g cs) args d D os ay r h Q=qC P g (args++cs) d D os ay r h Q:=by
 apply propext
 constructor
 · rintro ⟨dK,Jz,q,k⟩
   simp only [V.func.injEq] at q
   obtain ⟨rfl,rfl⟩:=q
   exact k
 · intro k
   exact ⟨_,_,rfl,k⟩
@[congr] theorem afg {o dI:Option V} {d:Option Nat} (e:o=dI):dn P o d D os ay r h Q=dn P dI d D os ay r h Q:=by rw [e]
@[congr] theorem aff {o dI:bh} {d:Option Nat} (e:o=dI):iU P o d D os ay r h Q=iU P dI d D os ay r h Q:=by rw [e]
@[congr] theorem aec {v dE:V} {a b:bL} (e:v=dE):uV P v a b ay r h Q=uV P dE a b ay r h Q:=by rw [e]
@[congr] theorem aev {v dE:V} {want:Bool} {d:Option Nat} {g:G} {rs:List Nat} (e:v=dE):g7 P v want d g rs D os ay r h Q=g7 P dE want d g rs D os ay r h Q:=by rw [e]
@[congr] theorem aea {f xa:V} {args wR:List V} {d:Option Nat} (aL:f=xa) (bo:args=wR):wZ P f args d D os ay r h Q=wZ P xa wR d D os ay r h Q:=by rw [aL,bo]
@[congr] theorem ad_ {f:FuncId} {args wR:List V} {d:Option Nat} (bo:args=wR):qC P f args d D os ay r h Q=qC P f wR d D os ay r h Q:=by rw [bo]
@[congr] theorem afp {e fH:cr} {bI:bD} {aa:ag} (b5:e=fH) (aL:r=bI) (bo:h=aa):bx P ay e r h Q=bx P ay fH bI aa Q:=by rw [b5,aL,bo]
@[congr] theorem ae4 {b:bL} {bI:bD} {aa:ag} (aL:r=bI) (bo:h=aa):vC P b ay r h Q=vC P b ay bI aa Q:=by rw [aL,bo]
theorem acF {v:V} {d:Option Nat}:dn P (some v) d D os ay r h Q=bx P (.os (ku D r h v) os::ay) .normal (r.set d v) h Q:=(rfl)
theorem FZ {v:V} {aa:ag} {d:Option Nat}:iU P (.val v aa) d D os ay r h Q=bx P (.os (ku D r h v) os::ay) .normal (r.set d v) aa Q:=(rfl)
theorem Js {t:Bool} {a b:bL}:uV P (.bool t) a b ay r h Q=((t=true→bx P (.c a::ay) .normal r h Q)∧(t=false→bx P (.c b::ay) .normal r h Q)):=(rfl)
theorem Ke {b:Bool} {d:Option Nat} {g:G} {rs:List Nat}:g7 P (.bool b) true d g rs D os ay r h Q=((b=true→bx P (.os D (⟨d,g,none,rs⟩::os)::ay) .normal r h Q)∧(b=false→bx P (.os (ku D r h (.tuple [])) os::ay) .normal (r.set d (.tuple [])) h Q)):=(rfl)
theorem Kd {b:Bool} {d:Option Nat} {g:G} {rs:List Nat}:g7 P (.bool b) false d g rs D os ay r h Q=((b=false→bx P (.os D (⟨d,g,none,rs⟩::os)::ay) .normal r h Q)∧(b=true→bx P (.os (ku D r h (.tuple [])) os::ay) .normal (r.set d (.tuple [])) h Q)):=(rfl)
theorem TH {ad:List V} {want:Bool} {d:Option Nat} {g:G} {rs:List Nat}:g7 P (.tuple ad) want d g rs D os ay r h Q=bx P (.os (ku D r h (.tuple [])) os::ay) .normal (r.set d (.tuple [])) h Q:=(rfl)
def sk (v:V) (o:Option ag):bh:=jq v o
theorem aaq (v:V) (aa:ag):sk v (some aa)=.val v aa:=(rfl)
def Hq (b:Bool) (o:bh):bh:=bif b then o else .fail
theorem QC (o:bh):Hq true o=o:=(rfl)
noncomputable def zi (n:Nat) (h:ag) (o:Option (List V)):bh:=
 match o with
 | some cs=>sk (.slice (ak h.next) 0 n n) (gq h cs)
 | none=>.fail
theorem QE (n:Nat) (cs:List V):zi n h (some cs)=sk (.slice (ak h.next) 0 n n) (gq h cs):=(rfl)
theorem abQ {n size:Nat} {z:List V} {bX:List (Nat × Nat × aZ)}:(G.g6 n size z bX).run P l4 r h=zi n h (ij (gr z n) (j1 r bX)):=by
 simp only [G.run]
 cases ij (gr z n) (j1 r bX) with
 | none=>rfl
 | some cs=>
   simp only [zi,sk,jq]
   cases gq h cs<;>rfl
theorem Tq (cells:List V):ij cells []=some cells:=(rfl)
theorem To {cells:List V} {off size:Nat} {v:V} {rest:List (Nat × Nat × V)} (ab:v.ek=true) (af:v.cells.length=size) (aK:off+size≤cells.length):
 ij cells ((off,size,v)::rest)=ij (l8 cells off v.cells) rest:=by
 simp only [ij]
 rw [ab,show Nat.beq v.cells.length size=true from by rw [Nat.beq_eq];exact af,show Nat.ble (off+v.cells.length) cells.length=true from by rw [Nat.ble_eq,af];exact aK]
 simp only [Bool.and_true,cond_true]
 congr 1
 have cf:∀(ws cs:List V) (o:Nat),o+ws.length≤cs.length→qI cs o ws=hd cs o ws:=by
  intro ws
  induction ws with
  | nil=>intro cs o _;simp [qI,hd]
  | cons w ws bb=>
    intro cs o bt
    simp only [List.length_cons] at bt
    simp only [qI]
    rw [bb (cs.set o w) (o+1) (by simp;omega),NY cs o w ws (by omega)]
 rw [cf _ _ _ (by rw [af];exact aK),wa _ _ _ (by rw [af];exact aK)]
def zk (o:Option (List V)):Option V:=
 match o with
 | some cs=>some (.agg cs)
 | none=>none
theorem QG (cs:List V):zk (some cs)=some (.agg cs):=(rfl)
theorem Tg:j1 r []=[]:=(rfl)
theorem Tf {o s:Nat} {x:aZ} {bX:List (Nat × Nat × aZ)}:j1 r ((o,s,x)::bX)=(o,s,x.a8 r)::j1 r bX:=(rfl)
noncomputable def nm (P:Program) (o:bu) (e:fF) (H:ag):Prop:=o.wp P e.r H fun _ dE _=>dE=e.v
theorem Qk {ops:List bu} {es:List fF} {au:ag}:oq P ops es au []=True:=(rfl)
theorem Qj {ops:List bu} {es:List fF} {au:ag} {p:Nat} {fh:List Nat} {rest:List (Nat × List Nat)}:oq P ops es au ((p,fh)::rest)=(qx P ops[p]? es[p]? es au fh∧oq P ops es au rest):=(rfl)
theorem Qg {o:Option bu} {e:Option fF} {es:List fF} {au:ag}:qx P o e es au []=True:=(rfl)
theorem Qc {o:bu} {e:fF} {es:List fF} {au:ag} {s:Nat} {fh:List Nat}:qx P (some o) (some e) es au (s::fh)=(nm P o e (vg es au s)∧qx P (some o) (some e) es au fh):=(rfl)
def DN (o:Option fF) (au:ag):ag:=
 match o with
 | some e=>e.h
 | none=>au
theorem UD (es:List fF) (au:ag) (s:Nat):vg es au s=DN es[s]? au:=(rfl)
theorem UF (e:fF) (au:ag):DN (some e) au=e.h:=(rfl)
theorem UE (au:ag):DN none au=au:=(rfl)
theorem zc {d:Option Nat} {g:G} {rs:List Nat} {e:fF} {H:ag} (aH:g.nO=true):nm P ⟨d,g,none,rs⟩ e H=(g.k4 P (e.r.trim rs) H=some e.v):=by
 unfold nm
 rw [Mh aH]
 apply propext
 cases g.k4 P (e.r.trim rs) H with
 | none=>exact ⟨fun q=>q.elim,fun q=>(by cases q)⟩
 | some v=>exact ⟨fun q=>by rw [show v=e.v from q],fun q=>by cases q;rfl⟩
theorem CK {d:Option Nat} {g:G} {j:Nat} {want:Bool} {rs:List Nat} {e:fF} {H:ag} (aH:g.nO=true):nm P ⟨d,g,some (j,want),rs⟩ e H=
 (fo (e.r.trim rs j)∧e2 (cW (e.r.trim rs j) want) ((g.k4 P (e.r.trim rs) H).isSome=true)∧V.opt (cW (e.r.trim rs j) want) ((g.k4 P (e.r.trim rs) H).getD .bad)=e.v):=by
 unfold nm
 rw [Mf aH]
theorem Qd {d:Option Nat} {x:aZ} {rs:List Nat} {e:fF} {H:ag}:nm P ⟨d,.dq x,none,rs⟩ e H=(mW H (x.a8 (e.r.trim rs))=some e.v):=zc rfl
theorem Qe {d:Option Nat} {n:Nat} {x:aZ} {rs:List Nat} {e:fF} {H:ag}:nm P ⟨d,.gd n x,none,rs⟩ e H=(mV n H (x.a8 (e.r.trim rs))=some e.v):=zc rfl
theorem Qf {d:Option Nat} {k:ep} {z:V} {ok:Bool} {x i:aZ} {rs:List Nat} {e:fF} {H:ag}:nm P ⟨d,.look k z ok x i,none,rs⟩ e H=(jL k.eq z ok H (x.a8 (e.r.trim rs)) (i.a8 (e.r.trim rs))=some e.v):=zc rfl
theorem Qh {d:Option Nat} {x:aZ} {j:Nat} {want:Bool} {rs:List Nat} {e:fF} {H:ag}:nm P ⟨d,.dq x,some (j,want),rs⟩ e H=
 (fo (e.r.trim rs j)∧e2 (cW (e.r.trim rs j) want) ((mW H (x.a8 (e.r.trim rs))).isSome=true)∧V.opt (cW (e.r.trim rs j) want) ((mW H (x.a8 (e.r.trim rs))).getD .bad)=e.v):=CK rfl
theorem Qi {d:Option Nat} {n:Nat} {x:aZ} {j:Nat} {want:Bool} {rs:List Nat} {e:fF} {H:ag}:nm P ⟨d,.gd n x,some (j,want),rs⟩ e H=
 (fo (e.r.trim rs j)∧e2 (cW (e.r.trim rs j) want) ((mV n H (x.a8 (e.r.trim rs))).isSome=true)∧V.opt (cW (e.r.trim rs j) want) ((mV n H (x.a8 (e.r.trim rs))).getD .bad)=e.v):=CK rfl
end
end Go.Proofs.YtjbiefneffiogaaGreat.ba
namespace Go.Proofs.YtjbiefneffiogaaGreat.ba
variable [Lay]
open Go Go.RowKit
noncomputable def Bk (x:V) (h:ag):bh:=
 match x with
 | .str s=>.val (.ptr (ak h.next) 0) (h.new (.iter s 0))
 | _=>.fail
theorem abv (s:List UInt8) (h:ag):Bk (.str s) h=.val (.ptr (ak h.next) 0) (h.new (.iter s 0)):=(rfl)
section
variable {P:Program} {r:bD} {h:ag} {Q:cr→bD→ag→Prop} {ay:List hK} {os:List bu} {D:Option jT} {d:Option Nat} {rs:List Nat}
theorem XD {x:aZ}:bx P (.os D (⟨d,(.fz x),none,rs⟩::os)::ay) .normal r h Q=dn P (some (x.a8 (r.trim rs))) d D os ay r h Q:=hj rfl
theorem Yv {x:aZ} {j:Nat} {want:Bool}:bx P (.os D (⟨d,(.fz x),some (j,want),rs⟩::os)::ay) .normal r h Q=(fo (r.trim rs j)∧e2 (cW (r.trim rs j) want) ((some (x.a8 (r.trim rs))).isSome=true)∧dn P (some (V.opt (cW (r.trim rs j) want) ((some (x.a8 (r.trim rs))).getD .bad))) d D os ay r h Q):=hi rfl
theorem XL {c a b:aZ}:bx P (.os D (⟨d,(.pick c a b),none,rs⟩::os)::ay) .normal r h Q=dn P (yc (c.a8 (r.trim rs)) (a.a8 (r.trim rs)) (b.a8 (r.trim rs))) d D os ay r h Q:=hj rfl
theorem YA {c a b:aZ} {j:Nat} {want:Bool}:bx P (.os D (⟨d,(.pick c a b),some (j,want),rs⟩::os)::ay) .normal r h Q=(fo (r.trim rs j)∧e2 (cW (r.trim rs j) want) ((yc (c.a8 (r.trim rs)) (a.a8 (r.trim rs)) (b.a8 (r.trim rs))).isSome=true)∧dn P (some (V.opt (cW (r.trim rs j) want) ((yc (c.a8 (r.trim rs)) (a.a8 (r.trim rs)) (b.a8 (r.trim rs))).getD .bad))) d D os ay r h Q):=hi rfl
theorem WZ {z:List V} {bX:List (Nat × Nat × aZ)}:bx P (.os D (⟨d,(.build z bX),none,rs⟩::os)::ay) .normal r h Q=dn P (zk (ij z (j1 (r.trim rs) bX))) d D os ay r h Q:=hj rfl
theorem X5 {z:List V} {bX:List (Nat × Nat × aZ)} {j:Nat} {want:Bool}:bx P (.os D (⟨d,(.build z bX),some (j,want),rs⟩::os)::ay) .normal r h Q=(fo (r.trim rs j)∧e2 (cW (r.trim rs j) want) ((zk (ij z (j1 (r.trim rs) bX))).isSome=true)∧dn P (some (V.opt (cW (r.trim rs j) want) ((zk (ij z (j1 (r.trim rs) bX))).getD .bad))) d D os ay r h Q):=hi rfl
theorem Xp {x:aZ}:bx P (.os D (⟨d,(.dq x),none,rs⟩::os)::ay) .normal r h Q=dn P (mW h (x.a8 (r.trim rs))) d D os ay r h Q:=hj rfl
theorem Yl {x:aZ} {j:Nat} {want:Bool}:bx P (.os D (⟨d,(.dq x),some (j,want),rs⟩::os)::ay) .normal r h Q=(fo (r.trim rs j)∧e2 (cW (r.trim rs j) want) ((mW h (x.a8 (r.trim rs))).isSome=true)∧dn P (some (V.opt (cW (r.trim rs j) want) ((mW h (x.a8 (r.trim rs))).getD .bad))) d D os ay r h Q):=hi rfl
theorem Xq {n:Nat} {x:aZ}:bx P (.os D (⟨d,(.gd n x),none,rs⟩::os)::ay) .normal r h Q=dn P (mV n h (x.a8 (r.trim rs))) d D os ay r h Q:=hj rfl
theorem Ym {n:Nat} {x:aZ} {j:Nat} {want:Bool}:bx P (.os D (⟨d,(.gd n x),some (j,want),rs⟩::os)::ay) .normal r h Q=(fo (r.trim rs j)∧e2 (cW (r.trim rs j) want) ((mV n h (x.a8 (r.trim rs))).isSome=true)∧dn P (some (V.opt (cW (r.trim rs j) want) ((mV n h (x.a8 (r.trim rs))).getD .bad))) d D os ay r h Q):=hi rfl
theorem XI {x:aZ}:bx P (.os D (⟨d,(.q9 x),none,rs⟩::os)::ay) .normal r h Q=dn P (sh (x.a8 (r.trim rs))) d D os ay r h Q:=hj rfl
theorem Yy {x:aZ} {j:Nat} {want:Bool}:bx P (.os D (⟨d,(.q9 x),some (j,want),rs⟩::os)::ay) .normal r h Q=(fo (r.trim rs j)∧e2 (cW (r.trim rs j) want) ((sh (x.a8 (r.trim rs))).isSome=true)∧dn P (some (V.opt (cW (r.trim rs j) want) ((sh (x.a8 (r.trim rs))).getD .bad))) d D os ay r h Q):=hi rfl
theorem WT {k:dO} {x y:aZ}:bx P (.os D (⟨d,(.bin k x y),none,rs⟩::os)::ay) .normal r h Q=dn P (k.run P (x.a8 (r.trim rs)) (y.a8 (r.trim rs))) d D os ay r h Q:=hj rfl
theorem X2 {k:dO} {x y:aZ} {j:Nat} {want:Bool}:bx P (.os D (⟨d,(.bin k x y),some (j,want),rs⟩::os)::ay) .normal r h Q=(fo (r.trim rs j)∧e2 (cW (r.trim rs j) want) ((k.run P (x.a8 (r.trim rs)) (y.a8 (r.trim rs))).isSome=true)∧dn P (some (V.opt (cW (r.trim rs j) want) ((k.run P (x.a8 (r.trim rs)) (y.a8 (r.trim rs))).getD .bad))) d D os ay r h Q):=hi rfl
theorem XX {o:UnOp} {x:aZ}:bx P (.os D (⟨d,(.un o x),none,rs⟩::os)::ay) .normal r h Q=dn P (qc o (x.a8 (r.trim rs))) d D os ay r h Q:=hj rfl
theorem YF {o:UnOp} {x:aZ} {j:Nat} {want:Bool}:bx P (.os D (⟨d,(.un o x),some (j,want),rs⟩::os)::ay) .normal r h Q=(fo (r.trim rs j)∧e2 (cW (r.trim rs j) want) ((qc o (x.a8 (r.trim rs))).isSome=true)∧dn P (some (V.opt (cW (r.trim rs j) want) ((qc o (x.a8 (r.trim rs))).getD .bad))) d D os ay r h Q):=hi rfl
theorem Xh {f:FuncId} {cs:List aZ}:bx P (.os D (⟨d,(.fn f cs),none,rs⟩::os)::ay) .normal r h Q=dn P (some (V.func f (aZ.gH (r.trim rs) cs))) d D os ay r h Q:=hj rfl
theorem Yf {f:FuncId} {cs:List aZ} {j:Nat} {want:Bool}:bx P (.os D (⟨d,(.fn f cs),some (j,want),rs⟩::os)::ay) .normal r h Q=(fo (r.trim rs j)∧e2 (cW (r.trim rs j) want) ((some (V.func f (aZ.gH (r.trim rs) cs))).isSome=true)∧dn P (some (V.opt (cW (r.trim rs j) want) ((some (V.func f (aZ.gH (r.trim rs) cs))).getD .bad))) d D os ay r h Q):=hi rfl
theorem Xm {t:TypeId} {x:aZ}:bx P (.os D (⟨d,(.tz t x),none,rs⟩::os)::ay) .normal r h Q=dn P (some (V.iface t (x.a8 (r.trim rs)))) d D os ay r h Q:=hj rfl
theorem Yi {t:TypeId} {x:aZ} {j:Nat} {want:Bool}:bx P (.os D (⟨d,(.tz t x),some (j,want),rs⟩::os)::ay) .normal r h Q=(fo (r.trim rs j)∧e2 (cW (r.trim rs j) want) ((some (V.iface t (x.a8 (r.trim rs)))).isSome=true)∧dn P (some (V.opt (cW (r.trim rs j) want) ((some (V.iface t (x.a8 (r.trim rs)))).getD .bad))) d D os ay r h Q):=hi rfl
theorem XU {x:aZ} {bU ax dV:Option aZ}:bx P (.os D (⟨d,(.um x bU ax dV),none,rs⟩::os)::ay) .normal r h Q=dn P (k' (x.a8 (r.trim rs)) (aZ.opt (r.trim rs) bU) (aZ.opt (r.trim rs) ax) (aZ.opt (r.trim rs) dV)) d D os ay r h Q:=hj rfl
theorem YD {x:aZ} {bU ax dV:Option aZ} {j:Nat} {want:Bool}:bx P (.os D (⟨d,(.um x bU ax dV),some (j,want),rs⟩::os)::ay) .normal r h Q=(fo (r.trim rs j)∧e2 (cW (r.trim rs j) want) ((k' (x.a8 (r.trim rs)) (aZ.opt (r.trim rs) bU) (aZ.opt (r.trim rs) ax) (aZ.opt (r.trim rs) dV)).isSome=true)∧dn P (some (V.opt (cW (r.trim rs j) want) ((k' (x.a8 (r.trim rs)) (aZ.opt (r.trim rs) bU) (aZ.opt (r.trim rs) ax) (aZ.opt (r.trim rs) dV)).getD .bad))) d D os ay r h Q):=hi rfl
theorem XT {n:Nat} {x:aZ} {bU ax dV:Option aZ}:bx P (.os D (⟨d,(.gZ n x bU ax dV),none,rs⟩::os)::ay) .normal r h Q=dn P (g0 n (x.a8 (r.trim rs)) (aZ.opt (r.trim rs) bU) (aZ.opt (r.trim rs) ax) (aZ.opt (r.trim rs) dV)) d D os ay r h Q:=hj rfl
theorem YC {n:Nat} {x:aZ} {bU ax dV:Option aZ} {j:Nat} {want:Bool}:bx P (.os D (⟨d,(.gZ n x bU ax dV),some (j,want),rs⟩::os)::ay) .normal r h Q=(fo (r.trim rs j)∧e2 (cW (r.trim rs j) want) ((g0 n (x.a8 (r.trim rs)) (aZ.opt (r.trim rs) bU) (aZ.opt (r.trim rs) ax) (aZ.opt (r.trim rs) dV)).isSome=true)∧dn P (some (V.opt (cW (r.trim rs j) want) ((g0 n (x.a8 (r.trim rs)) (aZ.opt (r.trim rs) bU) (aZ.opt (r.trim rs) ax) (aZ.opt (r.trim rs) dV)).getD .bad))) d D os ay r h Q):=hi rfl
theorem Xe {o:Nat} {x:aZ}:bx P (.os D (⟨d,(.cf o x),none,rs⟩::os)::ay) .normal r h Q=dn P (zD o (x.a8 (r.trim rs))) d D os ay r h Q:=hj rfl
theorem Yc {o:Nat} {x:aZ} {j:Nat} {want:Bool}:bx P (.os D (⟨d,(.cf o x),some (j,want),rs⟩::os)::ay) .normal r h Q=(fo (r.trim rs j)∧e2 (cW (r.trim rs j) want) ((zD o (x.a8 (r.trim rs))).isSome=true)∧dn P (some (V.opt (cW (r.trim rs j) want) ((zD o (x.a8 (r.trim rs))).getD .bad))) d D os ay r h Q):=hi rfl
theorem Xf {o:Nat} {x:aZ}:bx P (.os D (⟨d,(.s3 o x),none,rs⟩::os)::ay) .normal r h Q=dn P ((x.a8 (r.trim rs)).q' none fun cs=>cs[o]?) d D os ay r h Q:=hj rfl
theorem Yd {o:Nat} {x:aZ} {j:Nat} {want:Bool}:bx P (.os D (⟨d,(.s3 o x),some (j,want),rs⟩::os)::ay) .normal r h Q=(fo (r.trim rs j)∧e2 (cW (r.trim rs j) want) (((x.a8 (r.trim rs)).q' none fun cs=>cs[o]?).isSome=true)∧dn P (some (V.opt (cW (r.trim rs j) want) (((x.a8 (r.trim rs)).q' none fun cs=>cs[o]?).getD .bad))) d D os ay r h Q):=hi rfl
theorem Xg {o n:Nat} {x:aZ}:bx P (.os D (⟨d,(.s4 o n x),none,rs⟩::os)::ay) .normal r h Q=dn P ((x.a8 (r.trim rs)).q' none fun cs=>some (V.agg ((cs.drop o).take n))) d D os ay r h Q:=hj rfl
theorem Ye {o n:Nat} {x:aZ} {j:Nat} {want:Bool}:bx P (.os D (⟨d,(.s4 o n x),some (j,want),rs⟩::os)::ay) .normal r h Q=(fo (r.trim rs j)∧e2 (cW (r.trim rs j) want) (((x.a8 (r.trim rs)).q' none fun cs=>some (V.agg ((cs.drop o).take n))).isSome=true)∧dn P (some (V.opt (cW (r.trim rs j) want) (((x.a8 (r.trim rs)).q' none fun cs=>some (V.agg ((cs.drop o).take n))).getD .bad))) d D os ay r h Q):=hi rfl
theorem Xk {n:Nat} {x i:aZ}:bx P (.os D (⟨d,(.cl n x i),none,rs⟩::os)::ay) .normal r h Q=dn P (gy n (x.a8 (r.trim rs)) (i.a8 (r.trim rs))) d D os ay r h Q:=hj rfl
theorem Yg {n:Nat} {x i:aZ} {j:Nat} {want:Bool}:bx P (.os D (⟨d,(.cl n x i),some (j,want),rs⟩::os)::ay) .normal r h Q=(fo (r.trim rs j)∧e2 (cW (r.trim rs j) want) ((gy n (x.a8 (r.trim rs)) (i.a8 (r.trim rs))).isSome=true)∧dn P (some (V.opt (cW (r.trim rs j) want) ((gy n (x.a8 (r.trim rs)) (i.a8 (r.trim rs))).getD .bad))) d D os ay r h Q):=hi rfl
theorem Xl {m n:Nat} {x i:aZ}:bx P (.os D (⟨d,(.q1 m n x i),none,rs⟩::os)::ay) .normal r h Q=dn P ((q3 m n).run (x.a8 (r.trim rs)) (i.a8 (r.trim rs))) d D os ay r h Q:=hj rfl
theorem Yh {m n:Nat} {x i:aZ} {j:Nat} {want:Bool}:bx P (.os D (⟨d,(.q1 m n x i),some (j,want),rs⟩::os)::ay) .normal r h Q=(fo (r.trim rs j)∧e2 (cW (r.trim rs j) want) (((q3 m n).run (x.a8 (r.trim rs)) (i.a8 (r.trim rs))).isSome=true)∧dn P (some (V.opt (cW (r.trim rs j) want) (((q3 m n).run (x.a8 (r.trim rs)) (i.a8 (r.trim rs))).getD .bad))) d D os ay r h Q):=hi rfl
theorem Xo {x i:aZ}:bx P (.os D (⟨d,(.tE x i),none,rs⟩::os)::ay) .normal r h Q=dn P (pL.run (x.a8 (r.trim rs)) (i.a8 (r.trim rs))) d D os ay r h Q:=hj rfl
theorem Yk {x i:aZ} {j:Nat} {want:Bool}:bx P (.os D (⟨d,(.tE x i),some (j,want),rs⟩::os)::ay) .normal r h Q=(fo (r.trim rs j)∧e2 (cW (r.trim rs j) want) ((pL.run (x.a8 (r.trim rs)) (i.a8 (r.trim rs))).isSome=true)∧dn P (some (V.opt (cW (r.trim rs j) want) ((pL.run (x.a8 (r.trim rs)) (i.a8 (r.trim rs))).getD .bad))) d D os ay r h Q):=hi rfl
theorem Xn {t:TypeId} {x i:aZ}:bx P (.os D (⟨d,(.hT t x i),none,rs⟩::os)::ay) .normal r h Q=dn P ((q4 P t).run (x.a8 (r.trim rs)) (i.a8 (r.trim rs))) d D os ay r h Q:=hj rfl
theorem Yj {t:TypeId} {x i:aZ} {j:Nat} {want:Bool}:bx P (.os D (⟨d,(.hT t x i),some (j,want),rs⟩::os)::ay) .normal r h Q=(fo (r.trim rs j)∧e2 (cW (r.trim rs j) want) (((q4 P t).run (x.a8 (r.trim rs)) (i.a8 (r.trim rs))).isSome=true)∧dn P (some (V.opt (cW (r.trim rs j) want) (((q4 P t).run (x.a8 (r.trim rs)) (i.a8 (r.trim rs))).getD .bad))) d D os ay r h Q):=hi rfl
theorem Xw {k:ep} {z:V} {ok:Bool} {x i:aZ}:bx P (.os D (⟨d,(.look k z ok x i),none,rs⟩::os)::ay) .normal r h Q=dn P (jL k.eq z ok h (x.a8 (r.trim rs)) (i.a8 (r.trim rs))) d D os ay r h Q:=hj rfl
theorem Yr {k:ep} {z:V} {ok:Bool} {x i:aZ} {j:Nat} {want:Bool}:bx P (.os D (⟨d,(.look k z ok x i),some (j,want),rs⟩::os)::ay) .normal r h Q=(fo (r.trim rs j)∧e2 (cW (r.trim rs j) want) ((jL k.eq z ok h (x.a8 (r.trim rs)) (i.a8 (r.trim rs))).isSome=true)∧dn P (some (V.opt (cW (r.trim rs j) want) ((jL k.eq z ok h (x.a8 (r.trim rs)) (i.a8 (r.trim rs))).getD .bad))) d D os ay r h Q):=hi rfl
theorem Xd {x:aZ} {i:Nat}:bx P (.os D (⟨d,(.ext x i),none,rs⟩::os)::ay) .normal r h Q=dn P ((x.a8 (r.trim rs)).x7 none fun ad=>ad[i]?) d D os ay r h Q:=hj rfl
theorem Yb {x:aZ} {i:Nat} {j:Nat} {want:Bool}:bx P (.os D (⟨d,(.ext x i),some (j,want),rs⟩::os)::ay) .normal r h Q=(fo (r.trim rs j)∧e2 (cW (r.trim rs j) want) (((x.a8 (r.trim rs)).x7 none fun ad=>ad[i]?).isSome=true)∧dn P (some (V.opt (cW (r.trim rs j) want) (((x.a8 (r.trim rs)).x7 none fun ad=>ad[i]?).getD .bad))) d D os ay r h Q):=hi rfl
theorem XB {args:List aZ}:bx P (.os D (⟨d,(.gU args),none,rs⟩::os)::ay) .normal r h Q=dn P (ka (fun b a=>!Int.leB a b) (aZ.gH (r.trim rs) args)) d D os ay r h Q:=hj rfl
theorem Yu {args:List aZ} {j:Nat} {want:Bool}:bx P (.os D (⟨d,(.gU args),some (j,want),rs⟩::os)::ay) .normal r h Q=(fo (r.trim rs j)∧e2 (cW (r.trim rs j) want) ((ka (fun b a=>!Int.leB a b) (aZ.gH (r.trim rs) args)).isSome=true)∧dn P (some (V.opt (cW (r.trim rs j) want) ((ka (fun b a=>!Int.leB a b) (aZ.gH (r.trim rs) args)).getD .bad))) d D os ay r h Q):=hi rfl
theorem XE {args:List aZ}:bx P (.os D (⟨d,(.eo args),none,rs⟩::os)::ay) .normal r h Q=dn P (ka (fun b a=>!Int.leB b a) (aZ.gH (r.trim rs) args)) d D os ay r h Q:=hj rfl
theorem Yw {args:List aZ} {j:Nat} {want:Bool}:bx P (.os D (⟨d,(.eo args),some (j,want),rs⟩::os)::ay) .normal r h Q=(fo (r.trim rs j)∧e2 (cW (r.trim rs j) want) ((ka (fun b a=>!Int.leB b a) (aZ.gH (r.trim rs) args)).isSome=true)∧dn P (some (V.opt (cW (r.trim rs j) want) ((ka (fun b a=>!Int.leB b a) (aZ.gH (r.trim rs) args)).getD .bad))) d D os ay r h Q):=hi rfl
theorem W8 {k:IntKind} {x:aZ}:bx P (.os D (⟨d,(.hr (.int k) x),none,rs⟩::os)::ay) .normal r h Q=dn P (w3 k (x.a8 (r.trim rs))) d D os ay r h Q:=hj rfl
theorem X' {k:IntKind} {x:aZ} {j:Nat} {want:Bool}:bx P (.os D (⟨d,(.hr (.int k) x),some (j,want),rs⟩::os)::ay) .normal r h Q=(fo (r.trim rs j)∧e2 (cW (r.trim rs j) want) ((w3 k (x.a8 (r.trim rs))).isSome=true)∧dn P (some (V.opt (cW (r.trim rs j) want) ((w3 k (x.a8 (r.trim rs))).getD .bad))) d D os ay r h Q):=hi rfl
theorem Xt {x:aZ}:bx P (.os D (⟨d,(.len .slice x),none,rs⟩::os)::ay) .normal r h Q=dn P (mT (x.a8 (r.trim rs))) d D os ay r h Q:=hj rfl
theorem Yp {x:aZ} {j:Nat} {want:Bool}:bx P (.os D (⟨d,(.len .slice x),some (j,want),rs⟩::os)::ay) .normal r h Q=(fo (r.trim rs j)∧e2 (cW (r.trim rs j) want) ((mT (x.a8 (r.trim rs))).isSome=true)∧dn P (some (V.opt (cW (r.trim rs j) want) ((mT (x.a8 (r.trim rs))).getD .bad))) d D os ay r h Q):=hi rfl
theorem Xu {x:aZ}:bx P (.os D (⟨d,(.len .str x),none,rs⟩::os)::ay) .normal r h Q=dn P (Ax (x.a8 (r.trim rs))) d D os ay r h Q:=hj rfl
theorem Yq {x:aZ} {j:Nat} {want:Bool}:bx P (.os D (⟨d,(.len .str x),some (j,want),rs⟩::os)::ay) .normal r h Q=(fo (r.trim rs j)∧e2 (cW (r.trim rs j) want) ((Ax (x.a8 (r.trim rs))).isSome=true)∧dn P (some (V.opt (cW (r.trim rs j) want) ((Ax (x.a8 (r.trim rs))).getD .bad))) d D os ay r h Q):=hi rfl
theorem Xr {n:Nat} {x:aZ}:bx P (.os D (⟨d,(.len (.arr n) x),none,rs⟩::os)::ay) .normal r h Q=dn P (some (V.int .i64 n)) d D os ay r h Q:=hj rfl
theorem Yn {n:Nat} {x:aZ} {j:Nat} {want:Bool}:bx P (.os D (⟨d,(.len (.arr n) x),some (j,want),rs⟩::os)::ay) .normal r h Q=(fo (r.trim rs j)∧e2 (cW (r.trim rs j) want) ((some (V.int .i64 n)).isSome=true)∧dn P (some (V.opt (cW (r.trim rs j) want) ((some (V.int .i64 n)).getD .bad))) d D os ay r h Q):=hi rfl
theorem XG {z:List V}:bx P (.os D (⟨d,(.new z),none,rs⟩::os)::ay) .normal r h Q=iU P (sk (.ptr (ak h.next) 0) (gq h z)) d D os ay r h Q:=kX rfl rfl
theorem Yx {z:List V} {j:Nat} {want:Bool}:bx P (.os D (⟨d,(.new z),some (j,want),rs⟩::os)::ay) .normal r h Q=g7 P (r.trim rs j) want d (.new z) rs D os ay r h Q:=kr rfl
theorem WX {x:aZ}:bx P (.os D (⟨d,(.box x),none,rs⟩::os)::ay) .normal r h Q=iU P (Hq (x.a8 (r.trim rs)).ek (sk (.ptr (ak h.next) 0) (gq h (x.a8 (r.trim rs)).cells))) d D os ay r h Q:=kX rfl rfl
theorem X3 {x:aZ} {j:Nat} {want:Bool}:bx P (.os D (⟨d,(.box x),some (j,want),rs⟩::os)::ay) .normal r h Q=g7 P (r.trim rs j) want d (.box x) rs D os ay r h Q:=kr rfl
theorem WY {n m:Nat} {z:List V} {bX:List (Nat × Nat × aZ)}:bx P (.os D (⟨d,(.g6 n m z bX),none,rs⟩::os)::ay) .normal r h Q=iU P (zi n h (ij (gr z n) (j1 (r.trim rs) bX))) d D os ay r h Q:=by rw [kX rfl rfl,abQ]
theorem X4 {n m:Nat} {z:List V} {bX:List (Nat × Nat × aZ)} {j:Nat} {want:Bool}:bx P (.os D (⟨d,(.g6 n m z bX),some (j,want),rs⟩::os)::ay) .normal r h Q=g7 P (r.trim rs j) want d (.g6 n m z bX) rs D os ay r h Q:=kr rfl
theorem XV {n:Nat} {x y:aZ}:bx P (.os D (⟨d,(.st n x y),none,rs⟩::os)::ay) .normal r h Q=iU P (sk .bad (yu n h (x.a8 (r.trim rs)) (y.a8 (r.trim rs)))) d D os ay r h Q:=kX rfl rfl
theorem YE {n:Nat} {x y:aZ} {j:Nat} {want:Bool}:bx P (.os D (⟨d,(.st n x y),some (j,want),rs⟩::os)::ay) .normal r h Q=g7 P (r.trim rs j) want d (.st n x y) rs D os ay r h Q:=kr rfl
theorem XA {n:Nat} {z:List V} {l c:aZ}:bx P (.os D (⟨d,(.xT n z l c),none,rs⟩::os)::ay) .normal r h Q=iU P (AD n z (l.a8 (r.trim rs)) (c.a8 (r.trim rs)) h) d D os ay r h Q:=kX rfl rfl
theorem Yt {n:Nat} {z:List V} {l c:aZ} {j:Nat} {want:Bool}:bx P (.os D (⟨d,(.xT n z l c),some (j,want),rs⟩::os)::ay) .normal r h Q=g7 P (r.trim rs j) want d (.xT n z l c) rs D os ay r h Q:=kr rfl
theorem Aq {k:ep} {m i x:aZ}:bx P (.os D (⟨d,(.dM k m i x),none,rs⟩::os)::ay) .normal r h Q=iU P (sk .bad (jR k.eq h (m.a8 (r.trim rs)) (i.a8 (r.trim rs)) (x.a8 (r.trim rs)))) d D os ay r h Q:=kX rfl rfl
theorem YG {k:ep} {m i x:aZ} {j:Nat} {want:Bool}:bx P (.os D (⟨d,(.dM k m i x),some (j,want),rs⟩::os)::ay) .normal r h Q=g7 P (r.trim rs j) want d (.dM k m i x) rs D os ay r h Q:=kr rfl
theorem Xz {x:Option aZ}:bx P (.os D (⟨d,(.o4 x),none,rs⟩::os)::ay) .normal r h Q=iU P (nW (aZ.opt (r.trim rs) x) h) d D os ay r h Q:=kX rfl rfl
theorem Ys {x:Option aZ} {j:Nat} {want:Bool}:bx P (.os D (⟨d,(.o4 x),some (j,want),rs⟩::os)::ay) .normal r h Q=g7 P (r.trim rs j) want d (.o4 x) rs D os ay r h Q:=kr rfl
theorem XQ {x:aZ}:bx P (.os D (⟨d,(.yl x),none,rs⟩::os)::ay) .normal r h Q=iU P (Bk (x.a8 (r.trim rs)) h) d D os ay r h Q:=(kX rfl rfl).trans (by first | rfl | (unfold Bk;simp only [G.run];cases x.a8 (r.trim rs)<;>rfl) | (unfold Bk;cases x.a8 (r.trim rs)<;>rfl))
theorem YB {x:aZ} {j:Nat} {want:Bool}:bx P (.os D (⟨d,(.yl x),some (j,want),rs⟩::os)::ay) .normal r h Q=g7 P (r.trim rs j) want d (.yl x) rs D os ay r h Q:=kr rfl
theorem XJ {x:aZ}:bx P (.os D (⟨d,(.xY x),none,rs⟩::os)::ay) .normal r h Q=iU P (xV (x.a8 (r.trim rs)) h) d D os ay r h Q:=kX rfl rfl
theorem Yz {x:aZ} {j:Nat} {want:Bool}:bx P (.os D (⟨d,(.xY x),some (j,want),rs⟩::os)::ay) .normal r h Q=g7 P (r.trim rs j) want d (.xY x) rs D os ay r h Q:=kr rfl
theorem WR {n:Nat} {s x:aZ}:bx P (.os D (⟨d,(.app n s x),none,rs⟩::os)::ay) .normal r h Q=iU P (kJ n (s.a8 (r.trim rs)) (x.a8 (r.trim rs)) h) d D os ay r h Q:=kX rfl rfl
theorem X1 {n:Nat} {s x:aZ} {j:Nat} {want:Bool}:bx P (.os D (⟨d,(.app n s x),some (j,want),rs⟩::os)::ay) .normal r h Q=g7 P (r.trim rs j) want d (.app n s x) rs D os ay r h Q:=kr rfl
theorem W5 {n:Nat} {jA s:aZ}:bx P (.os D (⟨d,(.copy n jA s),none,rs⟩::os)::ay) .normal r h Q=iU P (copyV n (jA.a8 (r.trim rs)) (s.a8 (r.trim rs)) h) d D os ay r h Q:=kX rfl rfl
theorem X8 {n:Nat} {jA s:aZ} {j:Nat} {want:Bool}:bx P (.os D (⟨d,(.copy n jA s),some (j,want),rs⟩::os)::ay) .normal r h Q=g7 P (r.trim rs j) want d (.copy n jA s) rs D os ay r h Q:=kr rfl
theorem W3 {z:List V} {x:aZ}:bx P (.os D (⟨d,(.zq z x),none,rs⟩::os)::ay) .normal r h Q=iU P (rR z (x.a8 (r.trim rs)) h) d D os ay r h Q:=kX rfl rfl
theorem Xs {x:aZ}:bx P (.os D (⟨d,(.len .map x),none,rs⟩::os)::ay) .normal r h Q=iU P (xR [x.a8 (r.trim rs)] h) d D os ay r h Q:=kX rfl rfl
theorem Yo {x:aZ} {j:Nat} {want:Bool}:bx P (.os D (⟨d,(.len .map x),some (j,want),rs⟩::os)::ay) .normal r h Q=g7 P (r.trim rs j) want d (.len .map x) rs D os ay r h Q:=kr rfl
theorem W7 {x:aZ}:bx P (.os D (⟨d,(.hr .bytes x),none,rs⟩::os)::ay) .normal r h Q=iU P (w1.run (x.a8 (r.trim rs)) h) d D os ay r h Q:=kX rfl rfl
theorem X9 {x:aZ} {j:Nat} {want:Bool}:bx P (.os D (⟨d,(.hr .bytes x),some (j,want),rs⟩::os)::ay) .normal r h Q=g7 P (r.trim rs j) want d (.hr .bytes x) rs D os ay r h Q:=kr rfl
theorem W' {x:aZ}:bx P (.os D (⟨d,(.hr .str x),none,rs⟩::os)::ay) .normal r h Q=iU P (mw.run (x.a8 (r.trim rs)) h) d D os ay r h Q:=kX rfl rfl
theorem Ya {x:aZ} {j:Nat} {want:Bool}:bx P (.os D (⟨d,(.hr .str x),some (j,want),rs⟩::os)::ay) .normal r h Q=g7 P (r.trim rs j) want d (.hr .str x) rs D os ay r h Q:=kr rfl
theorem W9 {s jA:TypeId} {x:aZ}:bx P (.os D (⟨d,(.hr (.other s jA) x),none,rs⟩::os)::ay) .normal r h Q=iU P ((pw P s jA).run (x.a8 (r.trim rs)) h) d D os ay r h Q:=kX rfl rfl
theorem X_ {s jA:TypeId} {x:aZ} {j:Nat} {want:Bool}:bx P (.os D (⟨d,(.hr (.other s jA) x),some (j,want),rs⟩::os)::ay) .normal r h Q=g7 P (r.trim rs j) want d (.hr (.other s jA) x) rs D os ay r h Q:=kr rfl
theorem X6 {f:FuncId} {args:List aZ} {j:Nat} {want:Bool}:bx P (.os D (⟨d,(.call f args),some (j,want),rs⟩::os)::ay) .normal r h Q=g7 P (r.trim rs j) want d (.call f args) rs D os ay r h Q:=kr rfl
theorem X7 {f:aZ} {args:List aZ} {j:Nat} {want:Bool}:bx P (.os D (⟨d,(.ps f args),some (j,want),rs⟩::os)::ay) .normal r h Q=g7 P (r.trim rs j) want d (.ps f args) rs D os ay r h Q:=kr rfl
end
end Go.Proofs.YtjbiefneffiogaaGreat.ba
namespace Go.Proofs.YtjbiefneffiogaaGreat.ba
variable [Lay]
open Go Go.RowKit
theorem ZG (h:ag) (ad:List V):gq h ad=if ad.length≤top then some (h.new (.ar ad 0 false)) else none:=by
 by_cases aB:ad.length≤top
 · rw [if_pos aB,ZF aB]
 · rw [if_neg aB]
   unfold gq
   rw [show Nat.ble ad.length top=false from by rw [←Bool.not_eq_true,Nat.ble_eq];exact aB]
   rfl
theorem YU (h:ag) (n:Nat) (b:aN) (off:Nat) (y:V) (ad:List V) (cw:Nat) (st:Bool):
 pR n h b off y (.ar ad cw st)=if y.cells.length=n∧fg y.cells=true∧off+n≤ad.length then some (h.set b (.ar (l8 ad off y.cells) cw st)) else none:=by
 by_cases aA:y.cells.length=n∧fg y.cells=true∧off+n≤ad.length
 · rw [if_pos aA,EP aA.1 aA.2.1 aA.2.2]
 · rw [if_neg aA]
   unfold pR
   by_cases ab:y.cells.length=n
   · rw [show Nat.beq y.cells.length n=true from by rw [Nat.beq_eq];exact ab]
     simp only [cond_true,cp.ar,cp.on]
     by_cases af:fg y.cells=true
     · have aK:¬off+y.cells.length≤ad.length:=fun q=>aA ⟨ab,af,by omega⟩
       rw [show Nat.ble (off+y.cells.length) ad.length=false from by rw [←Bool.not_eq_true,Nat.ble_eq];exact aK]
       rfl
     · rw [show fg y.cells=false from by simpa using af,Bool.and_false]
       rfl
   · rw [show Nat.beq y.cells.length n=false from by rw [←Bool.not_eq_true,Nat.beq_eq];exact ab]
     rfl
theorem Tp (cells:List V) (off size:Nat) (v:V) (rest:List (Nat × Nat × V)):
 ij cells ((off,size,v)::rest)=if v.ek=true∧v.cells.length=size∧off+size≤cells.length then ij (l8 cells off v.cells) rest else none:=by
 by_cases aA:v.ek=true∧v.cells.length=size∧off+size≤cells.length
 · rw [if_pos aA,To aA.1 aA.2.1 aA.2.2]
 · rw [if_neg aA]
   simp only [ij]
   cases ah:(v.ek&&(Nat.beq v.cells.length size&&Nat.ble (off+v.cells.length) cells.length)) with
   | false=>rfl
   | true=>
     simp only [Bool.and_eq_true,Nat.beq_eq,Nat.ble_eq] at ah
     exact absurd ⟨ah.1,ah.2.1,by omega⟩ aA
theorem Sl (b:Bool):V.cells (.bool b:V)=[.bool b]:=rfl
theorem Z4 (b:Bool):V.one (.bool b:V)=true:=rfl
theorem TP (b:Bool):V.ek (.bool b:V)=true:=rfl
theorem Sq (k:IntKind) (n:Int):V.cells (.int k n:V)=[.int k n]:=rfl
theorem AS (k:IntKind) (n:Int):V.one (.int k n:V)=true:=rfl
theorem mG (k:IntKind) (n:Int):V.ek (.int k n:V)=true:=rfl
theorem Sz (s:List UInt8):V.cells (.str s:V)=[.str s]:=rfl
theorem aae (s:List UInt8):V.one (.str s:V)=true:=rfl
theorem T1 (s:List UInt8):V.ek (.str s:V)=true:=rfl
theorem Sv:V.cells (.cq:V)=[.cq]:=rfl
theorem aaa:V.one (.cq:V)=true:=rfl
theorem TX:V.ek (.cq:V)=true:=rfl
theorem Sx (b:aN) (o:Nat):V.cells (.ptr b o:V)=[.ptr b o]:=rfl
theorem aac (b:aN) (o:Nat):V.one (.ptr b o:V)=true:=rfl
theorem TZ (b:aN) (o:Nat):V.ek (.ptr b o:V)=true:=rfl
theorem Sy (b:aN) (o l c:Nat):V.cells (.slice b o l c:V)=[.slice b o l c]:=rfl
theorem aad (b:aN) (o l c:Nat):V.one (.slice b o l c:V)=true:=rfl
theorem T0 (b:aN) (o l c:Nat):V.ek (.slice b o l c:V)=true:=rfl
theorem Sn (b:aN) (o l c:Nat):V.cells (.dp b o l c:V)=[.dp b o l c]:=rfl
theorem Z6 (b:aN) (o l c:Nat):V.one (.dp b o l c:V)=true:=rfl
theorem TR (b:aN) (o l c:Nat):V.ek (.dp b o l c:V)=true:=rfl
theorem SA (b:aN) (o l c:Nat):V.cells (.gN b o l c:V)=[.gN b o l c]:=rfl
theorem aaf (b:aN) (o l c:Nat):V.one (.gN b o l c:V)=true:=rfl
theorem T2 (b:aN) (o l c:Nat):V.ek (.gN b o l c:V)=true:=rfl
theorem Sw:V.cells (.aF:V)=[.aF]:=rfl
theorem aab:V.one (.aF:V)=true:=rfl
theorem TY:V.ek (.aF:V)=true:=rfl
theorem Su:V.cells (.hU:V)=[.hU]:=rfl
theorem Z_:V.one (.hU:V)=true:=rfl
theorem TW:V.ek (.hU:V)=true:=rfl
theorem Sr (b:aN):V.cells (.map b:V)=[.map b]:=rfl
theorem Z8 (b:aN):V.one (.map b:V)=true:=rfl
theorem TT (b:aN):V.ek (.map b:V)=true:=rfl
theorem Sm (f:FuncId) (cs:List V):V.cells (.func f cs:V)=[.func f cs]:=rfl
theorem Z5 (f:FuncId) (cs:List V):V.one (.func f cs:V)=true:=rfl
theorem TQ (f:FuncId) (cs:List V):V.ek (.func f cs:V)=true:=rfl
theorem St:V.cells (.jl:V)=[.jl]:=rfl
theorem Z':V.one (.jl:V)=true:=rfl
theorem TV:V.ek (.jl:V)=true:=rfl
theorem Sp (t:TypeId) (v:V):V.cells (.iface t v:V)=[.iface t v]:=rfl
theorem Z7 (t:TypeId) (v:V):V.one (.iface t v:V)=true:=rfl
theorem TS (t:TypeId) (v:V):V.ek (.iface t v:V)=true:=rfl
theorem Ss:V.cells (.nilIface:V)=[.nilIface]:=rfl
theorem Z9:V.one (.nilIface:V)=true:=rfl
theorem TU:V.ek (.nilIface:V)=true:=rfl
theorem Sk (cs:List V):V.cells (.agg cs)=cs:=rfl
theorem TO (cs:List V):V.ek (.agg cs)=true:=rfl
theorem T3 (cs:List V):V.ek (.tuple cs)=true:=rfl
theorem PQ (n:Nat):n+1+1=n+2:=rfl
theorem PW (n:Nat):n+2+1=n+3:=rfl
theorem PX (n:Nat):n+3+1=n+4:=rfl
theorem PY (n:Nat):n+4+1=n+5:=rfl
theorem PZ (n:Nat):n+5+1=n+6:=rfl
theorem P0 (n:Nat):n+6+1=n+7:=rfl
theorem P1 (n:Nat):n+7+1=n+8:=rfl
theorem P2 (n:Nat):n+8+1=n+9:=rfl
theorem P3 (n:Nat):n+9+1=n+10:=rfl
theorem PO (n:Nat):n+10+1=n+11:=rfl
theorem PR (n:Nat):n+11+1=n+12:=rfl
theorem PS (n:Nat):n+12+1=n+13:=rfl
theorem PT (n:Nat):n+13+1=n+14:=rfl
theorem PU (n:Nat):n+14+1=n+15:=rfl
theorem PV (n:Nat):n+15+1=n+16:=rfl
theorem tV (n:Nat):(n+1=n)=False:=eq_false (by omega)
theorem adH (n:Nat):(n=n+1)=False:=eq_false (by omega)
theorem tW (n:Nat):(n+2=n)=False:=eq_false (by omega)
theorem adI (n:Nat):(n=n+2)=False:=eq_false (by omega)
theorem tX (n:Nat):(n+3=n)=False:=eq_false (by omega)
theorem adJ (n:Nat):(n=n+3)=False:=eq_false (by omega)
theorem tY (n:Nat):(n+4=n)=False:=eq_false (by omega)
theorem adK (n:Nat):(n=n+4)=False:=eq_false (by omega)
theorem ZO (n:Nat):(n+5=n)=False:=eq_false (by omega)
theorem adL (n:Nat):(n=n+5)=False:=eq_false (by omega)
theorem ZP (n:Nat):(n+6=n)=False:=eq_false (by omega)
theorem adM (n:Nat):(n=n+6)=False:=eq_false (by omega)
theorem ZQ (n:Nat):(n+7=n)=False:=eq_false (by omega)
theorem adN (n:Nat):(n=n+7)=False:=eq_false (by omega)
theorem ZR (n:Nat):(n+8=n)=False:=eq_false (by omega)
theorem adO (n:Nat):(n=n+8)=False:=eq_false (by omega)
theorem TG {P:Program} {r:bD} {h:ag} {Q:cr→bD→ag→Prop} {ay:List hK} {os:List bu} {D:Option jT} {d:Option Nat} {g:G} {rs:List Nat}:g7 P (.bool true) true d g rs D os ay r h Q=bx P (.os D (⟨d,g,none,rs⟩::os)::ay) .normal r h Q:=by
 rw [Ke];simp
theorem TD {P:Program} {r:bD} {h:ag} {Q:cr→bD→ag→Prop} {ay:List hK} {os:List bu} {D:Option jT} {d:Option Nat} {g:G} {rs:List Nat}:g7 P (.bool false) false d g rs D os ay r h Q=bx P (.os D (⟨d,g,none,rs⟩::os)::ay) .normal r h Q:=by
 rw [Kd];simp
theorem TF {P:Program} {r:bD} {h:ag} {Q:cr→bD→ag→Prop} {ay:List hK} {os:List bu} {D:Option jT} {d:Option Nat} {g:G} {rs:List Nat}:g7 P (.bool true) false d g rs D os ay r h Q=bx P (.os (ku D r h (.tuple [])) os::ay) .normal (r.set d (.tuple [])) h Q:=by
 rw [Kd];simp
theorem TE {P:Program} {r:bD} {h:ag} {Q:cr→bD→ag→Prop} {ay:List hK} {os:List bu} {D:Option jT} {d:Option Nat} {g:G} {rs:List Nat}:g7 P (.bool false) true d g rs D os ay r h Q=bx P (.os (ku D r h (.tuple [])) os::ay) .normal (r.set d (.tuple [])) h Q:=by
 rw [Ke];simp
theorem Qx (c:Bool) (a b:V):V.bif (!c) a (V.opt c b)=V.bif (!c) a b:=by cases c<;>rfl
theorem WA (A:Prop):(True→A)=A:=propext ⟨fun q=>q trivial,fun q _=>q⟩
theorem Wz (A:Prop):(False→A)=True:=propext ⟨fun _=>trivial,fun _ q=>q.elim⟩
section
variable {P:Program}
theorem gz {b:bL} {ay:List hK} {r:bD} {h:ag} {Q:cr→bD→ag→Prop} (I:bD→ag→Prop) (μ:bD→ag→Nat) (ao:I r h)
 (step:∀r h,I r h→bx P [.c b] .normal r h fun e bI aa=>e.andThen (I bI aa∧μ bI aa<μ r h) (bx P ay e bI aa Q)):vC P b ay r h Q:=
 ⟨I,μ,ao,step⟩
def V.hf:V→Nat
 | .int _ n=>n.toNat
 | _=>0
theorem acN (k:IntKind) (n:Int):V.hf (.int k n)=n.toNat:=rfl
theorem qD {f:FuncId} {args:List V} {d:Option Nat} {os:List bu} {D:Option jT} {ay:List hK} {r:bD} {h:ag} {Q:cr→bD→ag→Prop} {v:V}
 (c:ma P f args h v h) (H:bx P (.os (ku D r h v) os::ay) .normal (r.set d v) h Q):qC P f args d D os ay r h Q:=⟨v,h,c,H⟩
theorem bm {f:FuncId} {args:List V} {d:Option Nat} {os:List bu} {D:Option jT} {ay:List hK} {r:bD} {h:ag} {Q:cr→bD→ag→Prop} {K:V→ag→Prop}
 (c:bR P f args h K) (H:∀v aa,K v aa→bx P (.os (ku D r h v) os::ay) .normal (r.set d v) aa Q):qC P f args d D os ay r h Q:=c.mono H
structure Ext (h aa:ag):Prop where
 next:h.next≤aa.next
 get:∀b,Old h b→aa.get b=h.get b
theorem Ext.refl (h:ag):Ext h h:=⟨Nat.le_refl _,fun _ _=>rfl⟩
theorem Ext.b4 {h aa:ag} (e:Ext h aa) {b:aN} (ah:Old h b):Old aa b:=Nat.lt_of_lt_of_le ah e.next
theorem Ext.trans {h aa e7:ag} (e:Ext h aa) (fH:Ext aa e7):Ext h e7:=
 ⟨Nat.le_trans e.next fH.next,fun b ah=>(fH.get b (e.b4 ah)).trans (e.get b ah)⟩
theorem Ext.new {h aa:ag} (e:Ext h aa) (k:cp):Ext h (aa.new k):=
 ⟨Nat.le_succ_of_le e.next,fun b ah=>by
   rw [dT,if_neg (fun q=>(kt (h:=h) ah e.next) ▸ q)]
   exact e.get b ah⟩
theorem Ext.set {h aa:ag} (e:Ext h aa) {i:Nat} (ax:h.next≤i) (k:cp):Ext h (aa.set (ak i) k):=
 ⟨e.next,fun b ah=>by
   rw [cM,if_neg (fun q=>(kt (h:=h) ah ax) ▸ q)]
   exact e.get b ah⟩
theorem Ext.rd {h aa:ag} (e:Ext h aa) {b:aN} (ah:Old h b) {ad:List V} (H:Rd h b ad):Rd aa b ad:=by
 unfold Rd at H ⊢
 rw [e.get b ah]
 exact H
def hZ (h:ag) (b:aN) (off:Nat) (ad:List V):Prop:=Old h b∧∃us,Rd h b us∧off+ad.length≤us.length∧(us.drop off).take ad.length=ad
theorem hZ.ext {h aa:ag} (e:Ext h aa) {b:aN} {off:Nat} {ad:List V} (H:hZ h b off ad):hZ aa b off ad:=by
 obtain ⟨ao,us,ab,af,aK⟩:=H
 exact ⟨e.b4 ao,us,e.rd ao ab,af,aK⟩
theorem hZ.dq {h:ag} {b:aN} {off:Nat} {ad:List V} (H:hZ h b off ad) {i:Nat} (ax:i<ad.length):h9 (h.get b) (off+i)=some ad[i]:=by
 obtain ⟨_,us,ab,af,aK⟩:=H
 rw [ab.dq,List.getElem?_eq_getElem (by omega)]
 congr 1
 have:((us.drop off).take ad.length)[i]? =ad[i]? :=by rw [aK]
 rw [List.getElem?_take_of_lt ax,List.getElem?_drop,List.getElem?_eq_getElem (by omega),List.getElem?_eq_getElem ax] at this
 simpa using this
theorem hZ.gd {h:ag} {b:aN} {off:Nat} {ad:List V} (H:hZ h b off ad) {i n:Nat} (ax:i+n≤ad.length):mR n (h.get b) (off+i)=some (.agg ((ad.drop i).take n)):=by
 obtain ⟨_,us,ab,af,aK⟩:=H
 rw [ab.gd,if_pos (by omega)]
 congr 2
 have:(((us.drop off).take ad.length).drop i).take n=(ad.drop i).take n:=by rw [aK]
 rw [←this,List.drop_take,List.drop_drop,List.take_take]
 congr 1
 omega
def cF (h:ag) (size:Nat) (v:V) (n:Nat) (ad:List V):Prop:=
 ad.length=n * size∧match v with
  | .aF=>n=0
  | .slice b off len _=>len=n∧hZ h b off ad
  | .dp b off len _=>len=n∧hZ h b off ad
  | .gN _ _ _ _=>n=0
  | _=>False
theorem cF.ext {h aa:ag} (e:Ext h aa) {size:Nat} {v:V} {n:Nat} {ad:List V} (H:cF h size v n ad):cF aa size v n ad:=by
 refine ⟨H.1,?_⟩
 have cI:=H.2
 cases v<;>simp only at cI ⊢<;>first | exact cI | exact ⟨cI.1,cI.2.ext e⟩
theorem cF.len {h:ag} {size:Nat} {v:V} {n:Nat} {ad:List V} (H:cF h size v n ad):mT v=some (.int .i64 n):=by
 have cI:=H.2
 cases v<;>simp only at cI<;>first
  | (rw [←cI.1];rfl)
  | (subst cI;rfl)
  | (exact cI.elim)
theorem cF.cl {h:ag} {size:Nat} {v:V} {n:Nat} {ad:List V} (H:cF h size v n ad) {k:IntKind} {i:Nat} (ax:i<n):
 ∃b off,gy size v (.int k i)=some (.ptr b (off+i * size))∧hZ h b off ad:=by
 have cI:=H.2
 cases v<;>simp only at cI<;>first
  | omega
  | (exact cI.elim)
  | skip
 · rename_i b off len cap
   obtain ⟨rfl,ab⟩:=cI
   refine ⟨b,off,?_,ab⟩
   rw [vu,if_pos (by omega)]
   simp
 · rename_i b off len cap
   obtain ⟨rfl,ab⟩:=cI
   refine ⟨b,off,?_,ab⟩
   rw [vt,if_pos (by omega)]
   simp
end
end Go.Proofs.YtjbiefneffiogaaGreat.ba
namespace Go.Proofs.YtjbiefneffiogaaGreat.ba
variable [Lay]
open Go Go.RowKit
structure Mod (M:aN→Prop) (h aa:ag):Prop where
 next:h.next≤aa.next
 get:∀b,Old h b→¬M b→aa.get b=h.get b
theorem Mod.refl (M:aN→Prop) (h:ag):Mod M h h:=⟨Nat.le_refl _,fun _ _ _=>rfl⟩
theorem Mod.b4 {M:aN→Prop} {h aa:ag} (e:Mod M h aa) {b:aN} (ah:Old h b):Old aa b:=Nat.lt_of_lt_of_le ah e.next
theorem Mod.trans {M:aN→Prop} {h aa e7:ag} (e:Mod M h aa) (fH:Mod M aa e7):Mod M h e7:=
 ⟨Nat.le_trans e.next fH.next,fun b ah hm=>(fH.get b (e.b4 ah) hm).trans (e.get b ah hm)⟩
theorem Mod.mono {M GW:aN→Prop} {h aa:ag} (e:Mod M h aa) (hm:∀b,Old h b→M b→GW b):Mod GW h aa:=
 ⟨e.next,fun b ah aX=>e.get b ah fun q=>aX (hm b ah q)⟩
theorem Mod.new {M:aN→Prop} {h aa:ag} (e:Mod M h aa) (k:cp):Mod M h (aa.new k):=
 ⟨Nat.le_succ_of_le e.next,fun b ah hm=>by
   rw [dT,if_neg (fun q=>(kt (h:=h) ah e.next) ▸ q)]
   exact e.get b ah hm⟩
theorem Mod.set {M:aN→Prop} {h aa:ag} (e:Mod M h aa) {b:aN} (ah:Old h b→M b) (k:cp):Mod M h (aa.set b k):=
 ⟨e.next,fun bN eI hm=>by
   rw [cM]
   by_cases q:b=bN
   · subst q
     exact absurd (ah eI) hm
   · rw [if_neg q]
     exact e.get bN eI hm⟩
theorem Ext.mod {h aa:ag} (e:Ext h aa) (M:aN→Prop):Mod M h aa:=⟨e.next,fun b ah _=>e.get b ah⟩
theorem Ext.jk {h aa e7:ag} (e:Ext h aa) {M:aN→Prop} (m:Mod M aa e7) (hm:∀b,M b→h.next≤cd b):Ext h e7:=
 ⟨Nat.le_trans e.next m.next,fun b ah=>by
   have ji:¬M b:=fun q=>by have:=hm b q;unfold Old at ah;omega
   exact (m.get b (e.b4 ah) ji).trans (e.get b ah)⟩
theorem Mod.at {M:aN→Prop} {h aa:ag} (e:Mod M h aa) {b:aN} {off:Nat} {ad:List V} (H:hZ h b off ad) (hm:¬M b):hZ aa b off ad:=by
 obtain ⟨ao,us,ab,af,aK⟩:=H
 refine ⟨e.b4 ao,us,?_,af,aK⟩
 unfold Rd at ab ⊢
 rw [e.get b ao hm]
 exact ab
theorem dC {h:ag} {i:Nat} (ax:i<h.next):Old h (ak i):=by unfold Old;rw [cA];exact ax
theorem sg {h:ag} {b:aN} {i:Nat} (ah:Old h b) (ax:h.next≤i):(b=ak i)=False:=by
 apply eq_false
 intro e
 unfold Old at ah
 rw [e,cA] at ah
 omega
def V.a_:V→aN→Prop
 | .slice b _ _ _,bN=>bN=b
 | .dp b _ _ _,bN=>bN=b
 | _,_=>False
theorem cF.oY {h:ag} {size:Nat} {v:V} {n:Nat} {ad:List V} (H:cF h size v n ad) {k:IntKind} {i:Nat} (ax:i<n):
 ∃b off,gy size v (.int k i)=some (.ptr b (off+i * size))∧hZ h b off ad∧v.a_ b:=by
 have cI:=H.2
 cases v<;>simp only at cI<;>first
  | omega
  | (exact cI.elim)
  | skip
 · rename_i b off len cap
   obtain ⟨rfl,ab⟩:=cI
   refine ⟨b,off,?_,ab,rfl⟩
   rw [vu,if_pos (by omega)]
   simp
 · rename_i b off len cap
   obtain ⟨rfl,ab⟩:=cI
   refine ⟨b,off,?_,ab,rfl⟩
   rw [vt,if_pos (by omega)]
   simp
theorem cF.one {h:ag} {size:Nat} {v:V} {n:Nat} {ad:List V} (H:cF h size v n ad):v.one=true∧v.cells=[v]∧v.ek=true:=by
 have q:=H.2
 cases v<;>simp only at q<;>first | exact ⟨rfl,rfl,rfl⟩ | exact q.elim
theorem cF.mod {M:aN→Prop} {h aa:ag} (e:Mod M h aa) {size:Nat} {v:V} {n:Nat} {ad:List V} (H:cF h size v n ad) (hm:∀b,v.a_ b→¬M b):cF aa size v n ad:=by
 refine ⟨H.1,?_⟩
 have cI:=H.2
 cases v<;>simp only at cI ⊢<;>first | exact cI | exact ⟨cI.1,e.at cI.2 (hm _ rfl)⟩
theorem cF.b4 {h:ag} {size:Nat} {v:V} {n:Nat} {ad:List V} (H:cF h size v n ad) {b:aN} (ah:v.a_ b):Old h b:=by
 have cI:=H.2
 cases v<;>simp only [V.a_] at cI ah<;>first | (exact ah.elim) | (subst ah;exact cI.2.1)
def ca (B:Nat) (h:ag) (size:Nat) (v:V) (n:Nat) (ad:List V):Prop:=
 ad.length=n * size∧match v with
  | .aF=>n=0
  | .slice b off len cap=>len=n∧B≤cd b∧Old h b∧n≤cap∧cap≤top∧∃us cw st,h.get b=.ar us cw st∧off+cap * size≤us.length∧(us.drop off).take ad.length=ad
  | .dp b off len idx=>len=n∧B≤cd b∧Old h b∧off=0∧idx=0∧∃us st,h.get b=.ar us size st∧ad.length≤us.length∧us.take ad.length=ad
  | _=>False
theorem ca.v {B:Nat} {h:ag} {size:Nat} {v:V} {n:Nat} {ad:List V} (H:ca B h size v n ad):cF h size v n ad:=by
 obtain ⟨ab,af⟩:=H
 refine ⟨ab,?_⟩
 cases v<;>simp only at af ⊢<;>first | exact af | skip
 · obtain ⟨aG,_,az,aW,_,us,cw,st,bZ,dW,eT⟩:=af
   refine ⟨aG,az,us,.inr ⟨cw,st,bZ⟩,?_,eT⟩
   rw [ab]
   have:=Nat.mul_le_mul_right size aW
   omega
 · obtain ⟨aG,_,az,aW,_,us,st,bZ,dW,eT⟩:=af
   subst aW
   exact ⟨aG,az,us,.inr ⟨size,st,bZ⟩,by omega,by simpa using eT⟩
theorem ca.base {B:Nat} {h:ag} {size:Nat} {v:V} {n:Nat} {ad:List V} (H:ca B h size v n ad) {b:aN} (ah:v.a_ b):B≤cd b:=by
 have cI:=H.2
 cases v<;>simp only [V.a_] at cI ah<;>first | (exact ah.elim) | (subst ah;exact cI.2.1)
theorem ca.mono {B sG:Nat} {h:ag} {size:Nat} {v:V} {n:Nat} {ad:List V} (H:ca B h size v n ad) (du:sG≤B):ca sG h size v n ad:=by
 refine ⟨H.1,?_⟩
 have cI:=H.2
 cases v<;>simp only at cI ⊢<;>first | exact cI | exact ⟨cI.1,Nat.le_trans du cI.2.1,cI.2.2⟩
theorem ca.mod {M:aN→Prop} {h aa:ag} (e:Mod M h aa) {B size:Nat} {v:V} {n:Nat} {ad:List V} (H:ca B h size v n ad) (hm:∀b,v.a_ b→¬M b):ca B aa size v n ad:=by
 refine ⟨H.1,?_⟩
 have cI:=H.2
 cases v<;>simp only at cI ⊢<;>first | exact cI | skip
 · obtain ⟨aG,az,aW,bZ,dW,us,cw,st,eT,fD⟩:=cI
   exact ⟨aG,az,e.b4 aW,bZ,dW,us,cw,st,by rw [e.get _ aW (hm _ rfl)];exact eT,fD⟩
 · obtain ⟨aG,az,aW,bZ,dW,us,st,eT,fD⟩:=cI
   exact ⟨aG,az,e.b4 aW,bZ,dW,us,st,by rw [e.get _ aW (hm _ rfl)];exact eT,fD⟩
theorem ca.ext {h aa:ag} (e:Ext h aa) {B size:Nat} {v:V} {n:Nat} {ad:List V} (H:ca B h size v n ad):ca B aa size v n ad:=
 H.mod (e.mod fun _=>False) fun _ _ q=>q
theorem Y7 {h:ag} {size:Nat} {v:V} {n:Nat} {ad:List V} (H:cF h size v n ad):mU v=some n:=by
 have cI:=H.2
 cases v<;>simp only at cI<;>first
  | (rw [←cI.1];rfl)
  | (subst cI;rfl)
  | (exact cI.elim)
theorem ys {h:ag} {b:aN} {off size n:Nat} {ad:List V} (H:hZ h b off ad) (aB:ad.length=n * size):p7 h size b off n=some ad:=by
 obtain ⟨_,us,ab,af,aK⟩:=H
 unfold p7
 rw [ab.m5,show Nat.ble (off+n * size) us.length=true from by rw [Nat.ble_eq];omega,xd us _ off (by omega),←aB,aK]
 rfl
theorem acm {h:ag} {size:Nat} {v:V} {n:Nat} {ad:List V} (H:cF h size v n ad):rm h size v n=some ad:=by
 obtain ⟨ab,af⟩:=H
 cases v<;>simp only at af<;>first
  | (exact af.elim)
  | (obtain ⟨_,aK⟩:=af;exact ys aK ab)
  | (subst af
     have:ad=[]:=List.eq_nil_of_length_eq_zero (by omega)
     subst this
     rfl)
theorem ca.grown {B:Nat} {h:ag} {size:Nat} {ad:List V} {n:Nat} {st:Bool} (aB:ad.length=n * size) (du:B≤h.next):ca B (h.new (.ar ad size st)) size (.dp (ak h.next) 0 n 0) n ad:=
 ⟨aB,rfl,by rw [cA];exact du,t_,rfl,rfl,ad,st,gT _,Nat.le_refl _,List.take_length⟩
theorem P' {h:ag} {size:Nat} {s x:V} {m:Nat} {ad:List V} (cI:cF h size x m ad) (hm:m≤top):kJ size s x h=(match s with
 | .aF=>uN size m ad h
 | .slice b off len cap=>uM size b off len cap m ad h
 | .dp b off len idx=>uL size b off len idx m ad h
 | _=>.fail):=by
 unfold kJ
 rw [Y7 cI]
 simp only
 rw [acm cI]
 simp only
 rw [show Nat.ble m top=true from by rw [Nat.ble_eq];exact hm]
 rfl
theorem Ob (A:List V) (o:Nat) (W:List V) (h:o+W.length≤A.length) (q:Nat):(hd A o W)[q]? =if q<o then A[q]? else if q<o+W.length then W[q-o]? else A[q]? :=by
 have aB:(A.take o).length=o:=by rw [List.length_take];omega
 unfold hd
 rw [List.append_assoc]
 by_cases ed:q<o
 · rw [if_pos ed,List.getElem?_append_left (by omega),List.getElem?_take_of_lt ed]
 · rw [if_neg ed,List.getElem?_append_right (by omega),aB]
   by_cases fu:q<o+W.length
   · rw [if_pos fu,List.getElem?_append_left (by omega)]
   · rw [if_neg fu,List.getElem?_append_right (by omega),List.getElem?_drop]
     congr 1
     omega
theorem wb (A:List V) (o j:Nat) (L W:List V) (pB:o+L.length≤A.length) (c2:(A.drop o).take L.length=L) (bC:j+W.length≤L.length):((hd A (o+j) W).drop o).take L.length=hd L j W:=by
 apply List.ext_getElem?
 intro q
 have aB:((A.drop o).take L.length)[q]? =L[q]? :=by rw [c2]
 rw [Ob L j W bC]
 by_cases aM:q<L.length
 · rw [List.getElem?_take_of_lt aM,List.getElem?_drop,Ob A (o+j) W (by omega)]
   rw [List.getElem?_take_of_lt aM,List.getElem?_drop] at aB
   by_cases ed:q<j
   · rw [if_pos (by omega),if_pos ed,aB]
   · rw [if_neg (by omega),if_neg ed]
     by_cases fu:q<j+W.length
     · rw [if_pos (by omega),if_pos fu]
       congr 1
       omega
     · rw [if_neg (by omega),if_neg fu,aB]
 · rw [List.getElem?_take_eq_none (by omega),if_neg (by omega),if_neg (by omega),List.getElem?_eq_none (by omega)]
theorem CJ {B:Nat} {h:ag} {size:Nat} {s x:V} {n m:Nat} {us ad:List V} (eC:1≤size) (H1:ca B h size s n us) (cI:cF h size x m ad) (du:B≤h.next) (hlen:(n+m) * size≤top) (bt:fg ad=true):
 ∃v aa,kJ size s x h=.val v aa∧ca B aa size v (n+m) (us++ad)∧Mod s.a_ h aa∧∀b,v.a_ b→s.a_ b∨h.next≤cd b:=by
 have ji:n+m≤top:=Nat.le_trans (Nat.le_mul_of_pos_right _ eC) hlen
 have gx:=H1.1
 have h7:=cI.1
 have fQ:(us++ad).length=(n+m) * size:=by rw [List.length_append,gx,h7,Nat.add_mul]
 rw [P' cI (by omega)]
 have af:=H1.2
 cases s<;>simp only at af ⊢<;>try (exact af.elim)
 case aF=>
  subst af
  have:us=[]:=List.eq_nil_of_length_eq_zero (by omega)
  subst this
  unfold uN
  by_cases hm:m=0
  · subst hm
    have:ad=[]:=List.eq_nil_of_length_eq_zero (by omega)
    subst this
    exact ⟨.aF,h,rfl,⟨by simp,rfl⟩,Mod.refl _ _,fun b ah=>.inl ah⟩
  · rw [show Nat.beq m 0=false from by rw [←Bool.not_eq_true,Nat.beq_eq];exact hm]
    simp only [cond_false]
    rw [vL (by rw [h7];simpa using hlen) eC]
    refine ⟨_,_,rfl,?_,(Mod.refl _ _).new _,fun b ah=>.inr (by rw [show b=ak h.next from ah,cA];exact Nat.le_refl _)⟩
    have:=ca.grown (B:=B) (h:=h) (size:=size) (ad:=ad) (n:=m) (st:=false) h7 du
    simpa using this
 case slice b off len cap=>
  obtain ⟨rfl,az,aW,bZ,dW,g1,cw,st,eT,fD,fr⟩:=af
  unfold uM
  by_cases aA:len+m≤cap
  · rw [show Nat.ble (len+m) cap=true from by rw [Nat.ble_eq];exact aA]
    simp only [cond_true]
    have gI:off+len * size+ad.length≤g1.length:=by
     have:=Nat.mul_le_mul_right size aA
     rw [Nat.add_mul] at this
     rw [h7]
     omega
    rw [Own.lay (ad:=g1) (cw:=cw) (st:=st) eT gI bt]
    refine ⟨_,_,rfl,⟨fQ,rfl,az,aW,aA,dW,_,cw,st,cM _ _ _ |>.trans (if_pos rfl),?_,?_⟩,(Mod.refl (V.a_ (.slice b off len cap)) h).set (fun _=>rfl) _,fun bN ah=>.inl ah⟩
    · rw [sx _ _ _ gI];exact fD
    · rw [List.length_append]
      unfold hd
      have fm:off+us.length≤g1.length:=by rw [gx];omega
      have aL:g1.take (off+len * size)=g1.take off++us:=by
       rw [←gx,List.take_add,fr]
      rw [aL,List.append_assoc,List.append_assoc,List.drop_append,List.drop_eq_nil_of_le (by rw [List.length_take];omega),List.nil_append]
      rw [show off - (g1.take off).length=0 from by rw [List.length_take];omega,List.drop_zero]
      rw [←List.append_assoc,List.take_left' (by rw [List.length_append])]
  · rw [show Nat.ble (len+m) cap=false from by rw [←Bool.not_eq_true,Nat.ble_eq];exact aA]
    simp only [cond_false]
    rw [show (Nat.ble (len+m) top&&Nat.ble cap top)=true from by simp only [Bool.and_eq_true,Nat.ble_eq];exact ⟨ji,dW⟩]
    simp only [cond_true]
    have f':hZ h b off us:=⟨aW,g1,.inr ⟨cw,st,eT⟩,by rw [gx];have:=Nat.mul_le_mul_right size bZ;omega,fr⟩
    rw [ys f' gx]
    simp only
    rw [vL (by rw [fQ];exact hlen) eC]
    exact ⟨_,_,rfl,ca.grown fQ du,(Mod.refl _ _).new _,fun b ah=>.inr (by rw [show b=ak h.next from ah,cA];exact Nat.le_refl _)⟩
 case dp b off len idx=>
  obtain ⟨rfl,az,aW,rfl,rfl,g1,st,eT,fD,fr⟩:=af
  unfold uL
  by_cases hm:m=0
  · subst hm
    have:ad=[]:=List.eq_nil_of_length_eq_zero (by omega)
    subst this
    exact ⟨_,h,rfl,⟨fQ,rfl,az,aW,rfl,rfl,g1,st,eT,by simpa using fD,by simpa using fr⟩,Mod.refl _ _,fun b ah=>.inl ah⟩
  · rw [show Nat.beq m 0=false from by rw [←Bool.not_eq_true,Nat.beq_eq];exact hm]
    simp only [cond_false]
    rw [eT]
    simp only [cp.ar,cp.on]
    rw [show (Nat.beq size size&&(Nat.ble (len+m) top&&fg ad)&&Nat.beq 0 (0 * size))=true from by
     simp only [Bool.and_eq_true,Nat.beq_eq,Nat.ble_eq]
     exact ⟨⟨trivial,ji,bt⟩,by omega⟩]
    simp only [cond_true]
    have f':hZ h b 0 us:=⟨aW,g1,.inr ⟨size,st,eT⟩,by omega,by simpa using fr⟩
    rw [ys f' gx]
    simp only
    rw [vL (by rw [fQ];exact hlen) eC]
    exact ⟨_,_,rfl,ca.grown (h:=h.set b .dead) fQ du,((Mod.refl (V.a_ (.dp b 0 len 0)) h).set (fun _=>rfl) _).new _,fun bN ah=>.inr (by rw [show bN=ak h.next from ah,cA];exact Nat.le_refl _)⟩
theorem aag {ad ws:List V} (ab:fg ad=true) (af:fg ws=true):fg (ad++ws)=true:=by
 induction ad with
 | nil=>exact af
 | cons v ad bb=>
   simp only [fg,Bool.and_eq_true,List.cons_append] at ab ⊢
   exact ⟨ab.1,bb ab.2⟩
def V.at (v:V) (b:aN) (off:Nat):Prop:=
 match v with
 | .slice bN o _ _=>b=bN∧off=o
 | .dp bN o _ _=>b=bN∧off=o
 | _=>False
theorem Hg {h:ag} {size:Nat} {v:V} {n:Nat} {ad:List V} (H:cF h size v n ad) {k:IntKind} {i:Nat} (ax:i<n) {b:aN} {off:Nat} (e:gy size v (.int k i)=some (.ptr b (off+i * size))):v.at b off:=by
 have cI:=H.2
 cases v<;>simp only at cI<;>first | omega | (exact cI.elim) | skip
 · obtain ⟨rfl,_⟩:=cI
   rw [vu,if_pos (by omega)] at e
   simp only [Option.some.injEq,V.ptr.injEq,Int.toNat_natCast] at e
   exact ⟨e.1.symm,by omega⟩
 · obtain ⟨rfl,_⟩:=cI
   rw [vt,if_pos (by omega)] at e
   simp only [Option.some.injEq,V.ptr.injEq,Int.toNat_natCast] at e
   exact ⟨e.1.symm,by omega⟩
theorem Oc (ad:List V) (c:Nat) (y:V) (h:c<ad.length):hd ad c [y]=ad.set c y:=by
 unfold hd
 rw [List.set_eq_take_append_cons_drop,if_pos h]
 simp
theorem ca.MY {B:Nat} {h:ag} {size:Nat} {v:V} {n:Nat} {ad:List V} (H:ca B h size v n ad) {b:aN} {off:Nat} (bH:v.at b off) {c:Nat} (aA:c<ad.length) {y:V} (br:y.cells=[y]) (bt:y.one=true):
 ∃k,pR 1 h b (off+c) y (h.get b)=some (h.set b k)∧(∀hJ:ag,hJ.get b=h.get b→pR 1 hJ b (off+c) y (h.get b)=some (hJ.set b k))∧ca B (h.set b k) size v n (ad.set c y)∧v.a_ b:=by
 obtain ⟨ab,af⟩:=H
 have vo:fg y.cells=true:=by rw [br];simp [fg,bt]
 cases v<;>simp only at af<;>simp only [V.at] at bH<;>try (exact bH.elim)
 case slice bN o len cap=>
  obtain ⟨rfl,rfl⟩:=bH
  obtain ⟨rfl,az,aW,bZ,dW,g1,cw,st,eT,fD,fr⟩:=af
  have KD:=Nat.mul_le_mul_right size bZ
  have gI:off+c+y.cells.length≤g1.length:=by rw [br];simp;omega
  have e:∀hJ:ag,hJ.get b=h.get b→pR 1 hJ b (off+c) y (h.get b)=some (hJ.set b (.ar (l8 g1 (off+c) y.cells) cw st)):=by
   intro hJ _
   rw [eT]
   exact EP (by rw [br];rfl) vo (by rw [br] at gI;simpa using gI)
  refine ⟨_,e h rfl,e,⟨by simpa using ab,rfl,az,aW,bZ,dW,_,cw,st,cM _ _ _ |>.trans (if_pos rfl),?_,?_⟩,rfl⟩
  · rw [F0 _ _ _ gI];exact fD
  · rw [wa _ _ _ gI,List.length_set]
    have:=wb g1 off c ad y.cells (by rw [ab];omega) fr (by rw [br];simp;omega)
    rw [this,br,Oc ad c y aA]
 case dp bN o len idx=>
  obtain ⟨rfl,rfl⟩:=bH
  obtain ⟨rfl,az,aW,rfl,rfl,g1,st,eT,fD,fr⟩:=af
  have gI:0+c+y.cells.length≤g1.length:=by rw [br];simp;omega
  have e:∀hJ:ag,hJ.get b=h.get b→pR 1 hJ b (0+c) y (h.get b)=some (hJ.set b (.ar (l8 g1 (0+c) y.cells) size st)):=by
   intro hJ _
   rw [eT]
   exact EP (by rw [br];rfl) vo (by rw [br] at gI;simpa using gI)
  refine ⟨_,e h rfl,e,⟨by simpa using ab,rfl,az,aW,rfl,rfl,_,st,cM _ _ _ |>.trans (if_pos rfl),?_,?_⟩,rfl⟩
  · rw [F0 _ _ _ gI,List.length_set];exact fD
  · rw [wa _ _ _ gI,List.length_set]
    have:=wb g1 0 c ad y.cells (by omega) (by simpa using fr) (by rw [br];simp;omega)
    rw [List.drop_zero] at this
    rw [this,br,Oc ad c y aA]
theorem aan (r:bD):aZ.opt r none=none:=(rfl)
theorem aao (r:bD) (x:aZ):aZ.opt r (some x)=some (x.a8 r):=(rfl)
theorem pq {k:IntKind} {m d y:Nat} (h:m≤y):bound (some (.int k (m:Int))) d y=some m:=by
 simp only [bound,V.dD,mS]
 rw [show (decide ((0:Int)≤(m:Int))&&decide ((m:Int)≤(y:Int)))=true from by simp;omega]
 simp
theorem mr (d y:Nat):bound none d y=some d:=rfl
theorem cF.cut {h:ag} {size:Nat} {v:V} {n:Nat} {ad:List V} (H:cF h size v n ad) {k bK:IntKind} {bU ax:Nat} (ab:bU≤ax) (af:ax≤n) (tM tc:Option V)
 (fm:tM=some (.int k bU)∨tM=none∧bU=0) (iq:tc=some (.int bK ax)∨tc=none∧ax=n) (pE:∀b off l c,v=.slice b off l c→l≤c):
 ∃dE,g0 size v tM tc none=some dE∧cF h size dE (ax-bU) ((ad.drop (bU * size)).take ((ax-bU) * size))∧∀b,dE.a_ b→v.a_ b:=by
 obtain ⟨aG,az⟩:=H
 have fQ:((ad.drop (bU * size)).take ((ax-bU) * size)).length=(ax-bU) * size:=by
  rw [List.length_take,List.length_drop,aG]
  have aL:=Nat.mul_le_mul_right size ab
  have bo:=Nat.mul_le_mul_right size af
  rw [Nat.sub_mul]
  omega
 have sX:∀y,bU≤y→bound tM 0 y=some bU:=by
  intro y br
  rcases fm with rfl | ⟨rfl,rfl⟩
  · exact pq br
  · rfl
 have wT:∀d y,n=d→n≤y→bound tc d y=some ax:=by
  intro d y bE br
  rcases iq with rfl | ⟨rfl,rfl⟩
  · exact pq (by omega)
  · rw [mr,bE]
 have piece:∀(b:aN) (off:Nat),hZ h b off ad→hZ h b (off+bU * size) ((ad.drop (bU * size)).take ((ax-bU) * size)):=by
  rintro b off ⟨bB,us,bJ,a3,a4⟩
  have aL:=Nat.mul_le_mul_right size ab
  have bo:=Nat.mul_le_mul_right size af
  refine ⟨bB,us,bJ,?_,?_⟩
  · rw [fQ,Nat.sub_mul];omega
  · rw [fQ,←List.drop_drop]
    have:(us.drop off).drop (bU * size)=(((us.drop off).take ad.length).drop (bU * size))++(us.drop off).drop ad.length:=by
     rw [←List.drop_append_of_le_length (by rw [List.length_take,List.length_drop];omega),List.take_append_drop]
    rw [this,a4,List.take_append_of_le_length (by rw [List.length_drop,aG,Nat.sub_mul];omega)]
 cases v<;>simp only at az<;>try (exact az.elim)
 case aF=>
  subst az
  obtain rfl:ax=0:=by omega
  obtain rfl:bU=0:=by omega
  refine ⟨.aF,?_,⟨fQ,rfl⟩,fun b ah=>ah⟩
  simp only [g0,v',wT 0 0 rfl (Nat.le_refl _),sX 0 (Nat.le_refl _)]
 case slice b off len cap=>
  obtain ⟨rfl,aW⟩:=az
  have aA:=pE b off len cap rfl
  have e:g0 size (.slice b off len cap) tM tc none=some (.slice b (bif Nat.beq cap bU then off else off+bU * size) (ax-bU) (cap-bU)):=by
   simp only [g0,o',wT len cap rfl aA,sX ax ab]
  rw [e]
  refine ⟨_,rfl,⟨fQ,rfl,?_⟩,fun bN ah=>ah⟩
  cases ah:Nat.beq cap bU with
  | false=>exact piece b off aW
  | true=>
    rw [Nat.beq_eq] at ah
    obtain rfl:ax=bU:=by omega
    obtain ⟨bB,us,bJ,a3,a4⟩:=aW
    refine ⟨bB,us,bJ,?_,?_⟩<;>simp
    omega
 case dp b off len idx=>
  obtain ⟨rfl,aW⟩:=az
  by_cases aS:bU<len
  · have e:g0 size (.dp b off len idx) tM tc none=some (.dp b (off+bU * size) (ax-bU) (idx+bU)):=by
     simp only [g0,n3,wT len len rfl (Nat.le_refl _),sX ax ab]
     rw [show Nat.blt bU len=true from by rw [Nat.blt_eq];exact aS]
     rfl
    rw [e]
    exact ⟨_,rfl,⟨fQ,rfl,piece b off aW⟩,fun bN ah=>ah⟩
  · have e:g0 size (.dp b off len idx) tM tc none=some (.gN b off (off+bU * size) (idx+bU)):=by
     simp only [g0,n3,wT len len rfl (Nat.le_refl _),sX ax ab]
     rw [show Nat.blt bU len=false from by rw [←Bool.not_eq_true,Nat.blt_eq];exact aS]
     rfl
    rw [e]
    exact ⟨_,rfl,⟨fQ,by omega⟩,fun bN ah=>ah.elim⟩
 case gN b off mZ idx=>
  subst az
  obtain rfl:ax=0:=by omega
  obtain rfl:bU=0:=by omega
  refine ⟨.gN b off mZ idx,?_,⟨fQ,rfl⟩,fun b ah=>ah⟩
  simp only [g0,v_,wT 0 0 rfl (Nat.le_refl _),sX 0 (Nat.le_refl _)]
theorem ca.cut {B:Nat} {h:ag} {size:Nat} {v:V} {n:Nat} {ad:List V} (H:ca B h size v n ad) {k:IntKind} {m:Nat} (hm:m≤n) (aX:1≤n):
 ∃dE,g0 size v none (some (.int k m)) none=some dE∧ca B h size dE m (ad.take (m * size))∧∀b,dE.a_ b→v.a_ b:=by
 obtain ⟨aG,az⟩:=H
 have aeJ:=Nat.mul_le_mul_right size hm
 have fQ:(ad.take (m * size)).length=m * size:=by rw [List.length_take];omega
 cases v<;>simp only at az<;>try (first | omega | exact az.elim)
 case slice b off len cap=>
  obtain ⟨rfl,aW,bZ,dW,eT,us,cw,st,fD,fr,ky⟩:=az
  have e:g0 size (.slice b off len cap) none (some (.int k m)) none=some (.slice b off m cap):=by
   simp only [g0,o',pq (show m≤cap by omega),mr]
   cases Nat.beq cap 0<;>simp
  rw [e]
  refine ⟨_,rfl,⟨fQ,rfl,aW,bZ,by omega,eT,us,cw,st,fD,fr,?_⟩,fun bN ah=>ah⟩
  rw [fQ,←ky,List.take_take]
  congr 1
  omega
 case dp b off len idx=>
  obtain ⟨rfl,aW,bZ,rfl,rfl,us,st,fD,fr,ky⟩:=az
  have e:g0 size (.dp b 0 len 0) none (some (.int k m)) none=some (.dp b 0 m 0):=by
   simp only [g0,n3,pq hm,mr]
   rw [show Nat.blt 0 len=true from by rw [Nat.blt_eq];omega]
   simp
  rw [e]
  refine ⟨_,rfl,⟨fQ,rfl,aW,bZ,rfl,rfl,us,st,fD,by omega,?_⟩,fun bN ah=>ah⟩
  rw [fQ,←ky,List.take_take]
  congr 1
  omega
theorem ZI (b:aN) (o:Nat):sh (.ptr b o)=some (.ptr b o):=rfl
theorem Zz (k bK:IntKind) (a b:Int):ka (fun b a=>!Int.leB a b) [.int k a,.int bK b]=some (.int k (if b<a then b else a)):=by
 simp only [ka,ud,V.dD,mS]
 by_cases h:b<a
 · rw [if_pos h]
   have:¬a≤b:=by omega
   simp [this]
 · rw [if_neg h]
   have:a≤b:=by omega
   simp [this]
theorem ZA (k bK:IntKind) (a b:Int):ka (fun b a=>!Int.leB b a) [.int k a,.int bK b]=some (.int k (if a<b then b else a)):=by
 simp only [ka,ud,V.dD,mS]
 by_cases h:a<b
 · rw [if_pos h]
   have:¬b≤a:=by omega
   simp [this]
 · rw [if_neg h]
   have:b≤a:=by omega
   simp [this]
theorem hZ.cell {h:ag} {b:aN} {off:Nat} {ad:List V} (H:hZ h b off ad) {i j n:Nat} {ws:List V} (hw:(ad.drop i).take n=ws) (ax:i+n≤ad.length) (bC:j<n):h9 (h.get b) (off+i+j)=ws[j]? :=by
 rw [Nat.add_assoc,H.dq (by omega),←hw,List.getElem?_take_of_lt bC,List.getElem?_drop,List.getElem?_eq_getElem]
end Go.Proofs.YtjbiefneffiogaaGreat.ba
namespace Go.Proofs.YtjbiefneffiogaaGreat.ba
variable [Lay]
open Go Go.RowKit
set_option linter.defProp false
end Go.Proofs.YtjbiefneffiogaaGreat.ba
namespace Go.Proofs.YtjbiefneffiogaaGreat.ba
variable [Lay]
open Go Go.RowKit
theorem SL {P:Program} {ay:List hK} {r:bD} {h:ag} {Q:cr→bD→ag→Prop} {a b:bL}:uV P (.bool true) a b ay r h Q=bx P (.c a::ay) .normal r h Q:=by
 rw [Js];simp
theorem SK {P:Program} {ay:List hK} {r:bD} {h:ag} {Q:cr→bD→ag→Prop} {a b:bL}:uV P (.bool false) a b ay r h Q=bx P (.c b::ay) .normal r h Q:=by
 rw [Js];simp
theorem sV (a b:List UInt8):mq a b=decide (a=b):=by
 rw [uT,Bool.eq_iff_iff]
 simp
theorem CO (k:IntKind) (b:Int) (d y:Nat):bound (some (.int k b)) d y=if 0≤b∧b≤(y:Int) then some b.toNat else none:=by
 simp only [bound,V.dD,mS]
 by_cases ab:0≤b<;>by_cases af:b≤(y:Int)<;>simp [ab,af]
theorem acb (s:List UInt8) (k:IntKind) (b:Int):k' (.str s) none (some (.int k b)) none=if 0≤b∧b≤(s.length:Int) then some (.str (s.take b.toNat)) else none:=by
 simp only [k',CO]
 by_cases h:0≤b∧b≤(s.length:Int)
 · simp only [h,and_self,if_true,bound,List.drop_zero,Nat.sub_zero]
 · simp only [h,if_false]
theorem acd (s:List UInt8) (k:IntKind) (a:Int):k' (.str s) (some (.int k a)) none none=if 0≤a∧a≤(s.length:Int) then some (.str (s.drop a.toNat)) else none:=by
 simp only [k',mr,CO]
 by_cases h:0≤a∧a≤(s.length:Int)
 · simp only [h,and_self,if_true]
   rw [List.take_of_length_le (by rw [List.length_drop];omega)]
 · simp only [h,if_false]
theorem N4 (s:List UInt8) (k bK:IntKind) (a b:Int):k' (.str s) (some (.int k a)) (some (.int bK b)) none=if 0≤a∧a≤b∧b≤(s.length:Int) then some (.str ((s.drop a.toNat).take (b.toNat-a.toNat))) else none:=by
 simp only [k',CO]
 by_cases h:0≤b∧b≤(s.length:Int)
 · simp only [h,and_self,if_true]
   by_cases af:0≤a∧a≤b
   · have:0≤a∧a≤((b.toNat:Nat):Int):=by omega
     simp only [this,and_self,if_true,af,h]
   · have aK:¬(0≤a∧a≤((b.toNat:Nat):Int)):=by omega
     have bM:¬(0≤a∧a≤b∧b≤(s.length:Int)):=by omega
     have e8:¬(0≤a∧a≤b∧True):=fun q=>af ⟨q.1,q.2.1⟩
     rw [if_neg e8,if_neg aK]
 · have bM:¬(0≤a∧a≤b∧b≤(s.length:Int)):=by omega
   simp only [h,bM,if_false]
theorem aca (s:List UInt8):k' (.str s) none none none=some (.str s):=by
 simp only [k',mr,List.drop_zero,Nat.sub_zero,List.take_length]
section
variable {P:Program}
theorem NR (a b:List UInt8):(dO.str .eql).run P (.str a) (.str b)=some (.bool (decide (a=b))):=by simp only [dO.run,rn,p9,sV]
theorem NQ (a b:List UInt8):(dO.str .add).run P (.str a) (.str b)=if a.length+b.length≤top then some (.str (a++b)) else none:=by
 simp only [dO.run,rn,Bw]
 by_cases h:a.length+b.length≤top
 · rw [if_pos h,show Nat.ble (a.length+b.length) top=true from by rw [Nat.ble_eq];exact h]
   rfl
 · rw [if_neg h,show Nat.ble (a.length+b.length) top=false from by rw [←Bool.not_eq_true,Nat.ble_eq];exact h]
   rfl
theorem NS (s:List UInt8) (k:IntKind) (i:Int):pL.run (.str s) (.int k i)=if 0≤i∧i < (s.length:Int) then some (.int .u8 (((s[i.toNat]?).getD 0).toNat:Int)) else none:=by
 simp only [pL,V.dD,mS]
 by_cases ab:0≤i
 · simp only [ab,decide_true,cond_true,true_and]
   by_cases af:i < (s.length:Int)
   · rw [if_pos af,List.getElem?_eq_getElem (by omega)]
     rfl
   · rw [if_neg af,List.getElem?_eq_none (by omega)]
 · simp only [ab,decide_false,cond_false,false_and,if_false]
theorem abS (a b:List UInt8):(dO.str .neq).run P (.str a) (.str b)=some (.bool (!decide (a=b))):=by simp only [dO.run,rn,p9,sV]
end
end Go.Proofs.YtjbiefneffiogaaGreat.ba
namespace Go.Proofs.YtjbiefneffiogaaGreat.ba
open Go Go.RowKit
set_option linter.defProp false
def adq:=
 And.intro @XH<|And.intro @WU<|And.intro @XR<|And.intro @WV<|And.intro @XN<|And.intro @XS<|And.intro @XP<|And.intro @Xc<|And.intro @W6<|And.intro @W2<|And.intro @W4<|And.intro @Xx<|And.intro @Xa<|And.intro @XK<|And.intro @XD<|And.intro @Yv<|And.intro @XL<|And.intro @YA<|And.intro @WZ<|And.intro @X5<|And.intro @Xp<|And.intro @Yl<|And.intro @Xq<|And.intro @Ym<|And.intro @XI<|And.intro @Yy<|And.intro @WT<|And.intro @X2<|And.intro @XX<|And.intro @YF<|And.intro @Xh<|And.intro @Yf<|And.intro @Xm<|And.intro @Yi<|And.intro @XU<|And.intro @YD<|And.intro @XT<|And.intro @YC<|And.intro @Xe<|@Yc
def adr:=
 And.intro @Xf<|And.intro @Yd<|And.intro @Xg<|And.intro @Ye<|And.intro @Xk<|And.intro @Yg<|And.intro @Xl<|And.intro @Yh<|And.intro @Xo<|And.intro @Yk<|And.intro @Xn<|And.intro @Yj<|And.intro @Xw<|And.intro @Yr<|And.intro @Xd<|And.intro @Yb<|And.intro @XB<|And.intro @Yu<|And.intro @XE<|And.intro @Yw<|And.intro @W8<|And.intro @X'<|And.intro @Xt<|And.intro @Yp<|And.intro @Xu<|And.intro @Yq<|And.intro @Xr<|And.intro @Yn<|And.intro @XG<|And.intro @Yx<|And.intro @WX<|And.intro @X3<|And.intro @WY<|And.intro @X4<|And.intro @XV<|And.intro @YE<|And.intro @XA<|And.intro @Yt<|And.intro @Aq<|@YG
def ads:=
 And.intro @Xz<|And.intro @Ys<|And.intro @XQ<|And.intro @YB<|And.intro @XJ<|And.intro @Yz<|And.intro @WR<|And.intro @X1<|And.intro @W5<|And.intro @X8<|And.intro @Xs<|And.intro @Yo<|And.intro @W7<|And.intro @X9<|And.intro @W'<|And.intro @Ya<|And.intro @W9<|And.intro @X_<|And.intro @X6<|And.intro @X7<|And.intro @W0<|And.intro @W1<|@W_
def adt:=
 And.intro @acF<|And.intro @FZ<|And.intro @SL<|And.intro @SK<|And.intro @Sc<|And.intro @abv<|And.intro @QE<|And.intro @QC<|And.intro @aaq<|And.intro @Tq<|And.intro @Tp<|And.intro @QG<|And.intro @Tg<|And.intro @Tf<|And.intro @aaG<|And.intro @Ti<|And.intro @Z3<|And.intro @Z2<|And.intro @Y'<|And.intro @Y8<|And.intro @Y_<|And.intro @Y9<|And.intro @Za<|And.intro @vu<|And.intro @vt<|And.intro @SZ<|And.intro @zB<|And.intro @u2<|And.intro @acR<|And.intro @abZ<|And.intro @ab0<|And.intro @ZV<|And.intro @ZW<|And.intro @aap<|And.intro @aam<|And.intro @ada<|And.intro @ac_<|And.intro @Qv<|And.intro @Qw<|@Qx
def adu:=
 And.intro @Qy<|And.intro @Qu<|And.intro @Pk<|And.intro @Pm<|And.intro @Pl<|And.intro @acO<|And.intro @acQ<|And.intro @acP<|And.intro @WJ<|And.intro @WL<|And.intro @WK<|And.intro @WQ<|And.intro @XW<|And.intro @XC<|And.intro @Xb<|And.intro @XF<|And.intro @Xy<|And.intro @Xv<|And.intro @Xj<|And.intro @Xi<|And.intro @WS<|And.intro @WW<|And.intro @acY<|And.intro @acX<|And.intro @Zd<|And.intro @Ze<|And.intro @sd<|And.intro @LF<|And.intro @ET<|And.intro @LH<|And.intro @acB<|And.intro @YU<|And.intro @gT<|And.intro @dT<|And.intro @cM<|And.intro @gg<|And.intro @cH<|And.intro @fA<|And.intro @ZG<|@Sl
def adv:=
 And.intro @Z4<|And.intro @TP<|And.intro @Sq<|And.intro @AS<|And.intro @mG<|And.intro @Sz<|And.intro @aae<|And.intro @T1<|And.intro @Sv<|And.intro @aaa<|And.intro @TX<|And.intro @Sx<|And.intro @aac<|And.intro @TZ<|And.intro @Sy<|And.intro @aad<|And.intro @T0<|And.intro @Sn<|And.intro @Z6<|And.intro @TR<|And.intro @SA<|And.intro @aaf<|And.intro @T2<|And.intro @Sw<|And.intro @aab<|And.intro @TY<|And.intro @Su<|And.intro @Z_<|And.intro @TW<|And.intro @Sr<|And.intro @Z8<|And.intro @TT<|And.intro @Sm<|And.intro @Z5<|And.intro @TQ<|And.intro @St<|And.intro @Z'<|And.intro @TV<|And.intro @Sp<|@Z7
def adw:=
 And.intro @TS<|And.intro @Ss<|And.intro @Z9<|And.intro @TU<|And.intro @Sk<|And.intro @TO<|And.intro @T3<|And.intro @Y0<|And.intro @Y1<|And.intro @YZ<|And.intro @beq_true<|And.intro @beq_false<|And.intro @Bool.not_true<|And.intro @Bool.not_false<|And.intro @Bool.true_and<|And.intro @Bool.and_true<|And.intro @Bool.false_and<|And.intro @Bool.and_false<|And.intro @Bool.not_not<|And.intro @V.bool.injEq<|And.intro @Nat.zero_add<|And.intro @Nat.add_zero<|And.intro @acL<|And.intro @acM<|And.intro @acK<|And.intro @Bool.true_eq_false<|And.intro @Bool.false_eq_true<|And.intro @acN<|And.intro @aaM<|And.intro @aaN<|And.intro @Qk<|And.intro @Qj<|And.intro @Qg<|And.intro @Qc<|And.intro @UD<|And.intro @UF<|And.intro @UE<|And.intro @Qd<|And.intro @Qe<|@Qh
def adx:=
 And.intro @Qi<|And.intro @tV<|And.intro @adH<|And.intro @tW<|And.intro @adI<|And.intro @tX<|And.intro @adJ<|And.intro @tY<|And.intro @adK<|And.intro @ZO<|And.intro @adL<|And.intro @ZP<|And.intro @adM<|And.intro @ZQ<|And.intro @adN<|And.intro @ZR<|And.intro @adO<|And.intro @TG<|And.intro @TD<|And.intro @TF<|And.intro @TE<|And.intro @TH<|And.intro @Bool.or_false<|And.intro @Bool.false_or<|And.intro @Bool.or_true<|And.intro @Bool.true_or<|And.intro @ZI<|And.intro @Zz<|And.intro @ZA<|And.intro @aan<|And.intro @aao<|And.intro @PQ<|And.intro @PW<|And.intro @PX<|And.intro @PY<|And.intro @PZ<|And.intro @P0<|And.intro @P1<|And.intro @P2<|@P3
def ady:=
 And.intro @PO<|And.intro @PR<|And.intro @PS<|And.intro @PT<|And.intro @PU<|And.intro @PV<|And.intro @acb<|And.intro @acd<|And.intro @N4<|And.intro @aca<|And.intro @NR<|And.intro @abS<|And.intro @NQ<|@NS
end Go.Proofs.YtjbiefneffiogaaGreat.ba
namespace Go.Proofs.YtjbiefneffiogaaGreat.ba
variable [Lay]
open Go Go.RowKit
theorem oo {B:Nat} {h:ag} {size:Nat} {s:V} {n:Nat} {us cs:List V} (eC:1≤size) (H1:ca B h size s n us) (du:B≤h.next) (hlen:(n+1) * size≤top) (j4:cs.length=size) (bt:fg cs=true):
 ∃v aa,kJ size s (.slice (ak h.next) 0 1 1) (h.new (.ar cs 0 false))=.val v aa∧ca B aa size v (n+1) (us++cs)∧Mod s.a_ h aa∧h.next+1≤aa.next∧∀b,v.a_ b→s.a_ b∨h.next<cd b:=by
 have an:Ext h (h.new (.ar cs 0 false)):=(Ext.refl h).new _
 have a6:cF (h.new (.ar cs 0 false)) size (.slice (ak h.next) 0 1 1) 1 cs:=by
  refine ⟨by rw [j4];omega,rfl,dC (by rw [cH];omega),cs,.inr ⟨0,false,by rw [gT]⟩,by omega,by simp⟩
 obtain ⟨v,aa,aG,az,aW,bZ⟩:=CJ eC (H1.ext an) a6 (by rw [cH];omega) hlen bt
 refine ⟨v,aa,aG,az,(an.mod _).trans aW,by have:=aW.next;rw [cH] at this;exact this,fun b ah=>?_⟩
 rcases bZ b ah with q | q
 · exact .inl q
 · exact .inr (by rw [cH] at q;omega)
theorem F8:∀l:List UInt8,m8 (dZ l)=some l
 | []=>rfl
 | c::l=>by
   have bb:=F8 l
   simp only [dZ,m8,bb]
   simp
theorem pr:∀l:List UInt8,(dZ l).length=l.length
 | []=>rfl
 | c::l=>by simp only [dZ,List.length_cons,pr l]
theorem CT:∀l m:List UInt8,dZ (l++m)=dZ l++dZ m
 | [],m=>rfl
 | c::l,m=>by simp only [dZ,List.cons_append,CT l m]
theorem Hv:∀l:List UInt8,fg (dZ l)=true
 | []=>rfl
 | c::l=>by
   have bb:=Hv l
   simp only [dZ,fg,bb,AS,Bool.and_true]
theorem F2 {h:ag} {b:aN} {us:List V} {cw:Nat} {st:Bool} {off:Nat} {l:List UInt8} (a1:h.get b=.ar us cw st) (aB:off+l.length≤us.length) (hu:(us.drop off).take l.length=dZ l):o_ b off l.length h=.val (.str l) h:=by
 unfold o_
 rw [a1]
 simp only [cp.m5,cp.ar]
 rw [show Nat.ble (off+l.length) us.length=true from by rw [Nat.ble_eq];exact aB]
 simp only [cond_true]
 rw [xd us l.length off aB,hu,F8]
theorem SP {B:Nat} {h:ag} {v:V} {n:Nat} {l:List UInt8} (H:ca B h 1 v n (dZ l)):mw.run v h=.val (.str l) h:=by
 have ab:=H.1
 rw [pr,Nat.mul_one] at ab
 have af:=H.2
 cases v<;>simp only at af<;>try (exact af.elim)
 case aF=>
  subst af
  rw [List.length_eq_zero_iff] at ab
  subst ab
  rfl
 case slice=>
  obtain ⟨aG,az,aW,bZ,dW,us,cw,st,eT,fD,fr⟩:=af
  rw [pr] at fr
  simp only [mw]
  rw [aG,←ab]
  exact F2 eT (by omega) fr
 case dp=>
  obtain ⟨aG,az,aW,bZ,dW,us,st,eT,fD,fr⟩:=af
  rw [pr] at fr fD
  simp only [mw]
  rw [aG,bZ,←ab]
  exact F2 eT (by omega) (by simpa using fr)
noncomputable def CI (size:Nat) (s:V) (m:Nat) (ad:List V) (h:ag):bh:=match s with
 | .aF=>uN size m ad h
 | .slice b off len cap=>uM size b off len cap m ad h
 | .dp b off len idx=>uL size b off len idx m ad h
 | _=>.fail
theorem Qa {B:Nat} {h:ag} {size:Nat} {s x:V} {n m:Nat} {us ad:List V} (eC:1≤size) (H1:ca B h size s n us) (h7:ad.length=m * size) (Ua:kJ size s x h=CI size s m ad h) (du:B≤h.next) (hlen:(n+m) * size≤top) (bt:fg ad=true):
 ∃v aa,kJ size s x h=.val v aa∧ca B aa size v (n+m) (us++ad)∧Mod s.a_ h aa∧∀b,v.a_ b→s.a_ b∨h.next≤cd b:=by
 have ji:n+m≤top:=Nat.le_trans (Nat.le_mul_of_pos_right _ eC) hlen
 have gx:=H1.1
 have fQ:(us++ad).length=(n+m) * size:=by rw [List.length_append,gx,h7,Nat.add_mul]
 rw [Ua]
 unfold CI
 have af:=H1.2
 cases s<;>simp only at af ⊢<;>try (exact af.elim)
 case aF=>
  subst af
  have:us=[]:=List.eq_nil_of_length_eq_zero (by omega)
  subst this
  unfold uN
  by_cases hm:m=0
  · subst hm
    have:ad=[]:=List.eq_nil_of_length_eq_zero (by omega)
    subst this
    exact ⟨.aF,h,rfl,⟨by simp,rfl⟩,Mod.refl _ _,fun b ah=>.inl ah⟩
  · rw [show Nat.beq m 0=false from by rw [←Bool.not_eq_true,Nat.beq_eq];exact hm]
    simp only [cond_false]
    rw [vL (by rw [h7];simpa using hlen) eC]
    refine ⟨_,_,rfl,?_,(Mod.refl _ _).new _,fun b ah=>.inr (by rw [show b=ak h.next from ah,cA];exact Nat.le_refl _)⟩
    have:=ca.grown (B:=B) (h:=h) (size:=size) (ad:=ad) (n:=m) (st:=false) h7 du
    simpa using this
 case slice b off len cap=>
  obtain ⟨rfl,az,aW,bZ,dW,g1,cw,st,eT,fD,fr⟩:=af
  unfold uM
  by_cases aA:len+m≤cap
  · rw [show Nat.ble (len+m) cap=true from by rw [Nat.ble_eq];exact aA]
    simp only [cond_true]
    have gI:off+len * size+ad.length≤g1.length:=by
     have:=Nat.mul_le_mul_right size aA
     rw [Nat.add_mul] at this
     rw [h7]
     omega
    rw [Own.lay (ad:=g1) (cw:=cw) (st:=st) eT gI bt]
    refine ⟨_,_,rfl,⟨fQ,rfl,az,aW,aA,dW,_,cw,st,cM _ _ _ |>.trans (if_pos rfl),?_,?_⟩,(Mod.refl (V.a_ (.slice b off len cap)) h).set (fun _=>rfl) _,fun bN ah=>.inl ah⟩
    · rw [sx _ _ _ gI];exact fD
    · rw [List.length_append]
      unfold hd
      have fm:off+us.length≤g1.length:=by rw [gx];omega
      have aL:g1.take (off+len * size)=g1.take off++us:=by
       rw [←gx,List.take_add,fr]
      rw [aL,List.append_assoc,List.append_assoc,List.drop_append,List.drop_eq_nil_of_le (by rw [List.length_take];omega),List.nil_append]
      rw [show off - (g1.take off).length=0 from by rw [List.length_take];omega,List.drop_zero]
      rw [←List.append_assoc,List.take_left' (by rw [List.length_append])]
  · rw [show Nat.ble (len+m) cap=false from by rw [←Bool.not_eq_true,Nat.ble_eq];exact aA]
    simp only [cond_false]
    rw [show (Nat.ble (len+m) top&&Nat.ble cap top)=true from by simp only [Bool.and_eq_true,Nat.ble_eq];exact ⟨ji,dW⟩]
    simp only [cond_true]
    have f':hZ h b off us:=⟨aW,g1,.inr ⟨cw,st,eT⟩,by rw [gx];have:=Nat.mul_le_mul_right size bZ;omega,fr⟩
    rw [ys f' gx]
    simp only
    rw [vL (by rw [fQ];exact hlen) eC]
    exact ⟨_,_,rfl,ca.grown fQ du,(Mod.refl _ _).new _,fun b ah=>.inr (by rw [show b=ak h.next from ah,cA];exact Nat.le_refl _)⟩
 case dp b off len idx=>
  obtain ⟨rfl,az,aW,rfl,rfl,g1,st,eT,fD,fr⟩:=af
  unfold uL
  by_cases hm:m=0
  · subst hm
    have:ad=[]:=List.eq_nil_of_length_eq_zero (by omega)
    subst this
    exact ⟨_,h,rfl,⟨fQ,rfl,az,aW,rfl,rfl,g1,st,eT,by simpa using fD,by simpa using fr⟩,Mod.refl _ _,fun b ah=>.inl ah⟩
  · rw [show Nat.beq m 0=false from by rw [←Bool.not_eq_true,Nat.beq_eq];exact hm]
    simp only [cond_false]
    rw [eT]
    simp only [cp.ar,cp.on]
    rw [show (Nat.beq size size&&(Nat.ble (len+m) top&&fg ad)&&Nat.beq 0 (0 * size))=true from by
     simp only [Bool.and_eq_true,Nat.beq_eq,Nat.ble_eq]
     exact ⟨⟨trivial,ji,bt⟩,by omega⟩]
    simp only [cond_true]
    have f':hZ h b 0 us:=⟨aW,g1,.inr ⟨size,st,eT⟩,by omega,by simpa using fr⟩
    rw [ys f' gx]
    simp only
    rw [vL (by rw [fQ];exact hlen) eC]
    exact ⟨_,_,rfl,ca.grown (h:=h.set b .dead) fQ du,((Mod.refl (V.a_ (.dp b 0 len 0)) h).set (fun _=>rfl) _).new _,fun bN ah=>.inr (by rw [show bN=ak h.next from ah,cA];exact Nat.le_refl _)⟩
theorem Qb {B:Nat} {h:ag} {s:V} {n:Nat} {us:List V} (t:List UInt8) (H1:ca B h 1 s n us) (du:B≤h.next) (hlen:n+t.length≤top):
 ∃v aa,kJ 1 s (.str t) h=.val v aa∧ca B aa 1 v (n+t.length) (us++dZ t)∧Mod s.a_ h aa∧∀b,v.a_ b→s.a_ b∨h.next≤cd b:=by
 refine Qa (by omega) H1 (by rw [pr,Nat.mul_one]) ?_ du (by omega) (Hv t)
 have aX:Nat.ble t.length top=true:=by rw [Nat.ble_eq];omega
 have lY:rm h 1 (.str t) t.length=some (dZ t):=by
  simp only [rm]
  rw [show Nat.ble t.length t.length=true from by rw [Nat.ble_eq];exact Nat.le_refl _,List.take_length]
  rfl
 unfold kJ CI
 simp only [mU]
 rw [lY]
 simp only [aX]
 rfl
theorem acC {h:ag} {b:aN} {us:List V} {off:Nat} {l:List UInt8} (a1:h.get b=.ro us) (aB:off+l.length≤us.length) (hu:(us.drop off).take l.length=dZ l):o_ b off l.length h=.val (.str l) h:=by
 unfold o_
 rw [a1]
 simp only [cp.m5,cp.ro]
 rw [show Nat.ble (off+l.length) us.length=true from by rw [Nat.ble_eq];exact aB]
 simp only [cond_true]
 rw [xd us l.length off aB,hu,F8]
theorem Jt {h:ag} {v:V} {n:Nat} {l:List UInt8} (H:cF h 1 v n (dZ l)):mw.run v h=.val (.str l) h:=by
 have ab:=H.1
 rw [pr,Nat.mul_one] at ab
 have af:=H.2
 have key:∀(b:aN) (off:Nat),hZ h b off (dZ l)→o_ b off l.length h=.val (.str l) h:=by
  intro b off ⟨_,us,aG,az,aW⟩
  rw [pr] at az aW
  rcases aG with aG | ⟨cw,st,aG⟩
  · exact acC aG az aW
  · exact F2 aG az aW
 cases v<;>simp only at af<;>try (exact af.elim)
 case aF=>
  subst af
  rw [List.length_eq_zero_iff] at ab
  subst ab
  rfl
 case slice=>
  simp only [mw]
  rw [af.1,←ab]
  exact key _ _ af.2
 case dp=>
  simp only [mw]
  rw [af.1,←ab]
  exact key _ _ af.2
 case gN=>
  subst af
  rw [List.length_eq_zero_iff] at ab
  subst ab
  rfl
end Go.Proofs.YtjbiefneffiogaaGreat.ba
namespace Go.Proofs.YtjbiefneffiogaaGreat.ba
variable [Lay]
set_option linter.defProp false
open Go Go.RowKit
def ai:=And.intro @adq<|And.intro @adr @ads
def adh:=And.intro @adt<|And.intro @adu<|And.intro @adv<|And.intro @adw<|And.intro @adx @ady
def adi:=And.intro @Option.isSome_some.{0}<|And.intro @Option.getD_some.{0}<|And.intro @if_true.{1}<|And.intro @if_false.{1}<|And.intro @true_and<|And.intro @and_true<|And.intro @List.getElem?_cons_zero.{0}<|And.intro @List.getElem?_cons_succ.{0}<|And.intro @List.length_cons.{0}<|And.intro @List.length_nil.{0}<|
 And.intro @List.drop_zero.{0}<|And.intro @List.drop_succ_cons.{0}<|And.intro @List.take_succ_cons.{0}<|And.intro @List.take_zero.{0}<|And.intro @List.cons_append.{0}<|And.intro @List.nil_append.{0}<|And.intro @Option.some.injEq.{0}<|And.intro @exists_eq_left'.{1}<|And.intro @List.cons.injEq.{0}<|
 And.intro @Nat.succ_ne_zero<|And.intro @WA<|And.intro @Wz<|And.intro @List.getElem?_nil.{0}<|And.intro @decide_true<|And.intro @decide_false<|And.intro @eq_self.{1}<|And.intro @not_true_eq_false<|And.intro @not_false_eq_true<|And.intro @ite_true.{1} @ite_false.{1}
end Go.Proofs.YtjbiefneffiogaaGreat.ba
