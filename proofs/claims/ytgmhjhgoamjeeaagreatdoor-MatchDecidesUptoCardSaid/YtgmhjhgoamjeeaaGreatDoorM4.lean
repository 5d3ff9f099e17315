/- The abstract machine and its walks (a verified interpreter of the model's code: plain definitions and lemmas, no condition). Printed by a program from longer texts: names made short. -/
import Derived.Test.YtgmhjhgoamjeeaaGreatDoorM3
import Derived.IntWalk
import Derived.ChangeArms
import Derived.DataReads
import Derived.ChangeBears
import Derived.Carry
import Derived.OpenShut
import Derived.ChangeSame
import Derived.Handed
import Derived.HandedShaped
set_option linter.unusedSectionVars false
set_option linter.unusedSimpArgs false
set_option linter.unusedVariables false
set_option maxHeartbeats 64000000
noncomputable section
namespace Go.Proofs.YtgmhjhgoamjeeaaGreatDoor.aX
section
open Go Go.RowKit
variable [Lay]
def e4 (P:Program) (f:FuncId) (args:List V) (h:ae) (v:V) (ab:ae):Prop:=
 f≠dB/\(((∃fn,P.funcs[f]? =some fn/\fn.body.isSome=true)/\∀(aA:Fr) E w xs,bh E args xs->ba aA E h w->
  Calls P f xs.toArray w fun e w'=>∃au x,e=.returned x/\E.le au/\Rel au v x/\ba aA au ab w')\/
 ∀(aA:Fr) E w xs,bh E args xs->ba aA E h w->∃au x w',(callFunc f xs.toArray).run P w=.ok (.value x) w'/\E.le au/\Rel au v x/\ba aA au ab w')
def N_ (P:Program) (args:List V) (b:aM) (h:ae) (v:V) (ab:ae):Prop:=
 ∀(aA:Fr) E w xs p,bh E args xs->ba aA E h w->E b=some p->
  ∃f tmps assign body,(Instr.yield p.aZ xs.toArray).run P w=.ok (.round p.aZ f tmps assign body) w/\
   RoundIn (ca none) 0 P p.aZ f tmps assign body w fun e w'=>∃au x,e=.returned x/\E.le au/\Rel au v x/\ba aA au ab w'
theorem e4.calls {P:Program} (bF:eg P) {f:FuncId} {args:List V} {h ab:ae} {v:V} (H:e4 P f args h v ab) (ah:∃fn,P.funcs[f]? =some fn/\fn.body.isSome=true) (aA:Fr) (E:Env) (w:World) (xs:List Value) (ak:bh E args xs) (s:ba aA E h w):
 Calls P f xs.toArray w fun e w'=>∃au x,e=.returned x/\E.le au/\Rel au v x/\ba aA au ab w':=by
 rcases H.2 with ⟨_,H⟩ | H
 . exact H aA E w xs ak s
 . obtain ⟨au,x,w',aD,_⟩:=H aA E w xs ak s;obtain ⟨fn,aa,ad⟩:=ah;rw [vp bF aa ad] at aD;cases aD
def cR (P:Program) (f:FuncId) (args:List V) (h:ae) (K:V->ae->Prop):Prop:=∃v ab,e4 P f args h v ab/\K v ab
def YY (P:Program) (args:List V) (b:aM) (h:ae) (K:V->ae->Prop):Prop:=∃v ab,N_ P args b h v ab/\K v ab
def Oa (P:Program) (xs:List V) (h:ae) (K:V->ae->Prop):Prop:=∃cx b,xs=cx++[.ptr b 0]/\YY P cx b h K
def Dl (P:Program) (g:FuncId) (xs:List V) (h:ae) (K:V->ae->Prop):Prop:=if g=dB then Oa P xs h K else cR P g xs h K
def V.target (v:V) (args:List V):Option (FuncId × List V):=
 match v with
 | .func g cs=>some (g,args++cs)
 | .me g cs=>some (g,cs++args)
 | _=>none
theorem Vb {v:V} {args xs:List V} {g:FuncId} (h:v.target args=some (g,xs)) (F:FuncId->List V->a'):v.zw args F=F g xs:=by
 cases v<;>simp only [V.target] at h<;>try (cases h;done)
 all_goals (simp only [arq,asi] at h;obtain ⟨rfl,rfl⟩:=h;rfl)
theorem cR.mono {P:Program} {f:FuncId} {args:List V} {h:ae} {K n5:V->ae->Prop} (c:cR P f args h K) (aB:∀v ab,K v ab->n5 v ab):cR P f args h n5:=by obtain ⟨v,ab,al,ao⟩:=c;exact ⟨v,ab,al,aB v ab ao⟩
def lN:dT:=fun _ _ _=>.fail
theorem Gh (P:Program):gN P lN/\g_ P lN:=
 ⟨⟨fun _ f args h v ab _ he=>by simp [lN] at he,fun _ f args h v ab _ he=>by simp [lN] at he,fun _ args b h v ab he=>by simp [lN] at he,fun args h v ab he=>by simp [lN] at he⟩,fun f args h v ab he=>by simp [lN] at he⟩
open Classical in
def nR (f:FuncId) (args:List V) (h:ae) (v:V) (ab:ae):dT:=
 fun f1 bE aa=>if f1=f/\bE=args/\aa=h then .val v ab else .fail
theorem Vl {P:Program} {f:FuncId} {args:List V} {h ab:ae} {v:V} (H:e4 P f args h v ab):gN P (nR f args h v ab)/\g_ P (nR f args h v ab):=by
 refine ⟨⟨fun aA f1 bE aa v1 hX _ he=>?_,fun aA f1 bE aa v1 hX _ he=>?_,fun aA bE b aa v1 hX he=>?_,fun bE aa v1 hX he=>?_⟩,fun f1 bE aa v1 hX he=>?_⟩
 . unfold nR at he
   split at he
   . rename_i aq;obtain ⟨rfl,rfl,rfl⟩:=aq;simp only [a'.val.injEq] at he;obtain ⟨rfl,rfl⟩:=he;intro E w xs ak s;rcases H.2 with H | H
     . exact .inl ⟨H.1,H.2 aA E w xs ak s⟩
     . exact .inr (H aA E w xs ak s)
   . cases he
 . unfold nR at he
   split at he<;>cases he
 . unfold nR at he
   split at he
   . rename_i aq;exact absurd aq.1.symm H.1
   . cases he
 . unfold nR at he
   split at he<;>cases he
 . trivial
theorem anO {xs cx:List V} {x y:V} (h:xs++[x]=cx++[y]):xs=cx/\x=y:=by have:=List.append_inj' h rfl;exact ⟨this.1,by simpa using this.2⟩
theorem al2 {P:Program} {args:List V} {b:aM} {h ab:ae} {v:V} (H:N_ P args b h v ab):gN P (nR dB (args++[.ptr b 0]) h v ab)/\g_ P (nR dB (args++[.ptr b 0]) h v ab):=by
 refine ⟨⟨fun aA f1 bE aa v1 hX c_ he=>?_,fun aA f1 bE aa v1 hX _ he=>?_,fun aA bE cc aa v1 hX he=>?_,fun bE aa v1 hX he=>?_⟩,fun f1 bE aa v1 hX he=>?_⟩
 . unfold nR at he
   split at he
   . rename_i aq;exact absurd aq.1 c_
   . cases he
 . unfold nR at he
   split at he<;>cases he
 . unfold nR at he
   split at he
   . rename_i aq;obtain ⟨_,aq,rfl⟩:=aq;obtain ⟨rfl,ah⟩:=anO aq;simp only [V.ptr.injEq,atC] at ah;subst ah;simp only [a'.val.injEq] at he;obtain ⟨rfl,rfl⟩:=he;exact fun E w xs p ak s ag=>H aA E w xs p ak s ag
   . cases he
 . unfold nR at he
   split at he<;>cases he
 . trivial
theorem L1 {f:FuncId} {args:List V} {h ab:ae} {v:V}:nR f args h v ab f args h=.val v ab:=by unfold nR;rw [arz ⟨rfl,rfl,rfl⟩]
def bf.set (r:bf) (d:Option Nat) (v:V):bf:=
 match d with
 | none=>r
 | some d=>fun t=>if t=d then v else r t
def bf.trim (r:bf):List Nat->bf
 | [],_=>.bad
 | u::us,t=>if t=u then r t else bf.trim r us t
def bf.bU:List V->bf
 | [],_=>.bad
 | v::af,t=>if t=0 then v else bf.bU af (t-1)
def Db (r:bf):List Nat->bI
 | []=>.e
 | t::bn=>T.put .bad (r t) (az t) (Db r bn)
theorem W7 (r:bf):∀bn:List Nat,eb (Db r bn)=bf.trim r bn
 | []=>by funext t;simp [eb,Db,bf.trim]
 | u::bn=>by
   funext t;have bc:=congrFun (W7 r bn) t;simp only [eb] at bc;simp only [eb,Db,bf.trim,T.ih];by_cases h:t=u
   . subst h;simp
   . rw [arw (fun e=>h (h5 e).symm),arw h];exact bc
theorem z8 (cU:bI):∀bn:List Nat,eb (dt cU bn)=bf.trim (eb cU) bn
 | []=>by funext t;simp [eb,dt,bf.trim]
 | u::bn=>by
   funext t;have bc:=congrFun (z8 cU bn) t;simp only [eb] at bc;simp only [eb,dt,bf.trim,T.ih];by_cases h:t=u
   . subst h;simp
   . rw [arw (fun e=>h (h5 e).symm),arw h];exact bc
theorem M3 {r:bf}:∀{bn:List Nat} {t:Nat},t ∈ bn->bf.trim r bn t=r t
 | [],t,h=>by simp at h
 | u::bn,t,h=>by
   simp only [bf.trim];by_cases hu:t=u
   . rw [arz hu]
   . rw [arw hu];simp only [arM] at h;exact M3 (h.resolve_left hu)
theorem W8 {r:bf}:∀{bn:List Nat} {t:Nat},t ∉ bn->bf.trim r bn t=.bad
 | [],t,_=>rfl
 | u::bn,t,h=>by simp only [arM,not_or] at h;simp only [bf.trim];rw [arw h.1];exact W8 h.2
theorem Mj (d:Option Nat) (cU:bI) (v:V):eb ((fD d).run cU v)=(eb cU).set d v:=by
 cases d with
 | none=>rfl
 | some d=>
   funext t;simp only [eb,fD,bf.set,T.ih];by_cases h:t=d
   . subst h;simp
   . rw [arw (fun e=>h (h5 e).symm),arw h]
abbrev eG:Nat:=17179869185
def Out (ar:Nat) (r:bf):Prop:=∀t,ar<=t->t≠eG->r t=.bad
theorem yt {ar:Nat} {r:bf} (aW:Out ar r):∃cU,eb cU=r:=by
 refine ⟨Db r (eG::List.range ar),?_⟩;rw [W7];funext t;by_cases h:t<ar
 . exact M3 (arT _ (asW.2 h))
 . by_cases ad:t=eG
   . exact M3 (by rw [ad];exact ar1)
   . rw [W8 (by simp only [arM,asW,not_or];exact ⟨ad,h⟩),aW t (by omega) ad]
theorem Out.set {ar:Nat} {r:bf} (aW:Out ar r) {d:Option Nat} (aI:eO ar d=true) (v:V):Out ar (r.set d v):=by
 intro t aG aU;cases d with
 | none=>exact aW t aG aU
 | some d=>
   simp only [eO,arp,arS] at aI;simp only [bf.set];rw [arw (by omega)];exact aW t aG aU
theorem C6 {ar:Nat} {r:bf} {d:Option Nat} (aI:eO ar d=true) (v:V):r.set d v eG=r eG:=by
 cases d with
 | none=>rfl
 | some d=>
   simp only [eO,arp,arS,arH] at aI;simp only [bf.set];rw [arw (by have:=aI.2;unfold top at this;unfold eG;omega)]
structure hE (E:Env) (ar:Nat) (r:bf) (a:Act):Prop where
 size:a.tmps.size=ar
 defers:lY E (r eG) a.defers
 an:∀t,t≠eG->Rel E (r t) (a.tmps.getD t undef)
theorem rU {t:Nat} (h:t<=top):t≠eG:=by unfold top at h;unfold eG;omega
theorem hE.mono {E au:Env} (h:E.le au) {ar:Nat} {r:bf} {a:Act} (k:hE E ar r a):hE au ar r a:=
 ⟨k.size,k.defers.mono h,fun t aG=>Rel.mono h _ _ (k.an t aG)⟩
theorem hE.put {E au:Env} (h:E.le au) {ar:Nat} {r:bf} {a:Act} (k:hE E ar r a) {d:Option Nat} (aI:eO ar d=true) {v:V} {x:Value} (ak:Rel au v x):hE au ar (r.set d v) (a.put d x):=by
 cases d with
 | none=>exact k.mono h
 | some d=>
   have aU:=C6 (r:=r) aI v;simp only [eO,arp,arS] at aI;refine ⟨by simp [Act.put,k.size],by rw [aU];exact k.defers.mono h,fun t fl=>?_⟩;simp only [bf.set,Act.put];rw [arQ,arN];by_cases aG:t=d
   . subst aG;rw [arz rfl,arz rfl,arz (by rw [k.size];exact aI.1)];exact ak
   . rw [arw aG,arw (fun e=>aG e.symm),<-arQ];exact Rel.mono h _ _ (k.an t fl)
def G.wp (P:Program) (g:G) (r:bf) (h:ae) (K:V->ae->Prop):Prop:=
 match g with
 | .call f args=>cR P f (aT.fI r args) h K
 | .l3 f args=>∃g xs,(f.aQ r).target (aT.fI r args)=some (g,xs)/\Dl P g xs h K
 | g=>∃v ab,g.run P lN r h=.val v ab/\K v ab
theorem G.Ab {P:Program} {g:G} {r:bf} {h:ae} {K:V->ae->Prop} (H:g.wp P r h K):∃call v ab,(gN P call/\g_ P call)/\g.run P call r h=.val v ab/\K v ab:=by
 cases g
 case call f args=>
  obtain ⟨v,ab,al,ao⟩:=H;exact ⟨_,v,ab,Vl al,L1,ao⟩
 case l3 f args=>
  obtain ⟨g,xs,av,H⟩:=H;unfold Dl at H
  split at H
  rotate_left
  . obtain ⟨v,ab,al,ao⟩:=H;refine ⟨_,v,ab,Vl al,?_,ao⟩;simp only [G.run];rw [Vb av];exact L1
  . rename_i aF;subst aF;obtain ⟨cx,b,rfl,v,ab,al,ao⟩:=H;refine ⟨_,v,ab,al2 al,?_,ao⟩;simp only [G.run];rw [Vb av];exact L1
 all_goals
  obtain ⟨v,ab,al,ao⟩:=H;exact ⟨lN,v,ab,Gh P,al,ao⟩
structure bx where
 dst:Option Nat
 g:G
 Br:Option (Nat × Bool)
 rs:List Nat
def bx.bad:bx:=⟨none,.bad,none,[]⟩
def gate (v:V) (want:Bool) (A B:Prop):Prop:=
 match v with
 | .bool b=>(b=want->A)/\(b=!want->B)
 | .tuple _=>B
 | _=>False
def bx.wp (P:Program) (o:bx) (r:bf) (h:ae) (K:bf->V->ae->Prop):Prop:=
 match o.Br with
 | none=>o.g.wp P (r.trim o.rs) h fun v ab=>K (r.set o.dst v) v ab
 | some (d,want)=>gate (r.trim o.rs d) want (o.g.wp P (r.trim o.rs) h fun v ab=>K (r.set o.dst v) v ab) (K (r.set o.dst (.tuple [])) (.tuple []) h)
def r2 (P:Program) (ar:Nat) (all:Array Oper) (o:Oper):bx:=
 bif eO ar o.dst&&iX (b1 all o) then
  match o.guard with
  | none=>⟨o.dst,vl P o.op,none,b1 all o⟩
  | some (j,want)=>match all[j]? with
    | some g=>match g.dst with
      | some d=>bif Nat.blt d ar&&Nat.ble d top then ⟨o.dst,vl P o.op,some (d,want),b1 all o⟩ else bx.bad
      | none=>bx.bad
    | none=>bx.bad
 else bx.bad
def zL (P:Program) (ar:Nat) (all:Array Oper):List Oper->List bx
 | []=>[]
 | o::os=>r2 P ar all o::zL P ar all os
theorem Wd (P:Program) (ar:Nat) (all:Array Oper):∀l:List Oper,zL P ar all l=l.map (r2 P ar all)
 | []=>rfl
 | o::os=>by simp [zL,Wd P ar all os]
def aT.isNil:aT->Bool
 | .c .kA=>true
 | _=>false
def qM (P:Program) (ar:Nat) (all:Array Oper) (o:Oper):bx:=
 match o.op,o.guard with
 | .binOp op t x y _,none=>match xq P op t with
   | some neg=>bif !((rx x).isNil||(rx y).isNil)&&(eO ar o.dst&&iX (b1 all o)) then ⟨o.dst,.xn neg (rx x) (rx y),none,b1 all o⟩ else r2 P ar all o
   | none=>r2 P ar all o
 | _,_=>r2 P ar all o
def zM (P:Program) (ar:Nat) (all:Array Oper):List Oper->List bx
 | []=>[]
 | o::os=>qM P ar all o::zM P ar all os
theorem bx.D9 {P:Program} {r:bf} {h:ae} {K:bf->V->ae->Prop}:¬bx.bad.wp P r h K:=by rintro ⟨v,ab,q,_⟩;cases q
theorem bx.Ab {P:Program} {ar:Nat} {all:Array Oper} {o:Oper} {r:bf} {h:ae} {K:bf->V->ae->Prop} (H:(r2 P ar all o).wp P r h K):
 ∃call v ab,(gN P call/\g_ P call)/\eO ar o.dst=true/\K (r.set o.dst v) v ab/\∀cU,eb cU=r->(cI P ar all o).run call cU h=.val v ab:=by
 unfold r2 at H;cases aq:(eO ar o.dst&&iX (b1 all o)) with
 | false=>rw [aq] at H;exact absurd H bx.D9
 | true=>
   have aI:eO ar o.dst=true:=by simp only [arp] at aq;exact aq.1
   rw [aq] at H;simp only [aru] at H;cases aF:o.guard with
   | none=>
     rw [aF] at H;obtain ⟨call,v,ab,al,ao,aK⟩:=G.Ab H;refine ⟨call,v,ab,al,aI,aK,fun cU dI=>?_⟩;unfold cI;rw [aq];simp only [aru,aF,jb];refine Wb ?_;rw [z8,dI];exact ao
   | some oI=>
     obtain ⟨j,want⟩:=oI;rw [aF] at H;simp only at H;cases bp:all[j]? with
     | none=>rw [bp] at H;exact absurd H bx.D9
     | some g=>
       rw [bp] at H;simp only at H;cases iT:g.dst with
       | none=>rw [iT] at H;exact absurd H bx.D9
       | some d=>
         rw [iT] at H;simp only at H;cases ah:(Nat.blt d ar&&Nat.ble d top) with
         | false=>rw [ah] at H;exact absurd H bx.D9
         | true=>
           rw [ah] at H;simp only [aru,bx.wp] at H;have key:cI P ar all o=⟨jb (some (pe (az d),want)) (fh P o) (b1 all o)⟩:=by unfold cI;rw [aq];simp only [aru,aF,bp,iT,ah]
           have BK:∀cU,eb cU=r->(pe (az d)).run (dt cU (b1 all o))=r.trim (b1 all o) d:=by intro cU dI;rw [<-dI,<-z8];rfl
           cases bt:r.trim (b1 all o) d<;>rw [bt] at H<;>simp only [gate] at H
           case bool b=>
            by_cases SC:b=want
            . obtain ⟨call,v,ab,al,ao,aK⟩:=G.Ab (H.1 SC);refine ⟨call,v,ab,al,aI,aK,fun cU dI=>?_⟩;rw [key];simp only [jb,BK cU dI,bt];rw [show (bif want then b else !b)=true from by subst SC;cases b<;>rfl];simp only [aru];refine Wb ?_;rw [z8,dI];exact ao
            . have Sz:b=!want:=by cases b<;>cases want<;>simp_all
              refine ⟨lN,.tuple [],h,Gh P,aI,H.2 Sz,fun cU dI=>?_⟩;rw [key];simp only [jb,BK cU dI,bt];rw [show (bif want then b else !b)=false from by subst Sz;cases want<;>rfl];rfl
           case tuple af=>
            refine ⟨lN,.tuple [],h,Gh P,aI,H,fun cU dI=>?_⟩;rw [key];simp only [jb,BK cU dI,bt]
def oV (P:Program):List bx->bf->ae->(bf->ae->Prop)->Prop
 | [],r,h,K=>K r h
 | o::os,r,h,K=>o.wp P r h fun a7 _ ab=>oV P os a7 ab K
structure fM where
 r:bf
 h:ae
 v:V
def kH (P:Program):List bx->bf->ae->(List fM->bf->ae->Prop)->Prop
 | [],r,h,K=>K [] r h
 | o::os,r,h,K=>o.wp P r h fun a7 v ab=>kH P os a7 ab fun es c4 av=>K (⟨r,h,v⟩::es) c4 av
def yN (es:List fM) (av:ae) (i:Nat):ae:=
 match es[i]? with
 | some e=>e.h
 | none=>av
def sy (P:Program) (o:Option bx) (e:Option fM) (es:List fM) (av:ae):List Nat->Prop
 | []=>True
 | s::ch=>(match o,e with
   | some o,some e=>o.wp P e.r (yN es av s) fun _ cl _=>cl=e.v
   | _,_=>False)/\sy P o e es av ch
def pX (P:Program) (ops:List bx) (es:List fM) (av:ae):List (Nat × List Nat)->Prop
 | []=>True
 | (p,ch)::rest=>sy P ops[p]? es[p]? es av ch/\pX P ops es av rest
inductive a1 where
 | bad
 | skip
 | an (ops:List bx)
 | draw (ops:List bx) (asks:List (Nat × List Nat))
 | seq (a b:a1)
 | cond (c:aT) (a b:a1)
 | block (id:Nat) (b:a1)
 | loop (b:a1)
 | exit (id:Nat)
 | ret
 | range (f:aT) (bo:List Nat) (ar:Nat) (a b:a1)
def ya (P:Program) (ops:List Oper) (d_ aE ey:List Nat):Nat->List Oper->List (Nat × List Nat)
 | _,[]=>[]
 | i,o::os=>bif looks o.op&&!eV P o.op then
    (posOf aE i,ey.filter (tm P d_ ops aE i ((d_[i]?).getD 0)))::ya P ops d_ aE ey (i+1) os
   else ya P ops d_ aE ey (i+1) os
def GU (P:Program) (ar:Nat) (ops:Array Oper) (order aE:List Nat):a1:=
 bif lP ops.size order aE&&wa P ops aE then
  .draw (zL P ar ops (hy ops order)) (bif sw P ops.toList then ya P ops.toList (eK [] ops.toList) aE (hN P aE 0 ops.toList) 0 ops.toList else [])
 else .bad
def eB (P:Program) (ar:Nat):Code->a1
 | .skip=>.skip
 | .label _=>.skip
 | .region _ ops draw=>bif draw then GU P ar ops (vd P ops) (zC (vd P ops) 0 ops.toList) else .an (zM P ar ops ops.toList)
 | .seq a b=>.seq (eB P ar a) (eB P ar b)
 | .cond c a b=>.cond (rx c) (eB P ar a) (eB P ar b)
 | .block id b=>.block id (eB P ar b)
 | .loop b=>.loop (eB P ar b)
 | .exit id=>.exit id
 | .ret=>.ret
 | .scope b=>eB P ar b
 | .rangeFunc f bo a b=>bif tv ar bo.toList&&(noMark a&&noMark b) then .range (rx f) bo.toList ar (eB P ar a) (eB P ar b) else .bad
 | _=>.bad
structure Yb (P:Program) (l:AL) (ar:Nat) (r:bf) (bo:List Nat) (V3 amS:a1):Prop where
 aV:l.ar=ar
 aD:eb l.r=r
 ag:l.bo=bo
 bs:eB P ar l.assign=V3
 ah:eB P ar l.body=amS
 nv:tv ar bo=true
 aqy:noMark l.assign=true
 cv:noMark l.body=true
 out:Out ar r
def cT.andThen:cT->Prop->Prop->Prop
 | .normal,A,_=>A
 | _,_,B=>B
def cT.leave (id:Nat):cT->cT
 | .exit i=>if i=id then .normal else .exit i
 | e=>e
def ff (P:Program):a1->bf->ae->(cT->bf->ae->Prop)->Prop
 | .bad,_,_,_=>False
 | .skip,r,h,Q=>Q .normal r h
 | .an ops,r,h,Q=>oV P ops r h (Q .normal)
 | .draw ops asks,r,h,Q=>kH P ops r h fun es c4 av=>pX P ops es av asks/\Q .normal c4 av
 | .seq a b,r,h,Q=>ff P a r h fun e a7 ab=>e.andThen (ff P b a7 ab Q) (Q e a7 ab)
 | .cond c a b,r,h,Q=>match c.aQ r with
   | .bool t=>(t=true->ff P a r h Q)/\(t=false->ff P b r h Q)
   | _=>False
 | .block id b,r,h,Q=>ff P b r h fun e a7 ab=>Q (e.leave id) a7 ab
 | .loop b,r,h,Q=>∃(I:bf->ae->Prop) (μ:bf->ae->Nat),I r h/\∀r h,I r h->ff P b r h fun e a7 ab=>e.andThen (I a7 ab/\μ a7 ab<μ r h) (Q e a7 ab)
 | .exit id,r,h,Q=>Q (.exit id) r h
 | .ret,r,h,Q=>Q .ret r h
 | .range f bo ar a b,r,h,Q=>∃g cs,f.aQ r=.func g cs/\g≠dB/\(∃fn,P.funcs[g]? =some fn/\fn.body.isSome=true)/\∀l,Yb P l ar r bo a b->l.st=0->l.hz=none->
    cR P g (.func dB [.ptr (az (h.next+1)) 0]::cs) ((h.new .hH).new (.ft l)) fun _ ab=>
     ∃eE,ab.get (az (h.next+1))=.ft eE/\eE.st≠1/\Q (eE.hz.getD .normal) (r.set (some eG) (.tuple (.ptr (az h.next) 0::(r eG).list))) (ab.set (az (h.next+1)) .dead)
def a1.plain:a1->Bool
 | .seq a b=>a.plain&&b.plain
 | .cond _ a b=>a.plain&&b.plain
 | .block _ b=>b.plain
 | .loop b=>b.plain
 | .range _ _ _ _ _=>false
 | _=>true
def Dn (P:Program) (ar:Nat) (c:Code) (r:bf) (h:ae) (e:cT) (a7:bf) (ab:ae):Prop:=
 ∀(rd:Option Nat) (aA:Fr) E a w,(rd=none\/noMark c=true)->hE E ar r a->ba aA E h w->∀Q:Exit->Act->World->Prop,
  (∀au bm w',E.le au->hE au ar a7 bm->ba aA au ab w'->Q (toExit e) bm w')->Df rd P c Q a w
section
variable {P:Program} {ar:Nat}
theorem Wc (P:Program) (ar:Nat) (all:Array Oper) (o:Oper):qM P ar all o=r2 P ar all o\/∃op t x y u neg,o.op=.binOp op t x y u/\o.guard=none/\xq P op t=some neg/\eO ar o.dst=true/\iX (b1 all o)=true/\qM P ar all o=⟨o.dst,.xn neg (rx x) (rx y),none,b1 all o⟩:=by
 obtain ⟨dst,op,type,pos,after,guard⟩:=o;cases op<;>try (exact .inl rfl)
 rename_i op t x y u;cases guard with
 | some g=>exact .inl rfl
 | none=>
   simp only [qM];cases ag:xq P op t with
   | none=>exact .inl rfl
   | some neg=>
     simp only;cases aq:(!((rx x).isNil||(rx y).isNil)&&(eO ar dst&&iX (b1 all ⟨dst,.binOp op t x y u,type,pos,after,none⟩))) with
     | false=>exact .inl rfl
     | true=>
       simp only [arp] at aq;exact .inr ⟨op,t,x,y,u,neg,by first | rfl | trivial,by first | rfl | trivial,ag,by first | exact aq.2.1 | trivial,by first | exact aq.2.2 | trivial,by first | rfl | trivial⟩
theorem bx.Xr (bF:eg P) {all:Array Oper} {o:Oper} {i:Nat} (aw:all[i]? =some o) {r:bf} {h:ae} {K:bf->V->ae->Prop} (aW:Out ar r) (H:(qM P ar all o).wp P r h K):
 ∃v ab,eO ar o.dst=true/\K (r.set o.dst v) v ab/\∀(rd:Option Nat) (aA:Fr) E a w,hE E ar r a->ba aA E h w->∀(Q:Exit->Act->World->Prop) (C:Act->World->Prop),
  (∀au x w',E.le au->Rel au v x->ba aA au ab w'->C (a.put o.dst x) w')->wpOpIn (ca rd) 0 P all Q i C a w:=by
 obtain ⟨cU,dI⟩:=yt aW;rcases Wc P ar all o with e | ⟨op,t,x,y,u,neg,aJ,aR,bP,b4,dD,gA⟩
 . rw [e] at H;obtain ⟨call,v,aa,aq,aI,H1,cV⟩:=bx.Ab H;refine ⟨v,aa,aI,H1,fun rd aA E a w k s Q C yF=>?_⟩;refine rh bF aq.1 aq.2 aw (cV cU dI) k.size (fun t aG=>?_) s yF;have:=congrFun dI t;simp only [eb] at this;rw [this];exact k.an t (rU (ar7 (arU.1 (kO (cV cU dI)).2 t aG)))
 . rw [gA] at H;simp only [bx.wp,G.wp,G.run] at H;obtain ⟨v,ab,bt,dO⟩:=H;unfold zG at bt;cases ay:jL h ((rx x).aQ (r.trim (b1 all o))) ((rx y).aQ (r.trim (b1 all o))) with
   | none=>rw [ay] at bt;cases bt
   | some b=>
     rw [ay] at bt;simp only [a'.of,a'.val.injEq] at bt;obtain ⟨rfl,rfl⟩:=bt;refine ⟨_,h,b4,dO,fun rd aA E a w k s Q C yF=>?_⟩
     have j3:RegRel0 E ar (dt cU (b1 all o)) a:=⟨k.size,fun t aG=>by
      rw [Hl dD aG];by_cases hm:t ∈ b1 all o
      . rw [arz hm];have:=congrFun dI t;simp only [eb] at this;rw [this];exact k.an t (rU aG)
      . rw [arw hm];simp [Rel]⟩
     have ex:∀z:Operand,(bV z).run (dt cU (b1 all o))=(rx z).aQ (r.trim (b1 all o)):=fun z=>by rw [eP,z8,dI]
     rw [<-ex,<-ex] at ay;obtain ⟨dst,alS,type,pos,after,guard⟩:=o;subst aJ aR;obtain ⟨Z,eZ,cQ⟩:=VJ (P:=P) (ji:=x) (jj:=y) s bP ay (dH j3 x) (dH j3 y);simp only [wpOpIn,aw,Region.wanted,ar2];exact f' rfl (dd.plain s eZ cQ) fun au v w' al ao aK=>yF au _ w' al ao aK
theorem Xw (bF:eg P) {all:Array Oper}:∀(l:List Oper) (i:Nat),(∀j,l[j]? =all[i+j]?)->∀(r:bf) (h:ae) (K:bf->ae->Prop),Out ar r->oV P (zM P ar all l) r h K->
 ∃a7 ab,K a7 ab/\(Out ar a7/\a7 eG=r eG)/\∀(rd:Option Nat) (aA:Fr) E a w,hE E ar r a->ba aA E h w->∀Q:Exit->Act->World->Prop,
  (∀au bm w',E.le au->hE au ar a7 bm->ba aA au ab w'->Q .normal bm w')->wpOpsIn (ca rd) 0 P all Q (List.range' i l.length) a w
 | [],i,_,r,h,K,aW,H=>by refine ⟨r,h,H,⟨aW,rfl⟩,fun rd aA E a w k s Q cD=>?_⟩;simp only [asd,List.range'_zero,wpOpsIn];exact cD E a w (Env.le.refl E) k s
 | o::os,i,ax,r,h,K,aW,H=>by
   have aw:all[i]? =some o:=by have:=ax 0;simpa using this.symm
   simp only [zM,oV] at H;obtain ⟨v,aa,aI,H1,cV⟩:=bx.Xr bF aw aW H;obtain ⟨c2,ad,al,ao,aK⟩:=Xw bF os (i+1) (fun j=>by have:=ax (j+1);simp only [ash] at this;rw [this];congr 1;omega) _ aa K (aW.set aI v) H1;refine ⟨c2,ad,al,⟨ao.1,ao.2.trans (C6 aI v)⟩,fun rd aA E a w k s Q cD=>?_⟩;rw [arA,List.range'_succ,wpOpsIn_cons];refine cV rd aA E a w k s _ _ fun au x w' ck cB eL=>?_;exact aK rd aA au _ w' (k.put ck aI cB) eL Q fun bC a2 bA bN z2 z3=>cD bC a2 bA (ck.trans bN) z2 z3
def toF (e:eR):fM:=⟨eb e.r,e.h,e.v⟩
theorem afe (es:List eR) (av:ae) (i:Nat):yN (es.map toF) av i=cg es av i:=by unfold yN cg;rw [ase];cases es[i]? <;>rfl
theorem Xv {all:Array Oper}:∀(l:List Oper) (nn:bI) (h:ae) (K:List fM->bf->ae->Prop),kH P (zL P ar all l) (eb nn) h K->Out ar (eb nn)->
 ∃es o6 av,K (es.map toF) (eb o6) av/\(Out ar (eb o6)/\eb o6 eG=eb nn eG)/\es.length=l.length/\cg es av 0=h/\eo es o6 0=nn/\
  ∀j o,l[j]? =some o->∃e call,es[j]? =some e/\(gN P call/\g_ P call)/\(cI P ar all o).run call e.r e.h=.val e.v (cg es av (j+1))/\eo es o6 (j+1)=(fD o.dst).run e.r e.v
 | [],nn,h,K,H,aW=>⟨[],nn,h,H,⟨aW,rfl⟩,rfl,rfl,rfl,fun j o bp=>by simp at bp⟩
 | o::os,nn,h,K,H,aW=>by
   simp only [zL,kH] at H;obtain ⟨call,v,aa,aq,aI,H1,cV⟩:=bx.Ab H;rw [<-Mj] at H1;obtain ⟨es,o6,av,al,ao,aK,bG,cK,ev⟩:=Xv os _ aa _ H1 (by rw [Mj];exact aW.set aI v);refine ⟨⟨nn,h,v⟩::es,o6,av,al,⟨ao.1,ao.2.trans (by rw [Mj];exact C6 aI v)⟩,by simp [aK],by simp [cg],by simp [eo],fun j b9 bp=>?_⟩;cases j with
   | zero=>
     simp only [arG,arq] at bp;subst bp;exact ⟨⟨nn,h,v⟩,call,rfl,aq,by rw [yM,bG];exact cV nn rfl,by rw [zJ,cK]⟩
   | succ j=>
     obtain ⟨e,c,ck,cB,eL,kC⟩:=ev j b9 (by simpa using bp);exact ⟨e,c,by simpa using ck,cB,by rw [yM];exact eL,by rw [zJ];exact kC⟩
theorem Ol {o:Option bx} {e:Option fM} {es:List fM} {av:ae}:∀{ch:List Nat},sy P o e es av ch->∀s ∈ ch,∃b9 cF,o=some b9/\e=some cF/\b9.wp P cF.r (yN es av s) fun _ cl _=>cl=cF.v
 | [],_,s,h=>by simp at h
 | fU::ch,H,s,hm=>by
   simp only [sy] at H;simp only [arM] at hm;rcases hm with rfl | hm
   . cases o with
     | none=>exact H.1.elim
     | some o=>
       cases e with
       | none=>exact H.1.elim
       | some e=>exact ⟨o,e,rfl,rfl,H.1⟩
   . exact Ol H.2 s hm
theorem Ot {ops:List Oper} {d_ aE ey:List Nat} {gs:List bx} {es:List fM} {av:ae}:∀{l:List Oper} {i:Nat},pX P gs es av (ya P ops d_ aE ey i l)->∀j o,l[j]? =some o->looks o.op=true->eV P o.op=false->
 sy P gs[posOf aE (i+j)]? es[posOf aE (i+j)]? es av (ey.filter (tm P d_ ops aE (i+j) ((d_[i+j]?).getD 0)))
 | [],i,_,j,o,h,_,_=>by simp at h
 | b9::os,i,H,j,o,h,aa,ad=>by
   simp only [ya] at H;cases j with
   | zero=>
     simp only [arG,arq] at h;subst h;rw [aa,ad] at H;simp only [Bool.not_false,asx,aru,pX] at H;exact H.1
   | succ j=>
     have ef:pX P gs es av (ya P ops d_ aE ey (i+1) os):=by
      cases aq:(looks b9.op&&!eV P b9.op) with
      | true=>rw [aq] at H;simp only [aru,pX] at H;exact H.2
      | false=>rw [aq] at H;exact H
     have:=Ot ef j o (by simpa using h) aa ad;rw [show i+1+j=i + (j+1) from by omega] at this;exact this
theorem acw (fk:ar<=top) (cN:P.follows .mixedOrders=true) (bF:eg P) {id:Nat} {ops:Array Oper} {order aE:List Nat} {r:bf} {h:ae} {Q:cT->bf->ae->Prop} (aW:Out ar r)
 (H:ff P (GU P ar ops order aE) r h Q):∃a7 ab,Q .normal a7 ab/\(Out ar a7/\a7 eG=r eG)/\Dn P ar (.region id ops true) r h .normal a7 ab:=by
 unfold GU at H;cases av:(lP ops.size order aE&&wa P ops aE) with
 | false=>rw [av] at H;exact H.elim
 | true=>
   rw [av] at H;simp only [aru,ff] at H;simp only [arp] at av;obtain ⟨hL,hp⟩:=av;unfold lP at hL;simp only [arp,arZ] at hL;obtain ⟨pt,yS,BX,BY⟩:=hL;have iv:∀k,k<ops.size->posOf aE k<ops.size/\order[posOf aE k]? =some k:=by
    intro k aB;have aF:aE[k]? =some (posOf aE k):=by unfold posOf;rw [ars (by omega)];rfl
    have:=vh BX aF;rw [arV] at this;exact ⟨by have:=(arL.1 this).1;omega,this⟩
   have lO:∀p,p<ops.size->∃i,i<ops.size/\posOf aE i=p:=by intro p ag;have aF:order[p]? =some (order[p]'(by omega)):=ars (by omega);have:=vh BY aF;rw [arV] at this;refine ⟨order[p]'(by omega),by have:=(arL.1 this).1;omega,?_⟩;unfold posOf;rw [this];rfl
   obtain ⟨nn,E9⟩:=yt aW;rw [<-E9] at H aW;obtain ⟨es,o6,a8,⟨BB,cD⟩,⟨qk,Tk⟩,al,ao,aK,bG⟩:=Xv _ nn h _ H aW;refine ⟨_,a8,cD,⟨qk,by rw [<-E9];exact Tk⟩,fun rd aA E a w aD k s dn JH=>?_⟩;have step:∀i:Nat,∃call,(gN P call/\g_ P call)/\∀o,ops[i]? =some o->∃e,es[posOf aE i]? =some e/\(cI P ar ops o).run call e.r e.h=.val e.v (cg es a8 (posOf aE i+1))/\eo es o6 (posOf aE i+1)=(fD o.dst).run e.r e.v:=by
    intro i;cases aw:ops[i]? with
    | none=>exact ⟨lN,Gh P,fun o h=>by cases h⟩
    | some o=>
      obtain ⟨e,call,ck,cB,eL,kC⟩:=bG _ o (nQ (iv i (art.1 aw).1).2 aw);exact ⟨call,cB,fun b9 hq=>by cases hq;exact ⟨e,ck,eL,kC⟩⟩
   obtain ⟨calls,yJ⟩:=Classical.axiomOfChoice step;have uE:∀j o,ops[j]? =some o->looks o.op=true->eV P o.op=false->∃e,es[posOf aE j]? =some e/\∀s ∈ hN P aE 0 ops.toList,
    tm P (eK [] ops.toList) ops.toList aE j (((eK [] ops.toList)[j]?).getD 0) s=true->∃c ab,(gN P c/\g_ P c)/\(cI P ar ops o).run c e.r (cg es a8 s)=.val e.v ab:=by
    intro j o rE eA afj;have bp:=(art.1 rE).1;obtain ⟨e,ck,cB,eL⟩:=(yJ j).2 o rE;refine ⟨e,ck,fun s aU hm=>?_⟩;cases ax:sw P ops.toList with
    | true=>
      rw [ax] at BB;simp only [aru] at BB;have:=Ot BB j o (by simpa using rE) eA afj;rw [arV] at this;obtain ⟨b9,cF,bN,z2,z3⟩:=Ol this s (atq.2 ⟨aU,hm⟩);rw [Wd,ase,nQ (iv j bp).2 rE] at bN;simp only [asD,arq] at bN;rw [ase,ck] at z2;simp only [asD,arq] at z2;subst bN;subst z2;rw [afe] at z3;obtain ⟨c,v,ab,du,_,y3,y4⟩:=bx.Ab z3;have Hr:=y4 e.r rfl;rw [show v=e.v from y3] at Hr;exact ⟨c,ab,du,Hr⟩
    | false=>
      have none:∀(l:List Oper),sw P l=false->∀(j:Nat) (o:Oper),l[j]? =some o->eV P o.op=false:=by
       intro l
       induction l with
       | nil=>intro _ j o h;simp at h
       | cons x l bc=>
         intro h j o aW;simp only [sw,as9] at h;cases j with
         | zero=>simp only [arG,arq] at aW;subst aW;exact h.1
         | succ j=>exact bc h.2 j o (by simpa using aW)
      have iU:s=ops.size:=by
       rcases u6 aU with h | ⟨FY,b9,aa,ad,aH⟩
       . simpa using h
       . have:=none _ ax FY b9 aa;unfold ee at ad;rw [this] at ad;cases ad
      have flat:∀d,d<=ops.size->cg es a8 d=cg es a8 0:=by
       intro d
       induction d with
       | zero=>intro _;rfl
       | succ d bc=>
         intro aI;obtain ⟨i,wJ,oC⟩:=lO d (by omega);have cA:ops[i]? =some ops[i]:=arO wJ;obtain ⟨acO,bX,bA,_⟩:=(yJ i).2 ops[i] cA;rw [oC] at bX bA;have c_:eV P ops[i].op=false:=none _ ax i _ (by simp);rw [(v_ c_ bA).1,<-bc (by omega)];simp [cg,bX]
      have Tb:=(iv j bp).1;have:e.h=cg es a8 s:=by rw [iU,flat ops.size (arv _),<-flat (posOf aE j) (by omega)];simp [cg,ck]
      rw [<-this];exact ⟨_,_,(yJ j).1,cB⟩
   have hlen:es.length=ops.size:=by rw [al,qD,pt]
   have C:Cert P ar ops calls es nn h o6 a8 (hN P aE 0 ops.toList) order aE ops.size ops.size false:=
    ⟨hlen,arv _,arv _,iv,lO,ao,aK,fun i o cA _=>(yJ i).2 o cA,
      fun i o cA=>by
       obtain ⟨cS,bN,z2,z3⟩:=Q6 hp i o cA
       exact ⟨cS,bN,z2,fun _ k ok aB _=>by
        obtain ⟨mk,du,e3,y3⟩:=z3 k ok aB
        exact ⟨mk,du,e3,fun aJ aR bP=>.inl (y3 aJ aR bP)⟩⟩,
      by simpa using F2 (P:=P) (aE:=aE) (l:=ops.toList) (i:=0),
      fun j o aa ad=>by simpa using zf (aE:=aE) (i:=0) (j:=j) (l:=ops.toList) (by simpa using aa) ad,
      fun s aU=>by
       rcases u6 aU with h | ⟨j,o,aa,ad,aH⟩
       . exact .inl (.inl (by simpa using h))
       . exact .inr ⟨j,o,by simpa using aa,ad,by simpa using aH⟩,
      fun j o aa ad aH _=>uE j o aa ad aH,fun h=>absurd h (asT _),fun h=>absurd h (asT _)⟩
   have aB:RegRel0 E ar nn a:=⟨k.size,fun t aG=>by have:=congrFun E9 t;simp only [eb] at this;rw [this];exact k.an t (rU aG)⟩;have dJ:∀k,¬(Array.replicate ops.size false).getD k false=true:=by
    intro k;rw [uz,Array.getElem?_replicate]
    split<;>simp
   have kn:Holds aA aA es a8 aE (ke ops es a8 aE (Array.replicate ops.size false) 0):=
    ⟨rfl,fun _ _=>rfl,fun k aB=>(by obtain ⟨_,_,_,_,aY⟩:=aB;omega),fun k br aB=>(by obtain ⟨_,_,_,_,aY⟩:=aB;omega)⟩
   obtain ⟨fU,dU,g1,g2,g3,g4,g5,g6⟩:=C.advance ops.size 0 (by omega) (fun k o _ _ _=>dJ k) aA kn (E:=E) (w:={w with drawn:=w.drawn}) (by rw [ao];exact s.same rfl rfl rfl rfl);have uU:eb o6 eG=r eG:=by rw [<-E9];exact Tk
   have fin:∀au bm w',E.le au->RegRel0 au ar o6 bm->bm.defers=a.defers->ba aA au a8 w'->dn .normal bm w':=by
    intro au bm w' bN z2 aph z3;refine JH au bm w' bN ⟨z2.size,by rw [uU,aph];exact k.defers.mono bN,fun t fl=>?_⟩ z3;by_cases aG:t<=top
    . exact z2.an t aG
    . have cu:=z2.size;rw [qk t (by omega) fl];simp [Rel]
   refine Xs cN (Q8 bF (fun i=>(yJ i).1.1) (fun i=>(yJ i).1.2) C (gz:=E) (D:=a.defers) (fun _=>fin)
    (fun _ _ _ _ _ _ _ h=>absurd h (asT _)) (fun h=>absurd h (asT _)) ops.size _ a _ ?_ ?_)
   . exact asq atA (by simp)
   . refine ⟨by simp,aB.size,rfl,fun br aB=>absurd aB (dJ br),fun br o e aB=>absurd aB (dJ br),E,fU,dU,Env.le.refl E,g1,g3,fun br o aa ad=>⟨fun h=>absurd h (dJ br),fun h=>by have:=g4 br o aa ad (asP _);omega⟩,
      fun br o _ _ h=>absurd h (dJ br),g5,?_,fun t aG=>.inr ⟨fun br o aB=>absurd aB (dJ br),aB.an t aG⟩⟩
     exact g6.same rfl rfl rfl rfl
theorem adg {rd:Option Nat} {e:cT} {Q:Exit->Act->World->Prop} {a:Act} {w:World} (h:Q (toExit e) a w):(Jl e).wpIn (ca rd) 0 P Q a w:=by
 cases e with
 | normal=>exact wpIn_skip h
 | exit id=>exact wpIn_exit h
 | ret=>exact wpIn_ret h
theorem amR (fk:ar<=top) (cN:P.follows .mixedOrders=true) (bF:eg P) {f:Operand} {bo:Array Tmp} {x y:Code} {r:bf} {h:ae} {Q:cT->bf->ae->Prop} (aW:Out ar r)
 (H:ff P (eB P ar (.rangeFunc f bo x y)) r h Q):∃e a7 ab,Q e a7 ab/\(Out ar a7/\((eB P ar (.rangeFunc f bo x y)).plain=true->a7 eG=r eG))/\Dn P ar (.rangeFunc f bo x y) r h e a7 ab:=by
 simp only [eB] at H ⊢;cases hp:(tv ar bo.toList&&(noMark x&&noMark y)) with
 | false=>rw [hp] at H;exact H.elim
 | true=>
   rw [hp] at H;simp only [aru,ff] at H ⊢;simp only [arp] at hp;obtain ⟨g,cs,bt,aF,sV,H⟩:=H;obtain ⟨cU,dI⟩:=yt aW;obtain ⟨v,ab,cf,eE,aJ,aR,cD⟩:=H ⟨0,none,az h.next,ar,cU,bo.toList,x,y⟩ ⟨rfl,dI,rfl,rfl,rfl,hp.1,hp.2.1,hp.2.2,aW⟩ rfl rfl;refine ⟨_,_,_,cD,⟨fun t aa ad=>by simp only [bf.set];rw [arw ad];exact aW t aa ad,fun z=>by cases z⟩,fun rd aA E a w aD k s dn JH=>?_⟩;have agj:rd=none:=aD.resolve_right (by simp [noMark]);subst agj;have av:Rel E (.func g cs) (a.eval f):=by
    rw [<-bt];cases f with
    | tmp t=>
      simp only [rx];cases ah:Nat.ble t top with
      | false=>simp [aT.aQ,Rel]
      | true=>
        simp only [aru,aT.aQ];exact k.an t (rU (ar7 ah))
    | const v=>exact tr E v
    | func f=>
      simp only [rx];cases ah:Nat.beq f dB with
      | true=>simp [aT.aQ,Rel]
      | false=>
        simp only [arB,aT.aQ,Rel];exact .inl ⟨fun e=>by subst e;simp at ah,_,rfl,by simp [bh]⟩
    | global g=>simp [rx,aT.aQ,Rel]
   simp only [Rel] at av;rcases av with ⟨_,eM,dr,ax⟩ | ⟨J5,_⟩
   case inr=>exact absurd J5 aF
   refine (wpIn_rangeFunc fun fn _=>?_:(Code.rangeFunc f bo x y).wpIn (ca none) 0 P dn a w);have f0:=s.fresh h.next (arv _)
   obtain ⟨gO,wq⟩:∃gO,gO=E.put (az h.next) ⟨w.heap.size,0,0⟩:=⟨_,rfl⟩;obtain ⟨bX,qp⟩:∃bX:World,bX={w with heap:=w.heap.push (.deferred (some []))}:=⟨_,rfl⟩;have B1:gO (az h.next)=some ⟨w.heap.size,0,0⟩:=by rw [wq];unfold Env.put;rw [arz rfl]
   have s1:ba aA gO (h.new .hH) bX:=by rw [wq,qp];refine s.alloc 0 ⟨⟨w.heap.size,0,0⟩,by unfold Env.put;rw [arz rfl],s.frame.size,by simp⟩
   have pC:E.le gO:=by rw [wq];exact Env.mX f0
   have wW:bX.heap.size=w.heap.size+1:=by rw [qp];simp
   obtain ⟨o,hq⟩:∃o:Loop,o={state:=.ready,pending:=none,fn,tmps:=a.tmps,params:=bo,assign:=x,body:=y,defers:=w.heap.size}:=⟨_,rfl⟩;obtain ⟨bC,lB⟩:∃bC,bC=gO.put (az (h.next+1)) ⟨bX.heap.size,0,0⟩:=⟨_,rfl⟩;obtain ⟨bA,uW⟩:∃bA:World,bA={bX with heap:=bX.heap.push (.loop o)}:=⟨_,rfl⟩;have f1:gO (az (h.next+1))=none:=s1.fresh (h.next+1) (arv _);have ma:gO.le bC:=by rw [lB];exact Env.mX f1
   have B2:bC (az (h.next+1))=some ⟨bX.heap.size,0,0⟩:=by rw [lB];unfold Env.put;rw [arz rfl]
   have ft:vM bC ⟨0,none,az h.next,ar,cU,bo.toList,x,y⟩ o:=by subst hq;refine ⟨rfl,rfl,rfl,rfl,rfl,k.size,fun t aG=>?_,_,ma _ _ B1,rfl⟩;have:=congrFun dI t;simp only [eb] at this;simp only [this];exact Rel.mono (pC.trans ma) _ _ (k.an t (rU aG))
   have s2:ba aA bC ((h.new .hH).new (.ft ⟨0,none,az h.next,ar,cU,bo.toList,x,y⟩)) bA:=by rw [lB,uW];refine s1.alloc 0 ⟨⟨bX.heap.size,0,0⟩,o,by show gO.put (az (h.next+1)) _ (az (h.next+1))=_;unfold Env.put;rw [arz rfl],by show aA.w.heap.size<=bX.heap.size;rw [wW];have:=s.frame.size;omega,by simp,?_⟩;have:=ft;rw [lB] at this;exact this
   obtain ⟨h3,qh⟩:∃h3,h3=bX.heap.size:=⟨_,rfl⟩;have a6:Rel bC (.func dB [.ptr (az (h.next+1)) 0]) (.func (.yield h3) #[] #[]):=by simp only [Rel];exact .inr ⟨trivial,_,_,rfl,B2,by rw [qh]⟩
   have p8:bh bC (.func dB [.ptr (az (h.next+1)) 0]::cs) (.func (.yield h3) #[] #[]::eM.toList):=by simp only [bh];exact ⟨_,_,rfl,a6,bh.mono (pC.trans ma) _ _ ax⟩
   have aq:Calls P g (Value.func (Fn.yield h3) #[] #[]::eM.toList).toArray bA (rangePost (ca none) 0 P h3 dn {a with defers:=[{target:=.collected w.heap.size,args:=#[]}]++a.defers}):=(cf.calls bF sV aA bC bA _ p8 s2).mono fun e w' ay=>by
    obtain ⟨au,arj,rfl,al,_,aK⟩:=ay;simp only [rangePost];have dh:=al _ _ B2;have ah:=aK.at dh;rw [aJ] at ah;obtain ⟨p',b9,gF,cG,a8,rG⟩:=ah;rw [dh] at gF;cases gF;obtain ⟨t1,t2,t3,t4,t5,t6,t7,t8⟩:=rG;simp only at a8;rw [<-qh] at a8;have Kq:(b9.state == LoopState.busy)=false:=by
     rw [t1]
     match kq:eE.st with
     | 0=>rfl
     | 1=>exact absurd kq aR
     | n+2=>rfl
    have k0:=(art.1 a8).1
    let iA:World:={w' with heap:=w'.heap.setIfInBounds h3 (.loop {b9 with state:=.exhausted})}
    have gd:(Instr.endLoop h3).run P w'=.ok b9.pending iA:=by
     have qo:(setObj h3 (.loop {b9 with state:=.exhausted})).run P w'=.ok () iA:=by simp only [setObj,Sem.run,a8];rfl
     simp only [Instr.endLoop,Sem.run_bind,run_getLoop a8,Result.andThen_ok,Kq,arK,ar5,qo,Sem.run_pure]
    have oT:ba aA au (ab.set (az (h.next+1)) .dead) iA:=by refine aK.gone (p:=⟨bX.heap.size,0,0⟩) (by rw [aJ];rfl) dh cG (by simp [iA]) (fun j bp=>?_) rfl rfl rfl;simp only at bp;simp only [iA,arN];rw [arw (fun e=>bp (by rw [<-e,qh]))]
    have fY:hE au ar (r.set (some eG) (.tuple (.ptr (az h.next) 0::(r eG).list))) {a with defers:=[{target:=.collected w.heap.size,args:=#[]}]++a.defers}:=by
     refine ⟨k.size,?_,fun t aG=>?_⟩
     . simp only [bf.set,ar2,lY,n1,arR,asb];exact ⟨_,_,rfl,⟨_,al _ _ (ma _ _ B1),rfl⟩,(k.defers.mono (pC.trans (ma.trans al))).list⟩
     . simp only [bf.set];rw [arw aG];exact Rel.mono (pC.trans (ma.trans al)) _ _ (k.an t aG)
    refine ⟨b9.pending,iA,gd,?_⟩;rw [t2];have fin:=JH au _ iA (pC.trans (ma.trans al)) fY oT;cases ks:eE.hz with
    | none=>rw [ks] at fin;exact fin
    | some e=>rw [ks] at fin;exact adg fin
   obtain ⟨E1,afu,sV⟩:=sV;refine ⟨h3,[{target:=.collected w.heap.size,args:=#[]}],bA,{target:=.fn (.func g) eM,args:=#[]++#[.func (.yield h3) #[] #[]]},bA,g,_,bA,?_,?_,fun _ _=>trivial,?_,fun h=>by simp at h,sG.2 aq⟩
   . subst hq uW qp;have he:=run_enterLoop_outer (P:=P) (w:=w) fn a.tmps bo x y;rw [World.alloc,World.alloc] at he;simp only [Array.size_push] at qh ⊢;rw [qh];exact he
   . simp only [resolve,dr,Deferred.ofValue,Sem.run_pure];simp [Act.eval]
   . simp only [invoke];have e:(#[]++#[Value.func (.yield h3) #[] #[]]:Array Value)++eM=(Value.func (.yield h3) #[] #[]::eM.toList).toArray:=by apply ati;simp
     rw [e];exact vp bF afu sV _ bA
theorem Xt (fk:ar<=top) (cN:P.follows .mixedOrders=true) (bF:eg P):∀(c:Code) (r:bf) (h:ae) (Q:cT->bf->ae->Prop),Out ar r->ff P (eB P ar c) r h Q->
 ∃e a7 ab,Q e a7 ab/\(Out ar a7/\((eB P ar c).plain=true->a7 eG=r eG))/\Dn P ar c r h e a7 ab:=by
 intro c
 induction c with
 | skip=>
   intro r h Q aW H;exact ⟨.normal,r,h,H,⟨aW,fun _=>rfl⟩,fun rd aA E a w aD k s dn cD=>wpIn_skip (cD E a w (Env.le.refl E) k s)⟩
 | label l=>
   intro r h Q aW H;exact ⟨.normal,r,h,H,⟨aW,fun _=>rfl⟩,fun rd aA E a w aD k s dn cD=>wpIn_label (cD E a w (Env.le.refl E) k s)⟩
 | exit id=>
   intro r h Q aW H;exact ⟨.exit id,r,h,H,⟨aW,fun _=>rfl⟩,fun rd aA E a w aD k s dn cD=>wpIn_exit (cD E a w (Env.le.refl E) k s)⟩
 | ret=>
   intro r h Q aW H;exact ⟨.ret,r,h,H,⟨aW,fun _=>rfl⟩,fun rd aA E a w aD k s dn cD=>wpIn_ret (cD E a w (Env.le.refl E) k s)⟩
 | region id ops draw=>
   intro r h Q aW H;cases draw with
   | true=>
     simp only [eB,aru] at H;obtain ⟨a7,ab,al,ao,aK⟩:=acw fk cN bF (id:=id) aW H;exact ⟨.normal,a7,ab,al,⟨ao.1,fun _=>ao.2⟩,aK⟩
   | false=>
     simp only [eB,arB,ff] at H;obtain ⟨a7,ab,al,ao,aK⟩:=Xw bF ops.toList 0 (fun j=>by simp) r h _ aW H;refine ⟨.normal,a7,ab,al,⟨ao.1,fun _=>ao.2⟩,fun rd aA E a w aD k s dn cD=>?_⟩;refine wpIn_region ?_;have:=aK rd aA E a w k s dn cD;rw [List.range_eq_range'];simpa using this
 | seq x y qs qt=>
   intro r h Q aW H;simp only [eB,ff] at H;obtain ⟨e,bH,aa,al,ao,aK⟩:=qs r h _ aW H;cases e with
   | normal=>
     obtain ⟨e,c2,ad,ck,cB,eL⟩:=qt bH aa Q ao.1 al;refine ⟨e,c2,ad,ck,⟨cB.1,fun z=>by simp only [eB,a1.plain,arp] at z;exact (cB.2 z.2).trans (ao.2 z.1)⟩,fun rd aA E a w aD k s dn cD=>?_⟩;refine wpIn_seq (aK rd aA E a w (aD.imp (fun h=>h) fun h=>by simp only [noMark,arp] at h;exact h.1) k s _ fun au bm w' bN z2 z3=>?_).wp;exact (eL rd aA au bm w' (aD.imp (fun h=>h) fun h=>by simp only [noMark,arp] at h;exact h.2) z2 z3 dn fun bC a2 bA du e3 y3=>cD bC a2 bA (bN.trans du) e3 y3).wp
   | exit i=>
     refine ⟨.exit i,bH,aa,al,⟨ao.1,fun z=>by simp only [eB,a1.plain,arp] at z;exact ao.2 z.1⟩,fun rd aA E a w aD k s dn cD=>?_⟩;refine wpIn_seq (aK rd aA E a w (aD.imp (fun h=>h) fun h=>by simp only [noMark,arp] at h;exact h.1) k s _ fun au bm w' bN z2 z3=>?_).wp;exact cD au bm w' bN z2 z3
   | ret=>
     refine ⟨.ret,bH,aa,al,⟨ao.1,fun z=>by simp only [eB,a1.plain,arp] at z;exact ao.2 z.1⟩,fun rd aA E a w aD k s dn cD=>?_⟩;refine wpIn_seq (aK rd aA E a w (aD.imp (fun h=>h) fun h=>by simp only [noMark,arp] at h;exact h.1) k s _ fun au bm w' bN z2 z3=>?_).wp;exact cD au bm w' bN z2 z3
 | cond c x y qs qt=>
   intro r h Q aW H;simp only [eB,ff] at H;cases bt:(rx c).aQ r<;>rw [bt] at H<;>simp only at H<;>try (exact H.elim)
   rename_i t;have aq:∀E a,hE E ar r a->a.eval c=.bool t:=by
    intro E a k;cases c with
    | tmp d=>
      simp only [rx] at bt;cases ah:Nat.ble d top with
      | false=>rw [ah] at bt;simp [aT.aQ] at bt
      | true=>
        rw [ah] at bt;simp only [aru,aT.aQ] at bt;have:=k.an d (rU (ar7 ah));rw [bt] at this;simp only [Rel] at this;exact this
    | const v=>
      simp only [rx,aT.aQ] at bt;have:=tr E v;rw [bt] at this;simp only [Rel] at this;exact this
    | func f=>
      simp only [rx] at bt;cases ah:Nat.beq f dB<;>rw [ah] at bt<;>simp [aT.aQ] at bt
    | global g=>simp [rx,aT.aQ] at bt
   cases t with
   | true=>
     obtain ⟨e,bH,aa,al,ao,aK⟩:=qs r h Q aW (H.1 rfl);exact ⟨e,bH,aa,al,⟨ao.1,fun z=>by simp only [eB,a1.plain,arp] at z;exact ao.2 z.1⟩,fun rd aA E a w aD k s dn cD=>wpIn_cond_true (aq E a k) (aK rd aA E a w (aD.imp (fun h=>h) fun h=>by simp only [noMark,arp] at h;exact h.1) k s dn cD).wp⟩
   | false=>
     obtain ⟨e,bH,aa,al,ao,aK⟩:=qt r h Q aW (H.2 rfl);exact ⟨e,bH,aa,al,⟨ao.1,fun z=>by simp only [eB,a1.plain,arp] at z;exact ao.2 z.2⟩,fun rd aA E a w aD k s dn cD=>wpIn_cond_false (aq E a k) (aK rd aA E a w (aD.imp (fun h=>h) fun h=>by simp only [noMark,arp] at h;exact h.2) k s dn cD).wp⟩
 | block id x bc=>
   intro r h Q aW H;simp only [eB,ff] at H;obtain ⟨e,bH,aa,al,ao,aK⟩:=bc r h _ aW H;refine ⟨e.leave id,bH,aa,al,ao,fun rd aA E a w aD k s dn cD=>?_⟩;refine wpIn_block (aK rd aA E a w (aD.imp (fun h=>h) fun h=>h) k s _ fun au bm w' bN z2 z3=>?_).wp;cases e with
   | normal=>exact cD au bm w' bN z2 z3
   | ret=>exact cD au bm w' bN z2 z3
   | exit i=>
     have:=cD au bm w' bN z2 z3;simp only [toExit,Exit.inBlock];simp only [cT.leave] at this;by_cases aw:i=id
     . rw [arz aw] at this ⊢;exact this
     . rw [arw aw] at this ⊢;exact this
 | loop x bc=>
   intro r h Q aW H;simp only [eB,ff] at H;obtain ⟨I,μ,oA,KK⟩:=H;have key:∀n r h,μ r h=n->I r h->Out ar r->∃e a7 ab,Q e a7 ab/\(Out ar a7/\((eB P ar (.loop x)).plain=true->a7 eG=r eG))/\Dn P ar (.loop x) r h e a7 ab:=by
    intro n
    induction n using Nat.strongRecOn with
    | _ n K2=>
      intro r h aV oA aW;obtain ⟨e,bH,aa,al,ao,aK⟩:=bc r h _ aW (KK r h oA);have body:∀(rd:Option Nat) (aA:Fr) E a w,(rd=none\/noMark x=true)->hE E ar r a->ba aA E h w->∀(b:Frame) (cZ:List Item) (cs:List Frame),b.roundOf=rd->∃bm w' au,E.le au/\hE au ar bH bm/\ba aA au aa w'/\ArrivesIn (Machine.fenced P (ca rd)) P (lone (b.atR a (.code x::.inLoop x::cZ)) cs w) b (.inLoop x::cZ) cs (toExit e) bm w':=by intro rd aA E a w aD k s b cZ cs kt;have:=(aK rd aA E a w aD k s (fun cF bm w'=>cF=toExit e/\∃au,E.le au/\hE au ar bH bm/\ba aA au aa w') (fun au bm w' al ao aK=>⟨rfl,au,al,ao,aK⟩)).wp b (.inLoop x::cZ) cs kt trivial (GY _);obtain ⟨aR,a2,bA,⟨rfl,bC,bN,z2,z3⟩,iF⟩:=this;exact ⟨a2,bA,bC,bN,z2,z3,iF⟩
      cases e with
      | normal=>
        obtain ⟨JD,aS⟩:=al;obtain ⟨aR,c2,ad,ck,cB,eL⟩:=K2 (μ bH aa) (aV ▸ aS) bH aa rfl JD ao.1;refine ⟨aR,c2,ad,ck,⟨cB.1,fun z=>(cB.2 z).trans (ao.2 z)⟩,fun rd aA E a w aD k s dn cD b cZ cs kt=>?_⟩;obtain ⟨a2,bA,bC,bN,z2,z3,iF⟩:=body rd aA E a w (aD.imp (fun h=>h) fun h=>h) k s b cZ cs kt;obtain ⟨bP,a3,nX,du,e3⟩:=eL rd aA bC a2 bA aD z2 z3 dn (fun lZ a4 iA t1 t2 t3=>cD lZ a4 iA (bN.trans t1) t2 t3) b cZ cs kt;exact ⟨bP,a3,nX,du,.of_steps (StepsIn.trans iF (.one (p6 _) stepR_inLoop)) e3⟩
      | exit i=>
        refine ⟨.exit i,bH,aa,al,ao,fun rd aA E a w aD k s dn cD b cZ cs kt=>?_⟩;obtain ⟨a2,bA,bC,bN,z2,z3,iF⟩:=body rd aA E a w (aD.imp (fun h=>h) fun h=>h) k s b cZ cs kt;exact ⟨.exit i,a2,bA,cD bC a2 bA bN z2 z3,.pass (x:=.inLoop x) rfl (fun _ _=>.inl (by simp)) iF⟩
      | ret=>
        refine ⟨.ret,bH,aa,al,ao,fun rd aA E a w aD k s dn cD b cZ cs kt=>?_⟩;obtain ⟨a2,bA,bC,bN,z2,z3,iF⟩:=body rd aA E a w (aD.imp (fun h=>h) fun h=>h) k s b cZ cs kt;exact ⟨.ret,a2,bA,cD bC a2 bA bN z2 z3,.pass (x:=.inLoop x) rfl (fun _ _=>.inl (by simp)) iF⟩
   exact key _ r h rfl oA aW
 | scope x bc=>
   intro r h Q aW H;obtain ⟨e,bH,aa,al,ao,aK⟩:=bc r h Q aW H;refine ⟨e,bH,aa,al,ao,fun rd aA E a w aD k s dn cD=>?_⟩;refine MG (aK rd aA E a w (aD.imp (fun h=>h) fun h=>h) k s _ fun au bm w' bN z2 z3=>?_).wp;have:=cD au bm w' bN z2 z3;cases e<;>exact this
 | rangeFunc f bo x y _ _=>intro r h Q aW H;exact amR fk cN bF aW H
 | goto l=>intro r h Q aW H;exact H.elim
 | refuse Xq=>intro r h Q aW H;exact H.elim
inductive uf where
 | t (n:Nat)
 | bJ (n:Nat)
 | iQ (n size:Nat)
 | bad
def oR (P:Program) (ar:Nat):List ResultVar->List uf
 | []=>[]
 | .tmp t::rs=>(bif Nat.ble t top&&Nat.blt t ar then .t t else .bad)::oR P ar rs
 | .cell a t::rs=>(bif Nat.ble a top&&Nat.blt a ar then (match bd P t with
   | none=>.bad
   | some aP=>bif aP.agg then .iQ a aP.size else bif Nat.beq aP.size 1 then .bJ a else .bad) else .bad)::oR P ar rs
def lx (r:bf) (h:ae):List uf->Option (List V)
 | []=>some []
 | x::xs=>match (match x with
   | .t n=>some (r n)
   | .bJ n=>nN h (r n)
   | .iQ n size=>nM size h (r n)
   | .bad=>none) with
   | none=>none
   | some v=>match lx r h xs with
     | none=>none
     | some af=>some (v::af)
theorem Bm {r:bf} {h:ae} {cU:bI} (dI:eb cU=r):∀{l:List ResultVar} {af:List V},lx r h (oR P ar l)=some af->(lb P ar l).run cU h=some af
 | [],af,he=>by simpa [lx,oR,lb] using he
 | .tmp t::rs,af,he=>by
   simp only [oR,lx] at he;unfold lb;cases aq:(Nat.ble t top&&Nat.blt t ar) with
   | false=>rw [aq] at he;simp at he
   | true=>
     rw [aq] at he;simp only [aru] at he ⊢;cases aD:lx r h (oR P ar rs) with
     | none=>rw [aD] at he;cases he
     | some xI=>
       rw [aD] at he;rw [Bm dI aD];have:=congrFun dI t;simp only [eb] at this;rw [this];exact he
 | .cell a t::rs,af,he=>by
   simp only [oR,lx] at he;unfold lb;cases aq:(Nat.ble a top&&Nat.blt a ar) with
   | false=>rw [aq] at he;simp at he
   | true=>
     rw [aq] at he;simp only [aru] at he ⊢;have Tg:=congrFun dI a;simp only [eb] at Tg;rw [Tg];unfold qz;cases aG:bd P t with
     | none=>rw [aG] at he;simp at he
     | some aP=>
       rw [aG] at he;simp only at he ⊢;cases Sx:aP.agg with
       | true=>
         rw [Sx] at he;simp only [aru] at he ⊢;cases ax:nM aP.size h (r a) with
         | none=>rw [ax] at he;cases he
         | some v=>
           rw [ax] at he;simp only at he ⊢;cases aD:lx r h (oR P ar rs) with
           | none=>rw [aD] at he;cases he
           | some xI=>rw [aD] at he;rw [Bm dI aD];exact he
       | false=>
         rw [Sx] at he;simp only [arB] at he ⊢;cases aU:Nat.beq aP.size 1 with
         | false=>rw [aU] at he;simp at he
         | true=>
           rw [aU] at he;simp only [aru] at he ⊢;cases ax:nN h (r a) with
           | none=>rw [ax] at he;cases he
           | some v=>
             rw [ax] at he;simp only at he ⊢;cases aD:lx r h (oR P ar rs) with
             | none=>rw [aD] at he;cases he
             | some xI=>rw [aD] at he;rw [Bm dI aD];exact he
theorem xj:∀(l:List V) (t:Nat),bf.bU l t=(l[t]?).getD .bad
 | [],t=>by simp [bf.bU]
 | v::af,t=>by
   simp only [bf.bU];cases t with
   | zero=>simp
   | succ t=>simp [xj af t]
def cT.ends:cT->Prop
 | .exit _=>False
 | _=>True
def Cp:List V->ae->Option ae
 | [],h=>some h
 | .ptr b _::ds,h=>(match h.get b with
   | .hH=>Cp ds (h.set b .dead)
   | _=>none)
 | _::_,_=>none
theorem Uc {kN:vF}:∀{ds:List V} {h ad:ae},Cp ds h=some ad->mY kN ds none h=.go none ad
 | [],h,ad,e=>by simp only [Cp,arq] at e;subst e;rfl
 | d::ds,h,ad,e=>by
   cases d<;>simp only [Cp] at e<;>try (cases e;done)
   rename_i b o;simp only [mY];cases aF:h.get b<;>rw [aF] at e<;>simp only at e<;>try (cases e;done)
   exact Uc e
theorem ab1 (cN:P.follows .mixedOrders=true) (bF:eg P) {f:FuncId} {fn:Func} {c:Code} {args:List V} {h:ae} {K:V->ae->Prop} (av:P.funcs[f]? =some fn) (ah:fn.body=some c)
 (fk:Nat.ble fn.ntmps top=true) (a6:Nat.beq f dB=false) (kS:Nat.ble args.length fn.ntmps=true) {rc:a1} {eC:List uf} (B3:eB P fn.ntmps c=rc) (wV:oR P fn.ntmps fn.results.toList=eC) {Q:cT->bf->ae->Prop} (H:ff P rc (bf.bU args) h Q)
 (cD:∀e r ab,(rc.plain=true->r eG=.bad)->Q e r ab->e.ends/\∃ad,Cp (r eG).list ab=some ad/\∃af,lx r ad eC=some af/\K (oneOf af) ad):cR P f args h K:=by
 subst B3 wV;rw [arH] at fk kS;have aW:Out fn.ntmps (bf.bU args):=by intro t aG _;rw [xj,arW (by omega)];rfl
 have uS:(bf.bU args) eG=.bad:=by rw [xj,arW (by unfold eG;unfold top at fk;omega)];rfl
 obtain ⟨e,a7,ab,ay,qk,JP⟩:=Xt fk cN bF c _ h _ aW H;obtain ⟨gd,ad,afN,af,agK,dO⟩:=cD e a7 ab (fun z=>(qk.2 z).trans uS) ay;have h0:f≠dB:=fun e=>by subst e;simp at a6
 refine ⟨oneOf af,ad,⟨h0,.inl ⟨⟨fn,av,by rw [ah];rfl⟩,fun aA E w xs ak s=>?_⟩⟩,dO⟩;have hlen:=ak.length;have cu:xs.toArray.size<=fn.ntmps:=by simp;omega
 refine sG.1 (callsIn_of_wp_marks (F:=ca none) (n:=0) av ah trivial ?_);have k:hE E fn.ntmps (bf.bU args) {tmps:=xs.toArray++Array.replicate (fn.ntmps-xs.toArray.size) undef,defers:=[]}:=by
  refine ⟨by simp;omega,by rw [uS];simp [lY],fun t _=>?_⟩;rw [xj];cases aF:args[t]? with
  | none=>simp [Rel]
  | some v=>
    obtain ⟨y,a6,aD⟩:=ak.get t v aF;simp only [ar0];have rM:t<xs.length:=(arL.1 a6).1;rw [arQ,atf (by simpa using rM)];simp only [List.getElem?_toArray,a6,ar0];exact aD
 have kV:Ao P (fun _ _ _ _=>.fail):=fun f args u h fE ab he=>by cases he
 have fin:∀au bm w',E.le au->hE au fn.ntmps a7 bm->ba aA au ab w'->LeavesInM (ca none) 0 P fn bm.tmps (fun e w'=>∃au x,e=.returned x/\E.le au/\Rel au (oneOf af) x/\ba aA au ad w') bm.defers .returning w':=by
  intro au bm w' al ao aK;obtain ⟨cU,dI⟩:=yt qk.1;have aI:T.get .bad eN cU=a7 eG:=by have:=congrFun dI eG;simp only [eb] at this;exact this
  have aB:fg au fn.ntmps cU bm:=⟨⟨ao.size,fun t aG=>by
   have:=congrFun dI t;simp only [eb] at this;rw [this]
   exact ao.an t (rU aG)⟩,by rw [aI];exact ao.defers⟩
  refine EO (C:=⟨P,fun _=>none,fun _=>none⟩) (u:=none) bF kV aB rfl aK ?_;rw [aI,Uc afN];simp only [finish];rw [Bm dI agK];exact fun bC x bA ck cB eL=>⟨bC,x,rfl,al.trans ck,cB,eL⟩
 refine (JP none aA E _ w (.inl rfl) k s _ fun au bm w' al ao aK=>?_).wp;have:=fin au bm w' al ao aK;cases e with
 | normal=>exact this
 | ret=>exact this
 | exit i=>exact gd.elim
theorem ab2 (cN:P.follows .mixedOrders=true) (bF:eg P) {f:FuncId} {fn:Func} {c:Code} {args:List V} {h:ae} {K:V->ae->Prop} (av:P.funcs[f]? =some fn) (ah:fn.body=some c)
 (fk:Nat.ble fn.ntmps top=true) (a6:Nat.beq f dB=false) (kS:Nat.ble args.length fn.ntmps=true) {rc:a1} {eC:List uf} (B3:eB P fn.ntmps c=rc) (wV:oR P fn.ntmps fn.results.toList=eC) (dh:rc.plain=true)
 (H:ff P rc (bf.bU args) h fun e r ab=>e.ends/\∃af,lx r ab eC=some af/\K (oneOf af) ab):cR P f args h K:=by
 refine ab1 cN bF av ah fk a6 kS B3 wV H fun e r ab aU ⟨aa,af,ad,aH⟩=>⟨aa,ab,?_,af,ad,aH⟩;rw [aU dh];rfl
end
end
section
open Go Go.RowKit
variable [Lay]
theorem m_ (i j:Nat):(az i=az j)=(i=j):=by apply propext;exact ⟨h5,fun h=>by rw [h]⟩
theorem amz (af:List V):∀(i off:Nat) (x:V) (t:T V),i<off->T.put .bad x (az i) (fT t off af)=fT (T.put .bad x (az i) t) off af:=by
 induction af with
 | nil=>intro i off x t _;rfl
 | cons v af bc=>
   intro i off x t h;simp only [fT];rw [bc i (off+1) x _ (by omega),T.put_comm _ _ _ _ _ _ (fun e=>by rw [m_] at e;omega)]
def h7 (af:List V) (off:Nat) (ws:List V):List V:=af.take off++ws++af.drop (off+ws.length)
theorem VT:∀(af:List V) (base i:Nat) (x:V) (t:T V),i<af.length->T.put .bad x (az (base+i)) (fT t base af)=fT t base (af.set i x)
 | [],_,i,_,_,h=>by simp at h
 | v::af,base,i,x,t,h=>by
   cases i with
   | zero=>
     simp only [fT,asB,List.set];rw [amz af base (base+1) x _ (by omega),T.VR]
   | succ i=>
     simp only [fT,List.set];have:=VT af (base+1) i x (T.put .bad v (az base) t) (by simpa using h);rw [show base + (i+1)=base+1+i from by omega];exact this
theorem Ws (af:List V) (off:Nat) (w:V) (ws:List V) (h:off<af.length):h7 (af.set off w) (off+1) ws=h7 af off (w::ws):=by
 unfold h7;have aa:(af.set off w).take (off+1)=af.take off++[w]:=by rw [asg (by simpa using h)];simp [List.take_set_of_le]
 have ad:(af.set off w).drop (off+1+ws.length)=af.drop (off + (w::ws).length):=by rw [List.drop_set_of_lt (by omega)];congr 1;simp;omega
 rw [aa,ad];simp
theorem Hc (af:List V) (off:Nat) (ws:List V) (h:off+ws.length<=af.length):(h7 af off ws).length=af.length:=by unfold h7;simp;omega
theorem GB:∀(ws af:List V) (off:Nat),off+ws.length<=af.length->fT (fT .e 0 af) off ws=fT .e 0 (h7 af off ws)
 | [],af,off,h=>by simp [fT,h7]
 | w::ws,af,off,h=>by simp only [arA] at h;simp only [fT];have aa:=VT af 0 off w .e (by omega);rw [arV] at aa;rw [aa,GB ws (af.set off w) (off+1) (by simp;omega),Ws af off w ws (by omega)]
theorem EX (af:List V):∀(off i:Nat) (t:T V),T.get .bad (az (off+i)) (fT t off af)=if i<af.length then (af[i]?).getD .bad else T.get .bad (az (off+i)) t:=by
 induction af with
 | nil=>intro off i t;simp [fT]
 | cons v af bc=>
   intro off i t;simp only [fT];cases i with
   | zero=>
     have:∀(ws:List V) (o:Nat) (s:T V),off<o->T.get .bad (az off) (fT s o ws)=T.get .bad (az off) s:=by
      intro ws
      induction ws with
      | nil=>intro o s _;rfl
      | cons w ws ag7=>
        intro o s aW;simp only [fT];rw [ag7 (o+1) _ (by omega),T.ih,arw (fun e=>by rw [m_] at e;omega)]
     rw [asB,this af (off+1) _ (by omega),T.ih];simp
   | succ i=>
     have:=bc (off+1) i (T.put .bad v (az off) t);rw [show off+1+i=off + (i+1) from by omega] at this;rw [this,T.ih];have c_:¬az off=az (off + (i+1)):=fun e=>by rw [m_] at e;omega
     rw [arw c_];simp
theorem EZ (af:List V):∀(n i:Nat),i+n<=af.length->hK (fT .e 0 af) i n=(af.drop i).take n
 | 0,i,h=>by simp [hK]
 | n+1,i,h=>by simp only [hK];have aa:=EX af 0 i .e;rw [arV] at aa;rw [aa,arz (by omega),EZ af n (i+1) (by omega)];have aI:af.drop i=af[i]::af.drop (i+1):=ar3 (by omega);rw [aI,asA];simp [ars (by omega:i<af.length)]
def b6.bU (af:List V) (cL:Nat) (st:Bool):b6:=.cells af.length (fT .e 0 af) cL st
def b6.ro (af:List V):b6:=.view af.length (fT .e 0 af)
def nm (h:ae) (b:aM) (af:List V):Prop:=h.get b=.ro af\/∃cL st,h.get b=.bU af cL st
def Own (h:ae) (b:aM) (af:List V) (cL:Nat) (st:Bool):Prop:=h.get b=.bU af cL st
theorem nm.pL {α:Type} {h:ae} {b:aM} {af:List V} (H:nm h b af) (d:α) (f:Nat->T V->α):(h.get b).pL d f=f af.length (fT .e 0 af):=by rcases H with H | ⟨_,_,H⟩<;>rw [H]<;>rfl
theorem Own.lay {h:ae} {b:aM} {af:List V} {cL:Nat} {st:Bool} (H:Own h b af cL st) {off:Nat} {ws:List V} (aW:off+ws.length<=af.length) (aa:e9 ws=true):
 lay h b off ws=some (h.set b (.bU (h7 af off ws) cL st)):=by
 unfold aX.lay;rw [show h.get b=.cells af.length (fT .e 0 af) cL st from H];simp only [b6.on];rw [show Nat.ble (off+ws.length) af.length=true from by rw [arH];exact aW,aa];simp only [asx,aru,arq,b6.bU];rw [Hc af off ws aW,GB ws af off aW]
theorem UO {h:ae} {af:List V} (ax:af.length<=top):gh h af=some (h.new (.bU af 0 false)):=by unfold gh;rw [show Nat.ble af.length top=true from by rw [arH];exact ax];rfl
theorem CE {h:ae} {af:List V} {cL:Nat} {st:Bool} (ax:af.length<=top) (he:1<=cL):lM h af cL st=some (h.new (.bU af cL st)):=by unfold lM;rw [show Nat.ble af.length top=true from by rw [arH];exact ax,show Nat.ble 1 cL=true from by rw [arH];exact he];rfl
theorem gv (h:ae) (k:b6):(h.new k).next=h.next+1:=rfl
theorem nP (h:ae) (b:aM) (k:b6):(h.set b k).next=h.next:=rfl
section
variable {P:Program} {r:bf} {h:ae}
theorem anv (r:bf) (d:Nat) (v:V) (t:Nat):bf.set r (some d) v t=if t=d then v else r t:=(rfl)
theorem anw (r:bf) (v:V):bf.set r none v=r:=(rfl)
theorem aov (r:bf) (u:Nat) (us:List Nat) (t:Nat):bf.trim r (u::us) t=if t=u then r t else bf.trim r us t:=(rfl)
theorem alm (v:V) (af:List V):bf.bU (v::af) 0=v:=(rfl)
theorem aln (v:V) (af:List V) (t:Nat):bf.bU (v::af) (t+1)=bf.bU af t:=by simp [bf.bU]
theorem ac8 (r:bf) (n:Nat):aT.aQ r (.t n)=r n:=(rfl)
theorem ac7 (r:bf) (v:V):aT.aQ r (.c v)=v:=(rfl)
theorem U1 {d:Option Nat} {g:G} {rs:List Nat} {K:bf->V->ae->Prop}:bx.wp P ⟨d,g,none,rs⟩ r h K=g.wp P (r.trim rs) h fun v ab=>K (r.set d v) v ab:=(rfl)
theorem UZ {d:Option Nat} {g:G} {j:Nat} {want:Bool} {rs:List Nat} {K:bf->V->ae->Prop}:bx.wp P ⟨d,g,some (j,want),rs⟩ r h K=
 gate (r.trim rs j) want (g.wp P (r.trim rs) h fun v ab=>K (r.set d v) v ab) (K (r.set d (.tuple [])) (.tuple []) h):=(rfl)
variable {K:V->ae->Prop}
theorem pc (k:IntKind):pb k k=true:=by cases k<;>rfl
theorem pD (a b:Int):Int.leB a b=decide (a<=b):=pE a b
theorem ED (a b:Int):Int.gQ a b=decide (a=b):=by rw [mE];rfl
variable (k:IntKind) (a b:Int)
theorem aht:(eX.int .add).run P (.int k a) (.int k b)=some (.int k (k.wrap (a+b))):=by simp [eX.run,l',pA,V.eu,pc]
theorem aiH:(eX.int .sub).run P (.int k a) (.int k b)=some (.int k (k.wrap (a-b))):=by simp [eX.run,l',pA,V.eu,pc]
theorem aim:(eX.int .mul).run P (.int k a) (.int k b)=some (.int k (k.wrap (a * b))):=by simp [eX.run,l',pA,V.eu,pc]
theorem ahR:(eX.int .eql).run P (.int k a) (.int k b)=some (.bool (decide (a=b))):=by simp [eX.run,l',nH,V.eu,pc,ED]
theorem aip:(eX.int .neq).run P (.int k a) (.int k b)=some (.bool (!decide (a=b))):=by simp [eX.run,l',nH,V.eu,pc,ED]
theorem aif:(eX.int .lss).run P (.int k a) (.int k b)=some (.bool (decide (a<b))):=by simp [eX.run,l',nH,V.eu,pc,pD];rw [ass];simp
theorem aia:(eX.int .leq).run P (.int k a) (.int k b)=some (.bool (decide (a<=b))):=by simp [eX.run,l',nH,V.eu,pc,pD]
theorem ah0:(eX.int .gtr).run P (.int k a) (.int k b)=some (.bool (decide (b<a))):=by simp [eX.run,l',nH,V.eu,pc,pD];rw [ass];simp
theorem ahZ:(eX.int .geq).run P (.int k a) (.int k b)=some (.bool (decide (b<=a))):=by simp [eX.run,l',nH,V.eu,pc,pD]
theorem ahw (x y:Bool):(eX.Bk false).run P (.bool x) (.bool y)=some (.bool (x == y)):=by simp [eX.run,jD,Bi,rj]
theorem ahA (x y:Bool):(eX.Bk true).run P (.bool x) (.bool y)=some (.bool (!(x == y))):=by simp [eX.run,jD,Bi,rj]
theorem aoG (x:Bool):r8 .not (.bool x)=some (.bool (!x)):=(rfl)
theorem aoF:r8 .neg (.int k a)=some (.int k (k.wrap (0-a))):=(rfl)
theorem wrap_i64 {n:Int} (aa:-9223372036854775808<=n) (ad:n<=9223372036854775807):IntKind.i64.wrap n=n:=by exact Go.IntWalk.i64_in n ⟨aa,ad⟩
end
section
variable {P:Program} {r:bf} {h:ae} {Q:cT->bf->ae->Prop}
theorem aa8 {ops:List bx}:ff P (.an ops) r h Q=oV P ops r h (Q .normal):=(rfl)
theorem aa9 {a b:a1}:ff P (.seq a b) r h Q=ff P a r h fun e a7 ab=>e.andThen (ff P b a7 ab Q) (Q e a7 ab):=(rfl)
theorem aoo {A B:Prop}:cT.andThen .normal A B=A:=(rfl)
theorem aop {A B:Prop}:cT.andThen .ret A B=B:=(rfl)
theorem aom {A B:Prop} {i:Nat}:cT.andThen (.exit i) A B=B:=(rfl)
theorem aj6 {id:Nat}:cT.leave id .normal=.normal:=(rfl)
theorem aj7 {id:Nat}:cT.leave id .ret=.ret:=(rfl)
theorem aj5 {id i:Nat}:cT.leave id (.exit i)=if i=id then .normal else .exit i:=(rfl)
end
def xJ {α:Type} (o:Option α) (k:α->Prop):Prop:=
 match o with
 | some v=>k v
 | none=>False
@[congr] theorem aq_ {α:Type} {o b9:Option α} {k:α->Prop} (h:o=b9):xJ o k=xJ b9 k:=by rw [h]
def V.opt (c:Bool) (v:V):V:=bif c then v else .tuple []
theorem al0 (v:V):V.opt true v=v:=(rfl)
theorem alX (v:V):V.opt false v=.tuple []:=(rfl)
@[congr] theorem aqQ {c fz:Bool} {v cl:V} (h:c=fz) (bt:fz=true->v=cl):V.opt c v=V.opt fz cl:=by
 subst h;cases c with
 | true=>rw [bt rfl]
 | false=>rfl
def V.bif (t:Bool) (a b:V):V:=bif t then a else b
theorem aoL (a b:V):V.bif true a b=a:=(rfl)
theorem aoK (a b:V):V.bif false a b=b:=(rfl)
theorem ZJ (t a b:Bool):V.bif t (.bool a) (.bool b)=.bool (bif t then a else b):=by cases t<;>rfl
theorem ZK (t:Bool) (k:IntKind) (a b:Int):V.bif t (.int k a) (.int k b)=.int k (if t=true then a else b):=by cases t<;>rfl
theorem ZM (t x:Bool):(bif t then true else x)=(t||x):=by cases t<;>rfl
theorem ZI (t x:Bool):(bif t then x else false)=(t&&x):=by cases t<;>rfl
@[congr] theorem apB {t tL:Bool} {a bm b bR:V} (h:t=tL) (bs:tL=true->a=bm) (ah:tL=false->b=bR):V.bif t a b=V.bif tL bm bR:=by
 subst h;cases t with
 | true=>rw [V.bif,V.bif,bs rfl];rfl
 | false=>rw [V.bif,V.bif,ah rfl];rfl
def eS (c:Bool) (A:Prop):Prop:=c=true->A
@[congr] theorem apo {c fz:Bool} {A i_:Prop} (h:c=fz) (bs:fz=true->A=i_):eS c A=eS fz i_:=by subst h;exact propext ⟨fun q e=>(bs e) ▸ q e,fun q e=>(bs e) ▸ q e⟩
theorem X2 (c:Bool):eS c True=True:=propext ⟨fun _=>trivial,fun _ _=>trivial⟩
theorem X4 (A:Prop):eS true A=A:=propext ⟨fun q=>q rfl,fun q _=>q⟩
theorem X3 (A:Prop):eS false A=True:=propext ⟨fun _=>trivial,fun _ e=>by cases e⟩
def took (v:V) (want:Bool):Bool:=
 match v with
 | .bool b=>b == want
 | _=>false
theorem aos (b w:Bool):took (.bool b) w=(b == w):=(rfl)
theorem aou (af:List V) (w:Bool):took (.tuple af) w=false:=(rfl)
theorem aot (c:Bool) (v:V) (w:Bool):took (.opt c v) w=(c&&took v w):=by cases c<;>rfl
def fb (v:V):Prop:=
 match v with
 | .bool _=>True
 | .tuple _=>True
 | _=>False
theorem ahj (b:Bool):fb (.bool b)=True:=(rfl)
theorem ahl (af:List V):fb (.tuple af)=True:=(rfl)
theorem ahk (c b:Bool):fb (.opt c (.bool b))=True:=by cases c<;>rfl
def G.pB:G->Bool
 | .cO _ | .pick .. | .build .. | .dR _ | .fL .. | .tq _ | .bin .. | .un .. | .fn .. | .CC .. | .D6 .. | .tc .. | .r6 .. | .eW .. | .dZ .. | .ph .. | .wj .. | .cd .. | .uY .. | .l_ .. | .j2 .. | .look .. | .ext .. | .zo _ | .en _ | .ye _ | .zj .. | .looks .. | .xn .. =>true
 | .dC (.int _) _=>true
 | .len .map _=>false
 | .len _ _=>true
 | _=>false
def V.ts {α:Type} (v:V) (d:α) (f:List V->α):α:=
 match v with
 | .agg cs=>f cs
 | _=>d
def V.CK {α:Type} (v:V) (d:α) (f:List V->α):α:=
 match v with
 | .tuple cs=>f cs
 | _=>d
def CU (c a b:V):Option V:=
 match c with
 | .bool t=>some (V.bif t a b)
 | _=>none
theorem amh (t:Bool) (a b:V):CU (.bool t) a b=some (V.bif t a b):=(rfl)
def qR (n:Nat) (x:V) (bS aw m3:Option V):Option V:=
 match x with
 | .bj=>G_ bS aw m3
 | .slice b off xa cap=>vr n b off xa cap bS aw m3
 | .ew b off xa idx=>xB n b off xa idx bS aw m3
 | .g' b off k7 idx=>Ha b off k7 idx bS aw m3
 | _=>none
def G.gi (P:Program) (g:G) (r:bf) (h:ae):Option V:=
 match g with
 | .cO x=>some (x.aQ r)
 | .pick c a b=>CU (c.aQ r) (a.aQ r) (b.aQ r)
 | .build z bo=>(match jc z (kQ r bo) with
   | some cs=>some (.agg cs)
   | none=>none)
 | .dR x=>nN h (x.aQ r)
 | .fL n x=>nM n h (x.aQ r)
 | .tq x=>vb (x.aQ r)
 | .bin k x y=>k.run P (x.aQ r) (y.aQ r)
 | .un op x=>r8 op (x.aQ r)
 | .dC (.int k) x=>(x.aQ r).eu none fun _ n=>some (.int k (k.wrap n))
 | .fn f eM=>some (.func f (aT.fI r eM))
 | .CC f first=>some (.me f (aT.fI r first))
 | .D6 t z ok x=>AY t z ok (x.aQ r)
 | .tc t x=>some (.iface t (x.aQ r))
 | .r6 x bS aw m3=>nd (x.aQ r) (aT.opt r bS) (aT.opt r aw) (aT.opt r m3)
 | .eW n x bS aw m3=>qR n (x.aQ r) (aT.opt r bS) (aT.opt r aw) (aT.opt r m3)
 | .dZ off x=>(x.aQ r).jh none fun b o=>some (.ptr b (o+off))
 | .ph off x=>(x.aQ r).ts none fun cs=>cs[off]?
 | .wj off n x=>(x.aQ r).ts none fun cs=>some (.agg ((cs.drop off).take n))
 | .cd n x i=>(w3 n).run (x.aQ r) (i.aQ r)
 | .uY n s x i=>(te n s).run (x.aQ r) (i.aQ r)
 | .l_ x i=>tg.run (x.aQ r) (i.aQ r)
 | .j2 t x i=>(tf P t).run (x.aQ r) (i.aQ r)
 | .look k z ok x i=>gK k.eq z ok h (x.aQ r) (i.aQ r)
 | .ext x i=>(x.aQ r).CK none fun af=>af[i]?
 | .len (.arr n) _=>some (.int .i64 n)
 | .len .str x=>(pF .string).run (x.aQ r)
 | .len .slice x=>(pF (.slice 0)).run (x.aQ r)
 | .zo args=>k9 (fun b a=>!Int.leB a b) (aT.fI r args)
 | .en args=>k9 (fun b a=>!Int.leB b a) (aT.fI r args)
 | .ye x=>ur (x.aQ r)
 | .zj z ok x i=>hv ⟨jL h⟩ z ok h (x.aQ r) (i.aQ r)
 | .looks k z ok x i=>bif lK P k (i.aQ r) then hv (structEq P k) z ok h (x.aQ r) (i.aQ r) else none
 | .xn neg x y=>zG neg h (x.aQ r) (y.aQ r)
 | _=>none
section
variable {P:Program} {r:bf} {h:ae}
theorem pure_run {g:G} (ag:g.pB=true) (call:dT):g.run P call r h=a'.of h (g.gi P r h):=by
 cases g<;>simp only [G.pB] at ag<;>try (cases ag;done)
 all_goals simp only [G.run,G.gi]
 case cO x=>rfl
 case pick c a b=>
  generalize c.aQ r=q;cases q<;>rfl
 case build z bo=>
  generalize jc z (kQ r bo)=q;cases q<;>rfl
 case dC k x=>
  cases k<;>simp only at ag<;>try (cases ag;done)
  simp only [tV.run];generalize x.aQ r=q;cases q<;>rfl
 case fn f eM=>rfl
 case CC f first=>rfl
 case tc t x=>rfl
 case eW n x bS aw m3=>
  unfold qR;generalize x.aQ r=q;cases q<;>rfl
 case ph off x=>
  generalize x.aQ r=q;cases q<;>rfl
 case wj off n x=>
  generalize x.aQ r=q;cases q<;>rfl
 case ext x i=>
  generalize x.aQ r=q;cases q<;>rfl
 case len k x=>
  cases k<;>simp only at ag<;>first | rfl | (cases ag;done)
theorem R4 {g:G} (ag:g.pB=true) {K:V->ae->Prop}:g.wp P r h K=xJ (g.gi P r h) fun v=>K v h:=by
 have e:g.wp P r h K=∃v ab,g.run P lN r h=.val v ab/\K v ab:=by cases g<;>first | rfl | (simp [G.pB] at ag;done)
 rw [e,pure_run ag];apply propext;cases bt:g.gi P r h with
 | none=>exact ⟨fun ⟨v,ab,q,_⟩=>(by cases q),fun q=>q.elim⟩
 | some v=>
   constructor
   . rintro ⟨v1,aa,q,k⟩;simp only [a'.of,a'.val.injEq] at q;obtain ⟨rfl,rfl⟩:=q;exact k
   . intro k;exact ⟨v,h,rfl,k⟩
theorem U2 {d:Option Nat} {g:G} {rs:List Nat} {K:bf->V->ae->Prop} (ag:g.pB=true):bx.wp P ⟨d,g,none,rs⟩ r h K=xJ (g.gi P (r.trim rs) h) fun v=>K (r.set d v) v h:=by rw [U1,R4 ag]
theorem U0 {d:Option Nat} {g:G} {j:Nat} {want:Bool} {rs:List Nat} {K:bf->V->ae->Prop} (ag:g.pB=true):bx.wp P ⟨d,g,some (j,want),rs⟩ r h K=
 (fb (r.trim rs j)/\eS (took (r.trim rs j) want) ((g.gi P (r.trim rs) h).isSome=true)/\
   K (r.set d (V.opt (took (r.trim rs j) want) ((g.gi P (r.trim rs) h).getD .bad))) (V.opt (took (r.trim rs j) want) ((g.gi P (r.trim rs) h).getD .bad)) h):=by
 rw [UZ,R4 ag];generalize r.trim rs j=q;generalize g.gi P (r.trim rs) h=o;apply propext;cases q<;>simp only [gate,fb,took,atL,atn]
 case bool b=>
  cases b<;>cases want<;>cases o<;>simp [xJ,eS,V.opt]
 case tuple af=>simp [eS,V.opt]
@[congr] theorem are {os:List bx} {r a7:bf} {h ab:ae} {K:bf->ae->Prop} (aJ:r=a7) (aR:h=ab):oV P os r h K=oV P os a7 ab K:=by rw [aJ,aR]
@[congr] theorem arc {os:List bx} {r a7:bf} {h ab:ae} {K:List fM->bf->ae->Prop} (aJ:r=a7) (aR:h=ab):kH P os r h K=kH P os a7 ab K:=by rw [aJ,aR]
@[congr] theorem apm {o:bx} {r a7:bf} {h ab:ae} {K:bf->V->ae->Prop} (aJ:r=a7) (aR:h=ab):o.wp P r h K=o.wp P a7 ab K:=by rw [aJ,aR]
@[congr] theorem apn {g:G} {r a7:bf} {h ab:ae} {K:V->ae->Prop} (aJ:r=a7) (aR:h=ab):g.wp P r h K=g.wp P a7 ab K:=by rw [aJ,aR]
@[congr] theorem arb {c:a1} {r a7:bf} {h ab:ae} {Q:cT->bf->ae->Prop} (aJ:r=a7) (aR:h=ab):ff P c r h Q=ff P c a7 ab Q:=by rw [aJ,aR]
@[congr] theorem apk {f:FuncId} {a bm:List V} {h ab:ae} {K:V->ae->Prop} (aJ:a=bm) (aR:h=ab):cR P f a h K=cR P f bm ab K:=by rw [aJ,aR]
def gq (k:b6) (off:Nat):Option V:=k.pL none fun n cs=>bif Nat.blt off n then some (T.get .bad (az off) cs) else none
def mW (n:Nat) (k:b6) (off:Nat):Option V:=k.pL none fun m cs=>bif Nat.ble (off+n) m then some (.agg (hK cs off n)) else none
theorem akn (b:aM) (off:Nat):nN h (.ptr b off)=gq (h.get b) off:=(rfl)
theorem akp (n:Nat) (b:aM) (off:Nat):nM n h (.ptr b off)=mW n (h.get b) off:=(rfl)
theorem T' {af:List V} {off:Nat}:(bif Nat.blt off af.length then some (T.get .bad (az off) (fT .e 0 af)) else none)=af[off]? :=by
 have:=EX af 0 off .e;rw [arV] at this;rw [this];by_cases aW:off<af.length
 . rw [show Nat.blt off af.length=true from by rw [arS];exact aW,arz aW];simp [ars aW]
 . rw [show Nat.blt off af.length=false from by rw [<-ar4,arS];exact aW];rw [arW (by omega)];rfl
theorem T8 (af:List V) (cL:Nat) (st:Bool) (off:Nat):gq (.bU af cL st) off=af[off]? :=T'
theorem T9 (af:List V) (off:Nat):gq (.ro af) off=af[off]? :=T'
theorem Ub {af:List V} {off n:Nat}:(bif Nat.ble (off+n) af.length then some (V.agg (hK (fT .e 0 af) off n)) else none)=if off+n<=af.length then some (.agg ((af.drop off).take n)) else none:=by
 by_cases aW:off+n<=af.length
 . rw [show Nat.ble (off+n) af.length=true from by rw [arH];exact aW,arz aW,EZ af n off aW];rfl
 . rw [show Nat.ble (off+n) af.length=false from by rw [<-ar4,arH];exact aW,arw aW];rfl
theorem T_ (n:Nat) (af:List V) (cL:Nat) (st:Bool) (off:Nat):mW n (.bU af cL st) off=if off+n<=af.length then some (.agg ((af.drop off).take n)) else none:=Ub
theorem Ua (n:Nat) (af:List V) (off:Nat):mW n (.ro af) off=if off+n<=af.length then some (.agg ((af.drop off).take n)) else none:=Ub
theorem nm.dR {b:aM} {af:List V} (H:nm h b af) (off:Nat):gq (h.get b) off=af[off]? :=by
 rcases H with H | ⟨_,_,H⟩<;>rw [H]
 . exact T9 af off
 . exact T8 af _ _ off
theorem nm.fL {b:aM} {af:List V} (H:nm h b af) (n off:Nat):mW n (h.get b) off=if off+n<=af.length then some (.agg ((af.drop off).take n)) else none:=by
 rcases H with H | ⟨_,_,H⟩<;>rw [H]
 . exact Ua n af off
 . exact T_ n af _ _ off
def over:List V->List V->List V
 | af,[]=>af
 | [],_::_=>[]
 | _::af,w::ws=>w::over af ws
def nV:List V->Nat->List V->List V
 | af,0,ws=>over af ws
 | [],_+1,_=>[]
 | v::af,n+1,ws=>v::nV af n ws
theorem Vn:∀(af ws:List V),ws.length<=af.length->over af ws=ws++af.drop ws.length
 | af,[],_=>by cases af<;>rfl
 | [],_::_,h=>by simp at h
 | v::af,w::ws,h=>by simp only [over,arR,arA,as0];rw [Vn af ws (by simpa using h)]
theorem zV:∀(af:List V) (off:Nat) (ws:List V),off+ws.length<=af.length->nV af off ws=h7 af off ws
 | af,0,ws,h=>by cases af<;>simp only [nV,h7,atF,asb,arV]<;>exact Vn _ ws (by omega)
 | [],n+1,ws,h=>by simp at h
 | v::af,n+1,ws,h=>by simp only [arA] at h;simp only [nV,h7];rw [zV af n ws (by omega)];simp only [h7,asA,arR];rw [show n+1+ws.length=n+ws.length+1 from by omega,as0]
theorem MK (af:List V) (off:Nat) (ws:List V) (h:off+ws.length<=af.length):(nV af off ws).length=af.length:=by rw [zV af off ws h,Hc af off ws h]
def nK (n:Nat) (h:ae) (b:aM) (off:Nat) (y:V) (k:b6):Option ae:=
 bif Nat.beq y.cells.length n then k.on none fun m cs cL st=>
  bif Nat.ble (off+y.cells.length) m&&e9 y.cells then some (h.set b (.cells m (fT cs off y.cells) cL st)) else none else none
theorem anZ (n:Nat) (b:aM) (off:Nat) (y:V):xC n h (.ptr b off) y=nK n h b off y (h.get b):=(rfl)
theorem Li {n:Nat} {b:aM} {off:Nat} {y:V} {af:List V} {cL:Nat} {st:Bool} (aa:y.cells.length=n) (ad:e9 y.cells=true) (aH:off+n<=af.length):
 nK n h b off y (.bU af cL st)=some (h.set b (.bU (nV af off y.cells) cL st)):=by
 unfold nK;rw [show Nat.beq y.cells.length n=true from by rw [arZ];exact aa];simp only [aru,b6.bU,b6.on];rw [show Nat.ble (off+y.cells.length) af.length=true from by rw [arH,aa];exact aH,ad];simp only [asx,aru,arq];rw [MK af off _ (by rw [aa];exact aH),zV af off _ (by rw [aa];exact aH),GB _ af off (by rw [aa];exact aH)]
theorem rq (k:b6):(h.new k).get (az h.next)=k:=by rw [ae.ig,arz rfl]
theorem ig (b:aM) (k:b6):(h.new k).get b=if az h.next=b then k else h.get b:=ae.ig h b k
theorem ea (b bR:aM) (k:b6):(h.set b k).get bR=if b=bR then k else h.get bR:=ae.ea h b bR k
def Old (h:ae) (b:aM):Prop:=b0 b<h.next
theorem vf:∀b:aM,az (b0 b)=b:=by
 have key:∀(b:aM) (d:Nat),b0 b+1<2 ^ d->ve d (b0 b)=b:=by
  intro b
  induction b with
  | z=>intro d aI;cases d<;>rfl
  | l p bc=>
    intro d aI;cases d with
    | zero=>simp [b0] at aI
    | succ d=>
      have ad:2 ^ (d+1)=2 * 2 ^ d:=by rw [Nat.pow_succ];omega
      rw [ad] at aI;simp only [b0] at aI ⊢;simp only [ve,hG];rw [arw (by omega),arz (by omega),show (2 * b0 p+1) / 2=b0 p from by omega,bc d (by omega)]
  | r p bc=>
    intro d aI;cases d with
    | zero=>simp [b0] at aI
    | succ d=>
      have ad:2 ^ (d+1)=2 * 2 ^ d:=by rw [Nat.pow_succ];omega
      rw [ad] at aI;simp only [b0] at aI ⊢;simp only [ve,hG];rw [arw (by omega),arw (by omega),show (2 * b0 p+2) / 2-1=b0 p from by omega,bc d (by omega)]
 intro b;exact key b _ Nat.lt_log2_self
theorem LY {b:aM} {i:Nat} (ah:Old h b) (aw:h.next<=i):(az i=b)=False:=by
 apply propext;constructor
 . intro e;unfold Old at ah;rw [<-e,c7] at ah;omega
 . exact False.elim
theorem alw {b:aM} {k:b6} (ah:Old h b):Old (h.new k) b:=Nat.lt_succ_of_lt ah
theorem U' {k:b6}:Old (h.new k) (az h.next):=by unfold Old;rw [c7];exact Nat.lt_succ_self _
def EI (off:Nat) (x:V):Option V:=x.jh none fun b o=>some (.ptr b (o+off))
theorem adj (off:Nat) (b:aM) (o:Nat):EI off (.ptr b o)=some (.ptr b (o+off)):=(rfl)
theorem alz {α:Type} (af:List V) (d:α) (f:List V->α):V.CK (.tuple af) d f=f af:=(rfl)
theorem aly {α:Type} (af:List V) (d:α) (f:List V->α):V.ts (.agg af) d f=f af:=(rfl)
def ht (x:V):Option V:=(pF (.slice 0)).run x
theorem akb (b:aM) (off n c:Nat):ht (.slice b off n c)=some (.int .i64 n):=(rfl)
theorem aj_ (b:aM) (off n c:Nat):ht (.ew b off n c)=some (.int .i64 n):=(rfl)
theorem akc (b:aM) (off n c:Nat):ht (.g' b off n c)=some (.int .i64 0):=(rfl)
theorem aka:ht .bj=some (.int .i64 0):=(rfl)
def F1 (x:V):Option V:=(pF .string).run x
theorem akd (s:List UInt8):F1 (.str s)=some (.int .i64 s.length):=(rfl)
def fX (n:Nat) (x i:V):Option V:=(w3 n).run x i
theorem FP (n:Nat) (b:aM) (off len cap:Nat) (k:IntKind) (i:Int):fX n (.slice b off len cap) (.int k i)=if 0<=i/\i<len then some (.ptr b (off+i.toNat * n)) else none:=by simp only [fX,w3,V.eu,u1,pD];by_cases aa:0<=i<;>by_cases ad:(len:Int)<=i<;>simp [aa,ad]<;>omega
theorem FO (n:Nat) (b:aM) (off len cap:Nat) (k:IntKind) (i:Int):fX n (.ew b off len cap) (.int k i)=if 0<=i/\i<len then some (.ptr b (off+i.toNat * n)) else none:=by simp only [fX,w3,V.eu,u1,pD];by_cases aa:0<=i<;>by_cases ad:(len:Int)<=i<;>simp [aa,ad]<;>omega
def Ep (k:IntKind) (x:V):Option V:=x.eu none fun _ n=>some (.int k (k.wrap n))
theorem ab5 (k br:IntKind) (n:Int):Ep k (.int br n)=some (.int k (k.wrap n)):=(rfl)
end
structure ja where
 all:List bx
 asks:List (Nat × List Nat)
 es:List fM
def jM (D:Option ja) (r:bf) (h:ae) (v:V):Option ja:=
 match D with
 | none=>none
 | some d=>some ⟨d.all,d.asks,d.es++[⟨r,h,v⟩]⟩
inductive iC where
 | os (D:Option ja) (os:List bx)
 | c (b:a1)
 | aZ (id:Nat)
section
variable (P:Program)
def vU (D:Option ja) (es:List fM) (av:ae):Prop:=
 match D with
 | none=>True
 | some d=>pX P d.all (d.es++es) av d.asks
def bq:List iC->cT->bf->ae->(cT->bf->ae->Prop)->Prop
 | [],e,r,h,Q=>Q e r h
 | .os D os::aN,e,r,h,Q=>match e with
   | .normal=>kH P os r h fun es a7 ab=>vU P D es ab/\bq aN .normal a7 ab Q
   | e=>bq aN e r h Q
 | .c b::aN,e,r,h,Q=>match e with
   | .normal=>ff P b r h fun e a7 ab=>bq aN e a7 ab Q
   | e=>bq aN e r h Q
 | .aZ id::aN,e,r,h,Q=>bq aN (e.leave id) r h Q
def dk (o:Option V) (d:Option Nat) (D:Option ja) (os:List bx) (aN:List iC) (r:bf) (h:ae) (Q:cT->bf->ae->Prop):Prop:=
 xJ o fun v=>bq P (.os (jM D r h v) os::aN) .normal (r.set d v) h Q
def hi (o:a') (d:Option Nat) (D:Option ja) (os:List bx) (aN:List iC) (r:bf) (aY:ae) (Q:cT->bf->ae->Prop):Prop:=
 match o with
 | .val v h=>bq P (.os (jM D r aY v) os::aN) .normal (r.set d v) h Q
 | _=>False
def e7 (v:V) (want:Bool) (d:Option Nat) (g:G) (rs:List Nat) (D:Option ja) (os:List bx) (aN:List iC) (r:bf) (h:ae) (Q:cT->bf->ae->Prop):Prop:=
 gate v want (bq P (.os D (⟨d,g,none,rs⟩::os)::aN) .normal r h Q) (bq P (.os (jM D r h (.tuple [])) os::aN) .normal (r.set d (.tuple [])) h Q)
def yg (v:V) (a b:a1) (aN:List iC) (r:bf) (h:ae) (Q:cT->bf->ae->Prop):Prop:=
 match v with
 | .bool t=>(t=true->bq P (.c a::aN) .normal r h Q)/\(t=false->bq P (.c b::aN) .normal r h Q)
 | _=>False
def ra (f:FuncId) (args:List V) (d:Option Nat) (D:Option ja) (os:List bx) (aN:List iC) (r:bf) (h:ae) (Q:cT->bf->ae->Prop):Prop:=
 cR P f args h fun v ab=>bq P (.os (jM D r h v) os::aN) .normal (r.set d v) ab Q
def Ni (xs:List V) (d:Option Nat) (D:Option ja) (os:List bx) (aN:List iC) (r:bf) (h:ae) (Q:cT->bf->ae->Prop):Prop:=
 Oa P xs h fun v ab=>bq P (.os (jM D r h v) os::aN) .normal (r.set d v) ab Q
def IN (g:FuncId) (xs:List V) (d:Option Nat) (D:Option ja) (os:List bx) (aN:List iC) (r:bf) (h:ae) (Q:cT->bf->ae->Prop):Prop:=
 if g=4294967296 then Ni P xs d D os aN r h Q else ra P g xs d D os aN r h Q
def yd (f:V) (args:List V) (d:Option Nat) (D:Option ja) (os:List bx) (aN:List iC) (r:bf) (h:ae) (Q:cT->bf->ae->Prop):Prop:=
 ∃g xs,f.target args=some (g,xs)/\IN P g xs d D os aN r h Q
def F8 (b:a1) (aN:List iC) (r:bf) (h:ae) (Q:cT->bf->ae->Prop):Prop:=ff P (.loop b) r h fun e a7 ab=>bq P aN e a7 ab Q
end
section
variable {P:Program} {r:bf} {h:ae} {Q:cT->bf->ae->Prop} {aN:List iC} {os:List bx} {D:Option ja}
theorem amu (r:bf) (h:ae) (v:V):jM none r h v=none:=(rfl)
theorem amv (all:List bx) (asks:List (Nat × List Nat)) (es:List fM) (r:bf) (h:ae) (v:V):jM (some ⟨all,asks,es⟩) r h v=some ⟨all,asks,es++[⟨r,h,v⟩]⟩:=(rfl)
theorem cp {c:a1} (H:bq P [.c c] .normal r h Q):ff P c r h Q:=H
theorem air {e:cT}:bq P [] e r h Q=Q e r h:=(rfl)
theorem ahy {e:cT} {id:Nat}:bq P (.aZ id::aN) e r h Q=bq P aN (e.leave id) r h Q:=(rfl)
theorem aiC {a b:a1}:bq P (.c (.seq a b)::aN) .normal r h Q=bq P (.c a::.c b::aN) .normal r h Q:=by simp only [bq];rw [aa9];congr 1;funext e a7 ab;cases e<;>rfl
theorem ahz {id:Nat} {b:a1}:bq P (.c (.block id b)::aN) .normal r h Q=bq P (.c b::.aZ id::aN) .normal r h Q:=(rfl)
theorem Xu:∀(os:List bx) (r:bf) (h:ae) (K:bf->ae->Prop),kH P os r h (fun _ r h=>K r h)=oV P os r h K
 | [],_,_,_=>rfl
 | o::os,r,h,K=>by simp only [kH,oV];congr 1;funext a7 v ab;exact Xu os a7 ab K
theorem aiy {ops:List bx}:bq P (.c (.an ops)::aN) .normal r h Q=bq P (.os none ops::aN) .normal r h Q:=by simp only [bq,vU,atn];rw [Xu,aa8]
theorem aiD:bq P (.c .skip::aN) .normal r h Q=bq P aN .normal r h Q:=(rfl)
theorem aiz:bq P (.c .ret::aN) .normal r h Q=bq P aN .ret r h Q:=(rfl)
theorem ahT {i:Nat}:bq P (.c (.exit i)::aN) .normal r h Q=bq P aN (.exit i) r h Q:=(rfl)
theorem ahJ {b:a1}:bq P (.c b::aN) .ret r h Q=bq P aN .ret r h Q:=(rfl)
theorem ahG {b:a1} {i:Nat}:bq P (.c b::aN) (.exit i) r h Q=bq P aN (.exit i) r h Q:=(rfl)
theorem ahH {c:aT} {a b:a1}:bq P (.c (.cond c a b)::aN) .normal r h Q=yg P (c.aQ r) a b aN r h Q:=by simp only [bq,ff];cases c.aQ r<;>rfl
theorem aie {b:a1}:bq P (.c (.loop b)::aN) .normal r h Q=F8 P b aN r h Q:=(rfl)
theorem ahP {ops:List bx} {asks:List (Nat × List Nat)}:bq P (.c (.draw ops asks)::aN) .normal r h Q=bq P (.os (some ⟨ops,asks,[]⟩) ops::aN) .normal r h Q:=(rfl)
theorem aiv:bq P (.os none []::aN) .normal r h Q=bq P aN .normal r h Q:=by simp only [bq,kH,vU,atn]
theorem ahO {all:List bx} {asks:List (Nat × List Nat)} {es:List fM}:bq P (.os (some ⟨all,asks,es⟩) []::aN) .normal r h Q=(pX P all es h asks/\bq P aN .normal r h Q):=by simp only [bq,kH,vU,asS]
theorem x_ (D:Option ja) (r:bf) (h:ae) (v:V) (es:List fM) (av:ae):vU P (jM D r h v) es av=vU P D (⟨r,h,v⟩::es) av:=by
 cases D with
 | none=>rfl
 | some d=>simp only [jM,vU,ar_,arR,asb]
theorem gJ {d:Option Nat} {g:G} {rs:List Nat} (ag:g.pB=true):bq P (.os D (⟨d,g,none,rs⟩::os)::aN) .normal r h Q=dk P (g.gi P (r.trim rs) h) d D os aN r h Q:=by simp only [bq,kH,dk];rw [U2 ag];simp only [x_]
theorem gI {d:Option Nat} {g:G} {j:Nat} {want:Bool} {rs:List Nat} (ag:g.pB=true):bq P (.os D (⟨d,g,some (j,want),rs⟩::os)::aN) .normal r h Q=
 (fb (r.trim rs j)/\eS (took (r.trim rs j) want) ((g.gi P (r.trim rs) h).isSome=true)/\
   dk P (some (V.opt (took (r.trim rs j) want) ((g.gi P (r.trim rs) h).getD .bad))) d D os aN r h Q):=by
 simp only [bq,kH,dk,xJ];rw [U0 ag];simp only [x_]
def G.TK:G->Bool
 | .call .. | .l3 .. =>true
 | _=>false
theorem iJ {d:Option Nat} {g:G} {rs:List Nat} (ag:g.pB=false) (aq:g.TK=false):bq P (.os D (⟨d,g,none,rs⟩::os)::aN) .normal r h Q=hi P (g.run P lN (r.trim rs) h) d D os aN r h Q:=by
 simp only [bq,kH];rw [U1];have e:∀K:V->ae->Prop,g.wp P (r.trim rs) h K=∃v ab,g.run P lN (r.trim rs) h=.val v ab/\K v ab:=by intro K;cases g<;>first | rfl | (simp [G.TK] at aq;done)
 rw [e];unfold hi;simp only [bq,x_];cases g.run P lN (r.trim rs) h with
 | fail=>exact propext ⟨fun ⟨v,ab,q,_⟩=>(by cases q),fun q=>q.elim⟩
 | cP v1 aa=>exact propext ⟨fun ⟨v,ab,q,_⟩=>(by cases q),fun q=>q.elim⟩
 | val v1 aa=>
   apply propext;constructor
   . rintro ⟨v,ab,q,k⟩;simp only [a'.val.injEq] at q;obtain ⟨rfl,rfl⟩:=q;exact k
   . intro k;exact ⟨_,_,rfl,k⟩
theorem h1 {d:Option Nat} {g:G} {j:Nat} {want:Bool} {rs:List Nat} (ag:g.pB=false):bq P (.os D (⟨d,g,some (j,want),rs⟩::os)::aN) .normal r h Q=e7 P (r.trim rs j) want d g rs D os aN r h Q:=by simp only [e7,bq,kH,x_];rw [UZ];rfl
theorem TQ {d:Option Nat} {f:FuncId} {args:List aT} {rs:List Nat}:bq P (.os D (⟨d,.call f args,none,rs⟩::os)::aN) .normal r h Q=ra P f (aT.fI (r.trim rs) args) d D os aN r h Q:=by simp only [ra,bq,kH,x_];rfl
theorem ahE {d:Option Nat} {f:aT} {args:List aT} {rs:List Nat}:bq P (.os D (⟨d,.l3 f args,none,rs⟩::os)::aN) .normal r h Q=yd P (f.aQ (r.trim rs)) (aT.fI (r.trim rs) args) d D os aN r h Q:=by simp only [yd,IN,Ni,ra,bq,kH,x_];rfl
theorem abc {f:V} {g:FuncId} {xs args:List V} {d:Option Nat} (av:f.target args=some (g,xs)):yd P f args d D os aN r h Q=IN P g xs d D os aN r h Q:=by
 apply propext;constructor
 . rintro ⟨dz,ari,q,k⟩;rw [av] at q;simp only [arq,asi] at q;obtain ⟨rfl,rfl⟩:=q;exact k
 . intro k;exact ⟨_,_,av,k⟩
theorem abb {g:FuncId} {cs args:List V} {d:Option Nat}:yd P (.func g cs) args d D os aN r h Q=if g=4294967296 then Ni P (args++cs) d D os aN r h Q else ra P g (args++cs) d D os aN r h Q:=abc rfl
@[congr] theorem aq3 {o b9:Option V} {d:Option Nat} (e:o=b9):dk P o d D os aN r h Q=dk P b9 d D os aN r h Q:=by rw [e]
@[congr] theorem aq2 {o b9:a'} {d:Option Nat} (e:o=b9):hi P o d D os aN r h Q=hi P b9 d D os aN r h Q:=by rw [e]
@[congr] theorem apK {v cl:V} {a b:a1} (e:v=cl):yg P v a b aN r h Q=yg P cl a b aN r h Q:=by rw [e]
@[congr] theorem apY {v cl:V} {want:Bool} {d:Option Nat} {g:G} {rs:List Nat} (e:v=cl):e7 P v want d g rs D os aN r h Q=e7 P cl want d g rs D os aN r h Q:=by rw [e]
@[congr] theorem apH {f kj:V} {args AV:List V} {d:Option Nat} (aJ:f=kj) (aR:args=AV):yd P f args d D os aN r h Q=yd P kj AV d D os aN r h Q:=by rw [aJ,aR]
@[congr] theorem apG {f:FuncId} {args AV:List V} {d:Option Nat} (aR:args=AV):ra P f args d D os aN r h Q=ra P f AV d D os aN r h Q:=by rw [aR]
@[congr] theorem ard {e cF:cT} {a7:bf} {ab:ae} (c9:e=cF) (aJ:r=a7) (aR:h=ab):bq P aN e r h Q=bq P aN cF a7 ab Q:=by rw [c9,aJ,aR]
@[congr] theorem aqv {b:a1} {a7:bf} {ab:ae} (aJ:r=a7) (aR:h=ab):F8 P b aN r h Q=F8 P b aN a7 ab Q:=by rw [aJ,aR]
theorem an' {v:V} {d:Option Nat}:dk P (some v) d D os aN r h Q=bq P (.os (jM D r h v) os::aN) .normal (r.set d v) h Q:=(rfl)
theorem anP {v:V} {ab:ae} {d:Option Nat}:hi P (.val v ab) d D os aN r h Q=bq P (.os (jM D r h v) os::aN) .normal (r.set d v) ab Q:=(rfl)
theorem QJ {t:Bool} {a b:a1}:yg P (.bool t) a b aN r h Q=((t=true->bq P (.c a::aN) .normal r h Q)/\(t=false->bq P (.c b::aN) .normal r h Q)):=(rfl)
theorem R7 {b:Bool} {d:Option Nat} {g:G} {rs:List Nat}:e7 P (.bool b) true d g rs D os aN r h Q=((b=true->bq P (.os D (⟨d,g,none,rs⟩::os)::aN) .normal r h Q)/\(b=false->bq P (.os (jM D r h (.tuple [])) os::aN) .normal (r.set d (.tuple [])) h Q)):=(rfl)
theorem R6 {b:Bool} {d:Option Nat} {g:G} {rs:List Nat}:e7 P (.bool b) false d g rs D os aN r h Q=((b=false->bq P (.os D (⟨d,g,none,rs⟩::os)::aN) .normal r h Q)/\(b=true->bq P (.os (jM D r h (.tuple [])) os::aN) .normal (r.set d (.tuple [])) h Q)):=(rfl)
theorem adX {af:List V} {want:Bool} {d:Option Nat} {g:G} {rs:List Nat}:e7 P (.tuple af) want d g rs D os aN r h Q=bq P (.os (jM D r h (.tuple [])) os::aN) .normal (r.set d (.tuple [])) h Q:=(rfl)
theorem adR {c b:Bool} {want:Bool} {d:Option Nat} {f:FuncId} {args:List aT} {rs:List Nat} (v:V)
 (bt:(c&&(b == want))=true->e4 P f (aT.fI (r.trim rs) args) h v h)
 (H:bq P (.os (jM D r h (V.opt (c&&(b == want)) v)) os::aN) .normal (r.set d (V.opt (c&&(b == want)) v)) h Q):e7 P (V.opt c (.bool b)) want d (.call f args) rs D os aN r h Q:=by
 unfold e7;rw [TQ];cases c with
 | false=>exact H
 | true=>
   simp only [V.opt,aru,ar8] at bt H ⊢;cases b<;>cases want<;>simp only [gate]
   . exact ⟨fun _=>⟨v,h,bt rfl,H⟩,fun e=>by cases e⟩
   . exact ⟨fun e=>(by cases e),fun _=>H⟩
   . exact ⟨fun e=>(by cases e),fun _=>H⟩
   . exact ⟨fun _=>⟨v,h,bt rfl,H⟩,fun e=>by cases e⟩
def qE (v:V) (o:Option ae):a':=gY v o
theorem al1 (v:V) (ab:ae):qE v (some ab)=.val v ab:=(rfl)
def OJ (b:Bool) (o:a'):a':=bif b then o else .fail
theorem ZV (o:a'):OJ true o=o:=(rfl)
def Ea (n:Nat) (h:ae) (o:Option (List V)):a':=
 match o with
 | some cs=>qE (.slice (az h.next) 0 n n) (gh h cs)
 | none=>.fail
theorem ZW (n:Nat) (cs:List V):Ea n h (some cs)=qE (.slice (az h.next) 0 n n) (gh h cs):=(rfl)
theorem anj {n size:Nat} {z:List V} {bo:List (Nat × Nat × aT)}:(G.hS n size z bo).run P lN r h=Ea n h (jc (iN z n) (kQ r bo)):=by
 simp only [G.run];cases jc (iN z n) (kQ r bo) with
 | none=>rfl
 | some cs=>
   simp only [Ea,qE,gY];cases gh h cs<;>rfl
theorem ado (cells:List V):jc cells []=some cells:=(rfl)
theorem adm {cells:List V} {off size:Nat} {v:V} {rest:List (Nat × Nat × V)} (aa:v.eU=true) (ad:v.cells.length=size) (aH:off+size<=cells.length):
 jc cells ((off,size,v)::rest)=jc (nV cells off v.cells) rest:=by
 simp only [jc];rw [aa,show Nat.beq v.cells.length size=true from by rw [arZ];exact ad,show Nat.ble (off+v.cells.length) cells.length=true from by rw [arH,ad];exact aH];simp only [asx,aru];congr 1;have dZ:∀(ws cs:List V) (o:Nat),o+ws.length<=cs.length->sO cs o ws=h7 cs o ws:=by
  intro ws
  induction ws with
  | nil=>intro cs o _;simp [sO,h7]
  | cons w ws bc=>
    intro cs o aW;simp only [arA] at aW;simp only [sO];rw [bc (cs.set o w) (o+1) (by simp;omega),Ws cs o w ws (by omega)]
 rw [dZ _ _ _ (by rw [ad];exact aH),zV _ _ _ (by rw [ad];exact aH)]
def Ec (o:Option (List V)):Option V:=
 match o with
 | some cs=>some (.agg cs)
 | none=>none
theorem ZY (cs:List V):Ec (some cs)=some (.agg cs):=(rfl)
theorem ac6:kQ r []=[]:=(rfl)
theorem ac5 {o s:Nat} {x:aT} {bo:List (Nat × Nat × aT)}:kQ r ((o,s,x)::bo)=(o,s,x.aQ r)::kQ r bo:=(rfl)
def pW (P:Program) (o:bx) (e:fM) (H:ae):Prop:=o.wp P e.r H fun _ cl _=>cl=e.v
theorem Zw {ops:List bx} {es:List fM} {av:ae}:pX P ops es av []=True:=(rfl)
theorem Zv {ops:List bx} {es:List fM} {av:ae} {p:Nat} {ch:List Nat} {rest:List (Nat × List Nat)}:pX P ops es av ((p,ch)::rest)=(sy P ops[p]? es[p]? es av ch/\pX P ops es av rest):=(rfl)
theorem Zs {o:Option bx} {e:Option fM} {es:List fM} {av:ae}:sy P o e es av []=True:=(rfl)
theorem Zo {o:bx} {e:fM} {es:List fM} {av:ae} {s:Nat} {ch:List Nat}:sy P (some o) (some e) es av (s::ch)=(pW P o e (yN es av s)/\sy P (some o) (some e) es av ch):=(rfl)
def JW (o:Option fM) (av:ae):ae:=
 match o with
 | some e=>e.h
 | none=>av
theorem aff (es:List fM) (av:ae) (s:Nat):yN es av s=JW es[s]? av:=(rfl)
theorem afh (e:fM) (av:ae):JW (some e) av=e.h:=(rfl)
theorem afg (av:ae):JW none av=av:=(rfl)
theorem D5 {d:Option Nat} {g:G} {rs:List Nat} {e:fM} {H:ae} (ag:g.pB=true):pW P ⟨d,g,none,rs⟩ e H=(g.gi P (e.r.trim rs) H=some e.v):=by
 unfold pW;rw [U2 ag];apply propext;cases g.gi P (e.r.trim rs) H with
 | none=>exact ⟨fun q=>q.elim,fun q=>(by cases q)⟩
 | some v=>exact ⟨fun q=>by rw [show v=e.v from q],fun q=>by cases q;rfl⟩
theorem Oo {d:Option Nat} {g:G} {j:Nat} {want:Bool} {rs:List Nat} {e:fM} {H:ae} (ag:g.pB=true):pW P ⟨d,g,some (j,want),rs⟩ e H=
 (fb (e.r.trim rs j)/\eS (took (e.r.trim rs j) want) ((g.gi P (e.r.trim rs) H).isSome=true)/\V.opt (took (e.r.trim rs j) want) ((g.gi P (e.r.trim rs) H).getD .bad)=e.v):=by
 unfold pW;rw [U0 ag]
theorem Zp {d:Option Nat} {x:aT} {rs:List Nat} {e:fM} {H:ae}:pW P ⟨d,.dR x,none,rs⟩ e H=(nN H (x.aQ (e.r.trim rs))=some e.v):=D5 rfl
theorem Zq {d:Option Nat} {n:Nat} {x:aT} {rs:List Nat} {e:fM} {H:ae}:pW P ⟨d,.fL n x,none,rs⟩ e H=(nM n H (x.aQ (e.r.trim rs))=some e.v):=D5 rfl
theorem um {d:Option Nat} {k:jt} {z:V} {ok:Bool} {x i:aT} {rs:List Nat} {e:fM} {H:ae}:pW P ⟨d,.look k z ok x i,none,rs⟩ e H=(gK k.eq z ok H (x.aQ (e.r.trim rs)) (i.aQ (e.r.trim rs))=some e.v):=D5 rfl
theorem Zt {d:Option Nat} {x:aT} {j:Nat} {want:Bool} {rs:List Nat} {e:fM} {H:ae}:pW P ⟨d,.dR x,some (j,want),rs⟩ e H=
 (fb (e.r.trim rs j)/\eS (took (e.r.trim rs j) want) ((nN H (x.aQ (e.r.trim rs))).isSome=true)/\V.opt (took (e.r.trim rs j) want) ((nN H (x.aQ (e.r.trim rs))).getD .bad)=e.v):=Oo rfl
theorem Zu {d:Option Nat} {n:Nat} {x:aT} {j:Nat} {want:Bool} {rs:List Nat} {e:fM} {H:ae}:pW P ⟨d,.fL n x,some (j,want),rs⟩ e H=
 (fb (e.r.trim rs j)/\eS (took (e.r.trim rs j) want) ((nM n H (x.aQ (e.r.trim rs))).isSome=true)/\V.opt (took (e.r.trim rs j) want) ((nM n H (x.aQ (e.r.trim rs))).getD .bad)=e.v):=Oo rfl
end
def GV (x:V) (h:ae):a':=
 match x with
 | .str s=>.val (.ptr (az h.next) 0) (h.new (.iter s 0))
 | _=>.fail
theorem am8 (s:List UInt8) (h:ae):GV (.str s) h=.val (.ptr (az h.next) 0) (h.new (.iter s 0)):=(rfl)
section
variable {P:Program} {r:bf} {h:ae} {Q:cT->bf->ae->Prop} {aN:List iC} {os:List bx} {D:Option ja} {d:Option Nat} {rs:List Nat}
theorem ain {x:aT}:bq P (.os D (⟨d,(.cO x),none,rs⟩::os)::aN) .normal r h Q=dk P (some (x.aQ (r.trim rs))) d D os aN r h Q:=gJ rfl
theorem ajo {x:aT} {j:Nat} {want:Bool}:bq P (.os D (⟨d,(.cO x),some (j,want),rs⟩::os)::aN) .normal r h Q=(fb (r.trim rs j)/\eS (took (r.trim rs j) want) ((some (x.aQ (r.trim rs))).isSome=true)/\dk P (some (V.opt (took (r.trim rs j) want) ((some (x.aQ (r.trim rs))).getD .bad))) d D os aN r h Q):=gI rfl
theorem aix {c a b:aT}:bq P (.os D (⟨d,(.pick c a b),none,rs⟩::os)::aN) .normal r h Q=dk P (CU (c.aQ (r.trim rs)) (a.aQ (r.trim rs)) (b.aQ (r.trim rs))) d D os aN r h Q:=gJ rfl
theorem ajv {c a b:aT} {j:Nat} {want:Bool}:bq P (.os D (⟨d,(.pick c a b),some (j,want),rs⟩::os)::aN) .normal r h Q=(fb (r.trim rs j)/\eS (took (r.trim rs j) want) ((CU (c.aQ (r.trim rs)) (a.aQ (r.trim rs)) (b.aQ (r.trim rs))).isSome=true)/\dk P (some (V.opt (took (r.trim rs j) want) ((CU (c.aQ (r.trim rs)) (a.aQ (r.trim rs)) (b.aQ (r.trim rs))).getD .bad))) d D os aN r h Q):=gI rfl
theorem ahD {z:List V} {bo:List (Nat × Nat × aT)}:bq P (.os D (⟨d,(.build z bo),none,rs⟩::os)::aN) .normal r h Q=dk P (Ec (jc z (kQ (r.trim rs) bo))) d D os aN r h Q:=gJ rfl
theorem aiR {z:List V} {bo:List (Nat × Nat × aT)} {j:Nat} {want:Bool}:bq P (.os D (⟨d,(.build z bo),some (j,want),rs⟩::os)::aN) .normal r h Q=(fb (r.trim rs j)/\eS (took (r.trim rs j) want) ((Ec (jc z (kQ (r.trim rs) bo))).isSome=true)/\dk P (some (V.opt (took (r.trim rs j) want) ((Ec (jc z (kQ (r.trim rs) bo))).getD .bad))) d D os aN r h Q):=gI rfl
theorem ah6 {x:aT}:bq P (.os D (⟨d,(.dR x),none,rs⟩::os)::aN) .normal r h Q=dk P (nN h (x.aQ (r.trim rs))) d D os aN r h Q:=gJ rfl
theorem aja {x:aT} {j:Nat} {want:Bool}:bq P (.os D (⟨d,(.dR x),some (j,want),rs⟩::os)::aN) .normal r h Q=(fb (r.trim rs j)/\eS (took (r.trim rs j) want) ((nN h (x.aQ (r.trim rs))).isSome=true)/\dk P (some (V.opt (took (r.trim rs j) want) ((nN h (x.aQ (r.trim rs))).getD .bad))) d D os aN r h Q):=gI rfl
theorem ah7 {n:Nat} {x:aT}:bq P (.os D (⟨d,(.fL n x),none,rs⟩::os)::aN) .normal r h Q=dk P (nM n h (x.aQ (r.trim rs))) d D os aN r h Q:=gJ rfl
theorem ajb {n:Nat} {x:aT} {j:Nat} {want:Bool}:bq P (.os D (⟨d,(.fL n x),some (j,want),rs⟩::os)::aN) .normal r h Q=(fb (r.trim rs j)/\eS (took (r.trim rs j) want) ((nM n h (x.aQ (r.trim rs))).isSome=true)/\dk P (some (V.opt (took (r.trim rs j) want) ((nM n h (x.aQ (r.trim rs))).getD .bad))) d D os aN r h Q):=gI rfl
theorem ais {x:aT}:bq P (.os D (⟨d,(.tq x),none,rs⟩::os)::aN) .normal r h Q=dk P (vb (x.aQ (r.trim rs))) d D os aN r h Q:=gJ rfl
theorem ajr {x:aT} {j:Nat} {want:Bool}:bq P (.os D (⟨d,(.tq x),some (j,want),rs⟩::os)::aN) .normal r h Q=(fb (r.trim rs j)/\eS (took (r.trim rs j) want) ((vb (x.aQ (r.trim rs))).isSome=true)/\dk P (some (V.opt (took (r.trim rs j) want) ((vb (x.aQ (r.trim rs))).getD .bad))) d D os aN r h Q):=gI rfl
theorem ahx {k:eX} {x y:aT}:bq P (.os D (⟨d,(.bin k x y),none,rs⟩::os)::aN) .normal r h Q=dk P (k.run P (x.aQ (r.trim rs)) (y.aQ (r.trim rs))) d D os aN r h Q:=gJ rfl
theorem aiO {k:eX} {x y:aT} {j:Nat} {want:Bool}:bq P (.os D (⟨d,(.bin k x y),some (j,want),rs⟩::os)::aN) .normal r h Q=(fb (r.trim rs j)/\eS (took (r.trim rs j) want) ((k.run P (x.aQ (r.trim rs)) (y.aQ (r.trim rs))).isSome=true)/\dk P (some (V.opt (took (r.trim rs j) want) ((k.run P (x.aQ (r.trim rs)) (y.aQ (r.trim rs))).getD .bad))) d D os aN r h Q):=gI rfl
theorem aiI {o:UnOp} {x:aT}:bq P (.os D (⟨d,(.un o x),none,rs⟩::os)::aN) .normal r h Q=dk P (r8 o (x.aQ (r.trim rs))) d D os aN r h Q:=gJ rfl
theorem ajB {o:UnOp} {x:aT} {j:Nat} {want:Bool}:bq P (.os D (⟨d,(.un o x),some (j,want),rs⟩::os)::aN) .normal r h Q=(fb (r.trim rs j)/\eS (took (r.trim rs j) want) ((r8 o (x.aQ (r.trim rs))).isSome=true)/\dk P (some (V.opt (took (r.trim rs j) want) ((r8 o (x.aQ (r.trim rs))).getD .bad))) d D os aN r h Q):=gI rfl
theorem ahY {f:FuncId} {cs:List aT}:bq P (.os D (⟨d,(.fn f cs),none,rs⟩::os)::aN) .normal r h Q=dk P (some (V.func f (aT.fI (r.trim rs) cs))) d D os aN r h Q:=gJ rfl
theorem ai6 {f:FuncId} {cs:List aT} {j:Nat} {want:Bool}:bq P (.os D (⟨d,(.fn f cs),some (j,want),rs⟩::os)::aN) .normal r h Q=(fb (r.trim rs j)/\eS (took (r.trim rs j) want) ((some (V.func f (aT.fI (r.trim rs) cs))).isSome=true)/\dk P (some (V.opt (took (r.trim rs j) want) ((some (V.func f (aT.fI (r.trim rs) cs))).getD .bad))) d D os aN r h Q):=gI rfl
theorem ah3 {t:TypeId} {x:aT}:bq P (.os D (⟨d,(.tc t x),none,rs⟩::os)::aN) .normal r h Q=dk P (some (V.iface t (x.aQ (r.trim rs)))) d D os aN r h Q:=gJ rfl
theorem ai9 {t:TypeId} {x:aT} {j:Nat} {want:Bool}:bq P (.os D (⟨d,(.tc t x),some (j,want),rs⟩::os)::aN) .normal r h Q=(fb (r.trim rs j)/\eS (took (r.trim rs j) want) ((some (V.iface t (x.aQ (r.trim rs)))).isSome=true)/\dk P (some (V.opt (took (r.trim rs j) want) ((some (V.iface t (x.aQ (r.trim rs)))).getD .bad))) d D os aN r h Q):=gI rfl
theorem aiF {x:aT} {bS aw m3:Option aT}:bq P (.os D (⟨d,(.r6 x bS aw m3),none,rs⟩::os)::aN) .normal r h Q=dk P (nd (x.aQ (r.trim rs)) (aT.opt (r.trim rs) bS) (aT.opt (r.trim rs) aw) (aT.opt (r.trim rs) m3)) d D os aN r h Q:=gJ rfl
theorem ajz {x:aT} {bS aw m3:Option aT} {j:Nat} {want:Bool}:bq P (.os D (⟨d,(.r6 x bS aw m3),some (j,want),rs⟩::os)::aN) .normal r h Q=(fb (r.trim rs j)/\eS (took (r.trim rs j) want) ((nd (x.aQ (r.trim rs)) (aT.opt (r.trim rs) bS) (aT.opt (r.trim rs) aw) (aT.opt (r.trim rs) m3)).isSome=true)/\dk P (some (V.opt (took (r.trim rs j) want) ((nd (x.aQ (r.trim rs)) (aT.opt (r.trim rs) bS) (aT.opt (r.trim rs) aw) (aT.opt (r.trim rs) m3)).getD .bad))) d D os aN r h Q):=gI rfl
theorem aiE {n:Nat} {x:aT} {bS aw m3:Option aT}:bq P (.os D (⟨d,(.eW n x bS aw m3),none,rs⟩::os)::aN) .normal r h Q=dk P (qR n (x.aQ (r.trim rs)) (aT.opt (r.trim rs) bS) (aT.opt (r.trim rs) aw) (aT.opt (r.trim rs) m3)) d D os aN r h Q:=gJ rfl
theorem ajy {n:Nat} {x:aT} {bS aw m3:Option aT} {j:Nat} {want:Bool}:bq P (.os D (⟨d,(.eW n x bS aw m3),some (j,want),rs⟩::os)::aN) .normal r h Q=(fb (r.trim rs j)/\eS (took (r.trim rs j) want) ((qR n (x.aQ (r.trim rs)) (aT.opt (r.trim rs) bS) (aT.opt (r.trim rs) aw) (aT.opt (r.trim rs) m3)).isSome=true)/\dk P (some (V.opt (took (r.trim rs j) want) ((qR n (x.aQ (r.trim rs)) (aT.opt (r.trim rs) bS) (aT.opt (r.trim rs) aw) (aT.opt (r.trim rs) m3)).getD .bad))) d D os aN r h Q):=gI rfl
theorem ahV {o:Nat} {x:aT}:bq P (.os D (⟨d,(.dZ o x),none,rs⟩::os)::aN) .normal r h Q=dk P (EI o (x.aQ (r.trim rs))) d D os aN r h Q:=gJ rfl
theorem ai3 {o:Nat} {x:aT} {j:Nat} {want:Bool}:bq P (.os D (⟨d,(.dZ o x),some (j,want),rs⟩::os)::aN) .normal r h Q=(fb (r.trim rs j)/\eS (took (r.trim rs j) want) ((EI o (x.aQ (r.trim rs))).isSome=true)/\dk P (some (V.opt (took (r.trim rs j) want) ((EI o (x.aQ (r.trim rs))).getD .bad))) d D os aN r h Q):=gI rfl
theorem ahW {o:Nat} {x:aT}:bq P (.os D (⟨d,(.ph o x),none,rs⟩::os)::aN) .normal r h Q=dk P ((x.aQ (r.trim rs)).ts none fun cs=>cs[o]?) d D os aN r h Q:=gJ rfl
theorem ai4 {o:Nat} {x:aT} {j:Nat} {want:Bool}:bq P (.os D (⟨d,(.ph o x),some (j,want),rs⟩::os)::aN) .normal r h Q=(fb (r.trim rs j)/\eS (took (r.trim rs j) want) (((x.aQ (r.trim rs)).ts none fun cs=>cs[o]?).isSome=true)/\dk P (some (V.opt (took (r.trim rs j) want) (((x.aQ (r.trim rs)).ts none fun cs=>cs[o]?).getD .bad))) d D os aN r h Q):=gI rfl
theorem ahX {o n:Nat} {x:aT}:bq P (.os D (⟨d,(.wj o n x),none,rs⟩::os)::aN) .normal r h Q=dk P ((x.aQ (r.trim rs)).ts none fun cs=>some (V.agg ((cs.drop o).take n))) d D os aN r h Q:=gJ rfl
theorem ai5 {o n:Nat} {x:aT} {j:Nat} {want:Bool}:bq P (.os D (⟨d,(.wj o n x),some (j,want),rs⟩::os)::aN) .normal r h Q=(fb (r.trim rs j)/\eS (took (r.trim rs j) want) (((x.aQ (r.trim rs)).ts none fun cs=>some (V.agg ((cs.drop o).take n))).isSome=true)/\dk P (some (V.opt (took (r.trim rs j) want) (((x.aQ (r.trim rs)).ts none fun cs=>some (V.agg ((cs.drop o).take n))).getD .bad))) d D os aN r h Q):=gI rfl
theorem ah1 {n:Nat} {x i:aT}:bq P (.os D (⟨d,(.cd n x i),none,rs⟩::os)::aN) .normal r h Q=dk P (fX n (x.aQ (r.trim rs)) (i.aQ (r.trim rs))) d D os aN r h Q:=gJ rfl
theorem ai7 {n:Nat} {x i:aT} {j:Nat} {want:Bool}:bq P (.os D (⟨d,(.cd n x i),some (j,want),rs⟩::os)::aN) .normal r h Q=(fb (r.trim rs j)/\eS (took (r.trim rs j) want) ((fX n (x.aQ (r.trim rs)) (i.aQ (r.trim rs))).isSome=true)/\dk P (some (V.opt (took (r.trim rs j) want) ((fX n (x.aQ (r.trim rs)) (i.aQ (r.trim rs))).getD .bad))) d D os aN r h Q):=gI rfl
theorem ah2 {m n:Nat} {x i:aT}:bq P (.os D (⟨d,(.uY m n x i),none,rs⟩::os)::aN) .normal r h Q=dk P ((te m n).run (x.aQ (r.trim rs)) (i.aQ (r.trim rs))) d D os aN r h Q:=gJ rfl
theorem ai8 {m n:Nat} {x i:aT} {j:Nat} {want:Bool}:bq P (.os D (⟨d,(.uY m n x i),some (j,want),rs⟩::os)::aN) .normal r h Q=(fb (r.trim rs j)/\eS (took (r.trim rs j) want) (((te m n).run (x.aQ (r.trim rs)) (i.aQ (r.trim rs))).isSome=true)/\dk P (some (V.opt (took (r.trim rs j) want) (((te m n).run (x.aQ (r.trim rs)) (i.aQ (r.trim rs))).getD .bad))) d D os aN r h Q):=gI rfl
theorem ah5 {x i:aT}:bq P (.os D (⟨d,(.l_ x i),none,rs⟩::os)::aN) .normal r h Q=dk P (tg.run (x.aQ (r.trim rs)) (i.aQ (r.trim rs))) d D os aN r h Q:=gJ rfl
theorem ai_ {x i:aT} {j:Nat} {want:Bool}:bq P (.os D (⟨d,(.l_ x i),some (j,want),rs⟩::os)::aN) .normal r h Q=(fb (r.trim rs j)/\eS (took (r.trim rs j) want) ((tg.run (x.aQ (r.trim rs)) (i.aQ (r.trim rs))).isSome=true)/\dk P (some (V.opt (took (r.trim rs j) want) ((tg.run (x.aQ (r.trim rs)) (i.aQ (r.trim rs))).getD .bad))) d D os aN r h Q):=gI rfl
theorem ah4 {t:TypeId} {x i:aT}:bq P (.os D (⟨d,(.j2 t x i),none,rs⟩::os)::aN) .normal r h Q=dk P ((tf P t).run (x.aQ (r.trim rs)) (i.aQ (r.trim rs))) d D os aN r h Q:=gJ rfl
theorem ai' {t:TypeId} {x i:aT} {j:Nat} {want:Bool}:bq P (.os D (⟨d,(.j2 t x i),some (j,want),rs⟩::os)::aN) .normal r h Q=(fb (r.trim rs j)/\eS (took (r.trim rs j) want) (((tf P t).run (x.aQ (r.trim rs)) (i.aQ (r.trim rs))).isSome=true)/\dk P (some (V.opt (took (r.trim rs j) want) (((tf P t).run (x.aQ (r.trim rs)) (i.aQ (r.trim rs))).getD .bad))) d D os aN r h Q):=gI rfl
theorem aib {k:jt} {z:V} {ok:Bool} {x i:aT}:bq P (.os D (⟨d,(.look k z ok x i),none,rs⟩::os)::aN) .normal r h Q=dk P (gK k.eq z ok h (x.aQ (r.trim rs)) (i.aQ (r.trim rs))) d D os aN r h Q:=gJ rfl
theorem ajg {k:jt} {z:V} {ok:Bool} {x i:aT} {j:Nat} {want:Bool}:bq P (.os D (⟨d,(.look k z ok x i),some (j,want),rs⟩::os)::aN) .normal r h Q=(fb (r.trim rs j)/\eS (took (r.trim rs j) want) ((gK k.eq z ok h (x.aQ (r.trim rs)) (i.aQ (r.trim rs))).isSome=true)/\dk P (some (V.opt (took (r.trim rs j) want) ((gK k.eq z ok h (x.aQ (r.trim rs)) (i.aQ (r.trim rs))).getD .bad))) d D os aN r h Q):=gI rfl
theorem ahU {x:aT} {i:Nat}:bq P (.os D (⟨d,(.ext x i),none,rs⟩::os)::aN) .normal r h Q=dk P ((x.aQ (r.trim rs)).CK none fun af=>af[i]?) d D os aN r h Q:=gJ rfl
theorem ai2 {x:aT} {i:Nat} {j:Nat} {want:Bool}:bq P (.os D (⟨d,(.ext x i),some (j,want),rs⟩::os)::aN) .normal r h Q=(fb (r.trim rs j)/\eS (took (r.trim rs j) want) (((x.aQ (r.trim rs)).CK none fun af=>af[i]?).isSome=true)/\dk P (some (V.opt (took (r.trim rs j) want) (((x.aQ (r.trim rs)).CK none fun af=>af[i]?).getD .bad))) d D os aN r h Q):=gI rfl
theorem ail {args:List aT}:bq P (.os D (⟨d,(.zo args),none,rs⟩::os)::aN) .normal r h Q=dk P (k9 (fun b a=>!Int.leB a b) (aT.fI (r.trim rs) args)) d D os aN r h Q:=gJ rfl
theorem ajn {args:List aT} {j:Nat} {want:Bool}:bq P (.os D (⟨d,(.zo args),some (j,want),rs⟩::os)::aN) .normal r h Q=(fb (r.trim rs j)/\eS (took (r.trim rs j) want) ((k9 (fun b a=>!Int.leB a b) (aT.fI (r.trim rs) args)).isSome=true)/\dk P (some (V.opt (took (r.trim rs j) want) ((k9 (fun b a=>!Int.leB a b) (aT.fI (r.trim rs) args)).getD .bad))) d D os aN r h Q):=gI rfl
theorem aio {args:List aT}:bq P (.os D (⟨d,(.en args),none,rs⟩::os)::aN) .normal r h Q=dk P (k9 (fun b a=>!Int.leB b a) (aT.fI (r.trim rs) args)) d D os aN r h Q:=gJ rfl
theorem ajp {args:List aT} {j:Nat} {want:Bool}:bq P (.os D (⟨d,(.en args),some (j,want),rs⟩::os)::aN) .normal r h Q=(fb (r.trim rs j)/\eS (took (r.trim rs j) want) ((k9 (fun b a=>!Int.leB b a) (aT.fI (r.trim rs) args)).isSome=true)/\dk P (some (V.opt (took (r.trim rs j) want) ((k9 (fun b a=>!Int.leB b a) (aT.fI (r.trim rs) args)).getD .bad))) d D os aN r h Q):=gI rfl
theorem ahL {k:IntKind} {x:aT}:bq P (.os D (⟨d,(.dC (.int k) x),none,rs⟩::os)::aN) .normal r h Q=dk P (Ep k (x.aQ (r.trim rs))) d D os aN r h Q:=gJ rfl
theorem aiX {k:IntKind} {x:aT} {j:Nat} {want:Bool}:bq P (.os D (⟨d,(.dC (.int k) x),some (j,want),rs⟩::os)::aN) .normal r h Q=(fb (r.trim rs j)/\eS (took (r.trim rs j) want) ((Ep k (x.aQ (r.trim rs))).isSome=true)/\dk P (some (V.opt (took (r.trim rs j) want) ((Ep k (x.aQ (r.trim rs))).getD .bad))) d D os aN r h Q):=gI rfl
theorem ah' {x:aT}:bq P (.os D (⟨d,(.len .slice x),none,rs⟩::os)::aN) .normal r h Q=dk P (ht (x.aQ (r.trim rs))) d D os aN r h Q:=gJ rfl
theorem aje {x:aT} {j:Nat} {want:Bool}:bq P (.os D (⟨d,(.len .slice x),some (j,want),rs⟩::os)::aN) .normal r h Q=(fb (r.trim rs j)/\eS (took (r.trim rs j) want) ((ht (x.aQ (r.trim rs))).isSome=true)/\dk P (some (V.opt (took (r.trim rs j) want) ((ht (x.aQ (r.trim rs))).getD .bad))) d D os aN r h Q):=gI rfl
theorem ah_ {x:aT}:bq P (.os D (⟨d,(.len .str x),none,rs⟩::os)::aN) .normal r h Q=dk P (F1 (x.aQ (r.trim rs))) d D os aN r h Q:=gJ rfl
theorem ajf {x:aT} {j:Nat} {want:Bool}:bq P (.os D (⟨d,(.len .str x),some (j,want),rs⟩::os)::aN) .normal r h Q=(fb (r.trim rs j)/\eS (took (r.trim rs j) want) ((F1 (x.aQ (r.trim rs))).isSome=true)/\dk P (some (V.opt (took (r.trim rs j) want) ((F1 (x.aQ (r.trim rs))).getD .bad))) d D os aN r h Q):=gI rfl
theorem ah8 {n:Nat} {x:aT}:bq P (.os D (⟨d,(.len (.arr n) x),none,rs⟩::os)::aN) .normal r h Q=dk P (some (V.int .i64 n)) d D os aN r h Q:=gJ rfl
theorem ajc {n:Nat} {x:aT} {j:Nat} {want:Bool}:bq P (.os D (⟨d,(.len (.arr n) x),some (j,want),rs⟩::os)::aN) .normal r h Q=(fb (r.trim rs j)/\eS (took (r.trim rs j) want) ((some (V.int .i64 n)).isSome=true)/\dk P (some (V.opt (took (r.trim rs j) want) ((some (V.int .i64 n)).getD .bad))) d D os aN r h Q):=gI rfl
theorem aiq {z:List V}:bq P (.os D (⟨d,(.new z),none,rs⟩::os)::aN) .normal r h Q=hi P (qE (.ptr (az h.next) 0) (gh h z)) d D os aN r h Q:=iJ rfl rfl
theorem ajq {z:List V} {j:Nat} {want:Bool}:bq P (.os D (⟨d,(.new z),some (j,want),rs⟩::os)::aN) .normal r h Q=e7 P (r.trim rs j) want d (.new z) rs D os aN r h Q:=h1 rfl
theorem ahB {x:aT}:bq P (.os D (⟨d,(.box x),none,rs⟩::os)::aN) .normal r h Q=hi P (OJ (x.aQ (r.trim rs)).eU (qE (.ptr (az h.next) 0) (gh h (x.aQ (r.trim rs)).cells))) d D os aN r h Q:=iJ rfl rfl
theorem aiP {x:aT} {j:Nat} {want:Bool}:bq P (.os D (⟨d,(.box x),some (j,want),rs⟩::os)::aN) .normal r h Q=e7 P (r.trim rs j) want d (.box x) rs D os aN r h Q:=h1 rfl
theorem ahC {n m:Nat} {z:List V} {bo:List (Nat × Nat × aT)}:bq P (.os D (⟨d,(.hS n m z bo),none,rs⟩::os)::aN) .normal r h Q=hi P (Ea n h (jc (iN z n) (kQ (r.trim rs) bo))) d D os aN r h Q:=by rw [iJ rfl rfl,anj]
theorem aiQ {n m:Nat} {z:List V} {bo:List (Nat × Nat × aT)} {j:Nat} {want:Bool}:bq P (.os D (⟨d,(.hS n m z bo),some (j,want),rs⟩::os)::aN) .normal r h Q=e7 P (r.trim rs j) want d (.hS n m z bo) rs D os aN r h Q:=h1 rfl
theorem aiG {n:Nat} {x y:aT}:bq P (.os D (⟨d,(.st n x y),none,rs⟩::os)::aN) .normal r h Q=hi P (qE .bad (xC n h (x.aQ (r.trim rs)) (y.aQ (r.trim rs)))) d D os aN r h Q:=iJ rfl rfl
theorem ajA {n:Nat} {x y:aT} {j:Nat} {want:Bool}:bq P (.os D (⟨d,(.st n x y),some (j,want),rs⟩::os)::aN) .normal r h Q=e7 P (r.trim rs j) want d (.st n x y) rs D os aN r h Q:=h1 rfl
theorem aik {n:Nat} {z:List V} {l c:aT}:bq P (.os D (⟨d,(.zn n z l c),none,rs⟩::os)::aN) .normal r h Q=hi P (u9 n z (l.aQ (r.trim rs)) (c.aQ (r.trim rs)) h) d D os aN r h Q:=iJ rfl rfl
theorem ajm {n:Nat} {z:List V} {l c:aT} {j:Nat} {want:Bool}:bq P (.os D (⟨d,(.zn n z l c),some (j,want),rs⟩::os)::aN) .normal r h Q=e7 P (r.trim rs j) want d (.zn n z l c) rs D os aN r h Q:=h1 rfl
theorem aiJ {k:jt} {m i x:aT}:bq P (.os D (⟨d,(.pN k m i x),none,rs⟩::os)::aN) .normal r h Q=hi P (qE .bad (kc k.eq h (m.aQ (r.trim rs)) (i.aQ (r.trim rs)) (x.aQ (r.trim rs)))) d D os aN r h Q:=iJ rfl rfl
theorem ajC {k:jt} {m i x:aT} {j:Nat} {want:Bool}:bq P (.os D (⟨d,(.pN k m i x),some (j,want),rs⟩::os)::aN) .normal r h Q=e7 P (r.trim rs j) want d (.pN k m i x) rs D os aN r h Q:=h1 rfl
theorem aij {x:Option aT}:bq P (.os D (⟨d,(.tn x),none,rs⟩::os)::aN) .normal r h Q=hi P (rS (aT.opt (r.trim rs) x) h) d D os aN r h Q:=iJ rfl rfl
theorem ajl {x:Option aT} {j:Nat} {want:Bool}:bq P (.os D (⟨d,(.tn x),some (j,want),rs⟩::os)::aN) .normal r h Q=e7 P (r.trim rs j) want d (.tn x) rs D os aN r h Q:=h1 rfl
theorem aiB {x:aT}:bq P (.os D (⟨d,(.zN x),none,rs⟩::os)::aN) .normal r h Q=hi P (GV (x.aQ (r.trim rs)) h) d D os aN r h Q:=(iJ rfl rfl).trans (by first | rfl | (unfold GV;simp only [G.run];cases x.aQ (r.trim rs)<;>rfl) | (unfold GV;cases x.aQ (r.trim rs)<;>rfl))
theorem ajx {x:aT} {j:Nat} {want:Bool}:bq P (.os D (⟨d,(.zN x),some (j,want),rs⟩::os)::aN) .normal r h Q=e7 P (r.trim rs j) want d (.zN x) rs D os aN r h Q:=h1 rfl
theorem ait {x:aT}:bq P (.os D (⟨d,(.xh x),none,rs⟩::os)::aN) .normal r h Q=hi P (xg (x.aQ (r.trim rs)) h) d D os aN r h Q:=iJ rfl rfl
theorem ajs {x:aT} {j:Nat} {want:Bool}:bq P (.os D (⟨d,(.xh x),some (j,want),rs⟩::os)::aN) .normal r h Q=e7 P (r.trim rs j) want d (.xh x) rs D os aN r h Q:=h1 rfl
theorem ahu {n:Nat} {s x:aT}:bq P (.os D (⟨d,(.app n s x),none,rs⟩::os)::aN) .normal r h Q=hi P (kg n (s.aQ (r.trim rs)) (x.aQ (r.trim rs)) h) d D os aN r h Q:=iJ rfl rfl
theorem aiM {n:Nat} {s x:aT} {j:Nat} {want:Bool}:bq P (.os D (⟨d,(.app n s x),some (j,want),rs⟩::os)::aN) .normal r h Q=e7 P (r.trim rs j) want d (.app n s x) rs D os aN r h Q:=h1 rfl
theorem ahI {n:Nat} {jA s:aT}:bq P (.os D (⟨d,(.copy n jA s),none,rs⟩::os)::aN) .normal r h Q=hi P (copyV n (jA.aQ (r.trim rs)) (s.aQ (r.trim rs)) h) d D os aN r h Q:=iJ rfl rfl
theorem aiV {n:Nat} {jA s:aT} {j:Nat} {want:Bool}:bq P (.os D (⟨d,(.copy n jA s),some (j,want),rs⟩::os)::aN) .normal r h Q=e7 P (r.trim rs j) want d (.copy n jA s) rs D os aN r h Q:=h1 rfl
theorem ah9 {x:aT}:bq P (.os D (⟨d,(.len .map x),none,rs⟩::os)::aN) .normal r h Q=hi P (Cs [x.aQ (r.trim rs)] h) d D os aN r h Q:=iJ rfl rfl
theorem ajd {x:aT} {j:Nat} {want:Bool}:bq P (.os D (⟨d,(.len .map x),some (j,want),rs⟩::os)::aN) .normal r h Q=e7 P (r.trim rs j) want d (.len .map x) rs D os aN r h Q:=h1 rfl
theorem ahK {x:aT}:bq P (.os D (⟨d,(.dC .bytes x),none,rs⟩::os)::aN) .normal r h Q=hi P (Ba.run (x.aQ (r.trim rs)) h) d D os aN r h Q:=iJ rfl rfl
theorem aiW {x:aT} {j:Nat} {want:Bool}:bq P (.os D (⟨d,(.dC .bytes x),some (j,want),rs⟩::os)::aN) .normal r h Q=e7 P (r.trim rs j) want d (.dC .bytes x) rs D os aN r h Q:=h1 rfl
theorem ahN {x:aT}:bq P (.os D (⟨d,(.dC .str x),none,rs⟩::os)::aN) .normal r h Q=hi P (uu.run (x.aQ (r.trim rs)) h) d D os aN r h Q:=iJ rfl rfl
theorem aiZ {x:aT} {j:Nat} {want:Bool}:bq P (.os D (⟨d,(.dC .str x),some (j,want),rs⟩::os)::aN) .normal r h Q=e7 P (r.trim rs j) want d (.dC .str x) rs D os aN r h Q:=h1 rfl
theorem ahM {s jA:TypeId} {x:aT}:bq P (.os D (⟨d,(.dC (.other s jA) x),none,rs⟩::os)::aN) .normal r h Q=hi P ((re P s jA).run (x.aQ (r.trim rs)) h) d D os aN r h Q:=iJ rfl rfl
theorem aiY {s jA:TypeId} {x:aT} {j:Nat} {want:Bool}:bq P (.os D (⟨d,(.dC (.other s jA) x),some (j,want),rs⟩::os)::aN) .normal r h Q=e7 P (r.trim rs j) want d (.dC (.other s jA) x) rs D os aN r h Q:=h1 rfl
theorem aiS {f:FuncId} {args:List aT} {j:Nat} {want:Bool}:bq P (.os D (⟨d,(.call f args),some (j,want),rs⟩::os)::aN) .normal r h Q=e7 P (r.trim rs j) want d (.call f args) rs D os aN r h Q:=h1 rfl
theorem aiT {f:aT} {args:List aT} {j:Nat} {want:Bool}:bq P (.os D (⟨d,(.l3 f args),some (j,want),rs⟩::os)::aN) .normal r h Q=e7 P (r.trim rs j) want d (.l3 f args) rs D os aN r h Q:=h1 rfl
theorem ahF {x:aT}:bq P (.os D (⟨d,(.ye x),none,rs⟩::os)::aN) .normal r h Q=dk P (ur (x.aQ (r.trim rs))) d D os aN r h Q:=gJ rfl
theorem aiU {x:aT} {j:Nat} {want:Bool}:bq P (.os D (⟨d,(.ye x),some (j,want),rs⟩::os)::aN) .normal r h Q=(fb (r.trim rs j)/\eS (took (r.trim rs j) want) ((ur (x.aQ (r.trim rs))).isSome=true)/\dk P (some (V.opt (took (r.trim rs j) want) ((ur (x.aQ (r.trim rs))).getD .bad))) d D os aN r h Q):=gI rfl
theorem aic {z:V} {ok:Bool} {x i:aT}:bq P (.os D (⟨d,(.zj z ok x i),none,rs⟩::os)::aN) .normal r h Q=dk P (hv ⟨jL h⟩ z ok h (x.aQ (r.trim rs)) (i.aQ (r.trim rs))) d D os aN r h Q:=gJ rfl
theorem ajh {z:V} {ok:Bool} {x i:aT} {j:Nat} {want:Bool}:bq P (.os D (⟨d,(.zj z ok x i),some (j,want),rs⟩::os)::aN) .normal r h Q=(fb (r.trim rs j)/\eS (took (r.trim rs j) want) ((hv ⟨jL h⟩ z ok h (x.aQ (r.trim rs)) (i.aQ (r.trim rs))).isSome=true)/\dk P (some (V.opt (took (r.trim rs j) want) ((hv ⟨jL h⟩ z ok h (x.aQ (r.trim rs)) (i.aQ (r.trim rs))).getD .bad))) d D os aN r h Q):=gI rfl
theorem aid {k:TypeId} {z:V} {ok:Bool} {x i:aT}:bq P (.os D (⟨d,(.looks k z ok x i),none,rs⟩::os)::aN) .normal r h Q=dk P (bif lK P k (i.aQ (r.trim rs)) then hv (structEq P k) z ok h (x.aQ (r.trim rs)) (i.aQ (r.trim rs)) else none) d D os aN r h Q:=gJ rfl
theorem aji {k:TypeId} {z:V} {ok:Bool} {x i:aT} {j:Nat} {want:Bool}:bq P (.os D (⟨d,(.looks k z ok x i),some (j,want),rs⟩::os)::aN) .normal r h Q=(fb (r.trim rs j)/\eS (took (r.trim rs j) want) ((bif lK P k (i.aQ (r.trim rs)) then hv (structEq P k) z ok h (x.aQ (r.trim rs)) (i.aQ (r.trim rs)) else none).isSome=true)/\dk P (some (V.opt (took (r.trim rs j) want) ((bif lK P k (i.aQ (r.trim rs)) then hv (structEq P k) z ok h (x.aQ (r.trim rs)) (i.aQ (r.trim rs)) else none).getD .bad))) d D os aN r h Q):=gI rfl
theorem aiw {neg:Bool} {x y:aT}:bq P (.os D (⟨d,(.xn neg x y),none,rs⟩::os)::aN) .normal r h Q=dk P (zG neg h (x.aQ (r.trim rs)) (y.aQ (r.trim rs))) d D os aN r h Q:=gJ rfl
theorem aju {neg:Bool} {x y:aT} {j:Nat} {want:Bool}:bq P (.os D (⟨d,(.xn neg x y),some (j,want),rs⟩::os)::aN) .normal r h Q=(fb (r.trim rs j)/\eS (took (r.trim rs j) want) ((zG neg h (x.aQ (r.trim rs)) (y.aQ (r.trim rs))).isSome=true)/\dk P (some (V.opt (took (r.trim rs j) want) ((zG neg h (x.aQ (r.trim rs)) (y.aQ (r.trim rs))).getD .bad))) d D os aN r h Q):=gI rfl
theorem ahv {n:Nat} {z:List V} {s x:aT}:bq P (.os D (⟨d,(.AU n z s x),none,rs⟩::os)::aN) .normal r h Q=hi P (D3 n z (s.aQ (r.trim rs)) (x.aQ (r.trim rs)) h) d D os aN r h Q:=iJ rfl rfl
theorem aiN {n:Nat} {z:List V} {s x:aT} {j:Nat} {want:Bool}:bq P (.os D (⟨d,(.AU n z s x),some (j,want),rs⟩::os)::aN) .normal r h Q=e7 P (r.trim rs j) want d (.AU n z s x) rs D os aN r h Q:=h1 rfl
theorem aiK {m i x:aT}:bq P (.os D (⟨d,(.Dc m i x),none,rs⟩::os)::aN) .normal r h Q=hi P (qE .bad (kc ⟨jL h⟩ h (m.aQ (r.trim rs)) (i.aQ (r.trim rs)) (x.aQ (r.trim rs)))) d D os aN r h Q:=iJ rfl rfl
theorem ajD {m i x:aT} {j:Nat} {want:Bool}:bq P (.os D (⟨d,(.Dc m i x),some (j,want),rs⟩::os)::aN) .normal r h Q=e7 P (r.trim rs j) want d (.Dc m i x) rs D os aN r h Q:=h1 rfl
theorem aiL {k:TypeId} {m i x:aT}:bq P (.os D (⟨d,(.z_ k m i x),none,rs⟩::os)::aN) .normal r h Q=hi P (qE .bad (bif lK P k (i.aQ (r.trim rs)) then kc (structEq P k) h (m.aQ (r.trim rs)) (i.aQ (r.trim rs)) (x.aQ (r.trim rs)) else none)) d D os aN r h Q:=iJ rfl rfl
theorem ajE {k:TypeId} {m i x:aT} {j:Nat} {want:Bool}:bq P (.os D (⟨d,(.z_ k m i x),some (j,want),rs⟩::os)::aN) .normal r h Q=e7 P (r.trim rs j) want d (.z_ k m i x) rs D os aN r h Q:=h1 rfl
theorem aih {z:V} {m i:aT}:bq P (.os D (⟨d,(.CB z m i),none,rs⟩::os)::aN) .normal r h Q=hi P (EC z (m.aQ (r.trim rs)) (i.aQ (r.trim rs)) h) d D os aN r h Q:=iJ rfl rfl
theorem ajj {z:V} {m i:aT} {j:Nat} {want:Bool}:bq P (.os D (⟨d,(.CB z m i),some (j,want),rs⟩::os)::aN) .normal r h Q=e7 P (r.trim rs j) want d (.CB z m i) rs D os aN r h Q:=h1 rfl
theorem aii {k:TypeId} {z:V} {m i:aT}:bq P (.os D (⟨d,(.zm k z m i),none,rs⟩::os)::aN) .normal r h Q=hi P (ym P k z (m.aQ (r.trim rs)) (i.aQ (r.trim rs)) h) d D os aN r h Q:=iJ rfl rfl
theorem ajk {k:TypeId} {z:V} {m i:aT} {j:Nat} {want:Bool}:bq P (.os D (⟨d,(.zm k z m i),some (j,want),rs⟩::os)::aN) .normal r h Q=e7 P (r.trim rs j) want d (.zm k z m i) rs D os aN r h Q:=h1 rfl
theorem ahS {m s x:aT}:bq P (.os D (⟨d,(.yr m s x),none,rs⟩::os)::aN) .normal r h Q=hi P (qE .bad (ri h (m.aQ (r.trim rs)) (s.aQ (r.trim rs)) (x.aQ (r.trim rs)))) d D os aN r h Q:=iJ rfl rfl
theorem ai1 {m s x:aT} {j:Nat} {want:Bool}:bq P (.os D (⟨d,(.yr m s x),some (j,want),rs⟩::os)::aN) .normal r h Q=e7 P (r.trim rs j) want d (.yr m s x) rs D os aN r h Q:=h1 rfl
theorem aiA {x:aT}:bq P (.os D (⟨d,(.xx x),none,rs⟩::os)::aN) .normal r h Q=hi P (rangeMap (x.aQ (r.trim rs)) h) d D os aN r h Q:=iJ rfl rfl
theorem ajw {x:aT} {j:Nat} {want:Bool}:bq P (.os D (⟨d,(.xx x),some (j,want),rs⟩::os)::aN) .normal r h Q=e7 P (r.trim rs j) want d (.xx x) rs D os aN r h Q:=h1 rfl
theorem aiu {x:aT}:bq P (.os D (⟨d,(.mj x),none,rs⟩::os)::aN) .normal r h Q=hi P (gL (x.aQ (r.trim rs)) h) d D os aN r h Q:=iJ rfl rfl
theorem ajt {x:aT} {j:Nat} {want:Bool}:bq P (.os D (⟨d,(.mj x),some (j,want),rs⟩::os)::aN) .normal r h Q=e7 P (r.trim rs j) want d (.mj x) rs D os aN r h Q:=h1 rfl
theorem ahQ {x:aT}:bq P (.os D (⟨d,(.wc x),none,rs⟩::os)::aN) .normal r h Q=hi P (sM (x.aQ (r.trim rs)) h) d D os aN r h Q:=iJ rfl rfl
theorem ai0 {x:aT} {j:Nat} {want:Bool}:bq P (.os D (⟨d,(.wc x),some (j,want),rs⟩::os)::aN) .normal r h Q=e7 P (r.trim rs j) want d (.wc x) rs D os aN r h Q:=h1 rfl
set_option linter.defProp false in
def nf:=And.intro @ahF<|And.intro @aiU<|And.intro @aic<|And.intro @ajh<|And.intro @aid<|And.intro @aji<|And.intro @aiw<|And.intro @aju<|And.intro @ahv<|And.intro @aiN<|And.intro @aiK<|And.intro @ajD<|And.intro @aiL<|And.intro @ajE<|And.intro @aih<|And.intro @ajj<|And.intro @aii<|And.intro @ajk<|And.intro @ahS<|And.intro @ai1<|And.intro @aiA<|And.intro @ajw<|And.intro @aiu<|And.intro @ajt<|And.intro @ahQ @ai0
end
theorem ak0 (h:ae) (af:List V):gh h af=if af.length<=top then some (h.new (.bU af 0 false)) else none:=by
 by_cases ax:af.length<=top
 . rw [arz ax,UO ax]
 . rw [arw ax];unfold gh;rw [show Nat.ble af.length top=false from by rw [<-ar4,arH];exact ax];rfl
theorem ajP (h:ae) (n:Nat) (b:aM) (off:Nat) (y:V) (af:List V) (cL:Nat) (st:Bool):
 nK n h b off y (.bU af cL st)=if y.cells.length=n/\e9 y.cells=true/\off+n<=af.length then some (h.set b (.bU (nV af off y.cells) cL st)) else none:=by
 by_cases aq:y.cells.length=n/\e9 y.cells=true/\off+n<=af.length
 . rw [arz aq,Li aq.1 aq.2.1 aq.2.2]
 . rw [arw aq];unfold nK;by_cases aa:y.cells.length=n
   . rw [show Nat.beq y.cells.length n=true from by rw [arZ];exact aa];simp only [aru,b6.bU,b6.on];by_cases ad:e9 y.cells=true
     . have aH:¬off+y.cells.length<=af.length:=fun q=>aq ⟨aa,ad,by omega⟩;rw [show Nat.ble (off+y.cells.length) af.length=false from by rw [<-ar4,arH];exact aH];rfl
     . rw [show e9 y.cells=false from by simpa using ad,asL];rfl
   . rw [show Nat.beq y.cells.length n=false from by rw [<-ar4,arZ];exact aa];rfl
theorem adn (cells:List V) (off size:Nat) (v:V) (rest:List (Nat × Nat × V)):
 jc cells ((off,size,v)::rest)=if v.eU=true/\v.cells.length=size/\off+size<=cells.length then jc (nV cells off v.cells) rest else none:=by
 by_cases aq:v.eU=true/\v.cells.length=size/\off+size<=cells.length
 . rw [arz aq,adm aq.1 aq.2.1 aq.2.2]
 . rw [arw aq];simp only [jc];cases ah:(v.eU&&(Nat.beq v.cells.length size&&Nat.ble (off+v.cells.length) cells.length)) with
   | false=>rfl
   | true=>
     simp only [arp,arZ,arH] at ah;exact absurd ⟨ah.1,ah.2.1,by omega⟩ aq
theorem abh (b:Bool):V.cells (.bool b:V)=[.bool b]:=rfl
theorem alB (b:Bool):V.one (.bool b:V)=true:=rfl
theorem ad3 (b:Bool):V.eU (.bool b:V)=true:=rfl
theorem abl (k:IntKind) (n:Int):V.cells (.int k n:V)=[.int k n]:=rfl
theorem alF (k:IntKind) (n:Int):V.one (.int k n:V)=true:=rfl
theorem ad7 (k:IntKind) (n:Int):V.eU (.int k n:V)=true:=rfl
theorem abw (s:List UInt8):V.cells (.str s:V)=[.str s]:=rfl
theorem alP (s:List UInt8):V.one (.str s:V)=true:=rfl
theorem aee (s:List UInt8):V.eU (.str s:V)=true:=rfl
theorem abq:V.cells (.kA:V)=[.kA]:=rfl
theorem alL:V.one (.kA:V)=true:=rfl
theorem aea:V.eU (.kA:V)=true:=rfl
theorem abt (b:aM) (o:Nat):V.cells (.ptr b o:V)=[.ptr b o]:=rfl
theorem alN (b:aM) (o:Nat):V.one (.ptr b o:V)=true:=rfl
theorem aec (b:aM) (o:Nat):V.eU (.ptr b o:V)=true:=rfl
theorem abv (b:aM) (o l c:Nat):V.cells (.slice b o l c:V)=[.slice b o l c]:=rfl
theorem alO (b:aM) (o l c:Nat):V.one (.slice b o l c:V)=true:=rfl
theorem aed (b:aM) (o l c:Nat):V.eU (.slice b o l c:V)=true:=rfl
theorem abj (b:aM) (o l c:Nat):V.cells (.ew b o l c:V)=[.ew b o l c]:=rfl
theorem alD (b:aM) (o l c:Nat):V.one (.ew b o l c:V)=true:=rfl
theorem ad5 (b:aM) (o l c:Nat):V.eU (.ew b o l c:V)=true:=rfl
theorem abx (b:aM) (o l c:Nat):V.cells (.g' b o l c:V)=[.g' b o l c]:=rfl
theorem alQ (b:aM) (o l c:Nat):V.one (.g' b o l c:V)=true:=rfl
theorem aef (b:aM) (o l c:Nat):V.eU (.g' b o l c:V)=true:=rfl
theorem abr:V.cells (.bj:V)=[.bj]:=rfl
theorem alM:V.one (.bj:V)=true:=rfl
theorem aeb:V.eU (.bj:V)=true:=rfl
theorem abp:V.cells (.j7:V)=[.j7]:=rfl
theorem alK:V.one (.j7:V)=true:=rfl
theorem ad_:V.eU (.j7:V)=true:=rfl
theorem abm (b:aM):V.cells (.map b:V)=[.map b]:=rfl
theorem alG (b:aM):V.one (.map b:V)=true:=rfl
theorem ad8 (b:aM):V.eU (.map b:V)=true:=rfl
theorem abi (f:FuncId) (cs:List V):V.cells (.func f cs:V)=[.func f cs]:=rfl
theorem alC (f:FuncId) (cs:List V):V.one (.func f cs:V)=true:=rfl
theorem ad4 (f:FuncId) (cs:List V):V.eU (.func f cs:V)=true:=rfl
theorem abo:V.cells (.k6:V)=[.k6]:=rfl
theorem alJ:V.one (.k6:V)=true:=rfl
theorem ad':V.eU (.k6:V)=true:=rfl
theorem abk (t:TypeId) (v:V):V.cells (.iface t v:V)=[.iface t v]:=rfl
theorem alE (t:TypeId) (v:V):V.one (.iface t v:V)=true:=rfl
theorem ad6 (t:TypeId) (v:V):V.eU (.iface t v:V)=true:=rfl
theorem abn:V.cells (.nilIface:V)=[.nilIface]:=rfl
theorem alI:V.one (.nilIface:V)=true:=rfl
theorem ad9:V.eU (.nilIface:V)=true:=rfl
theorem abg (cs:List V):V.cells (.agg cs)=cs:=rfl
theorem ad2 (cs:List V):V.eU (.agg cs)=true:=rfl
theorem aeg (cs:List V):V.eU (.tuple cs)=true:=rfl
theorem Y1 (n:Nat):n+1+1=n+2:=rfl
theorem Y7 (n:Nat):n+2+1=n+3:=rfl
theorem Y8 (n:Nat):n+3+1=n+4:=rfl
theorem Y9 (n:Nat):n+4+1=n+5:=rfl
theorem Y' (n:Nat):n+5+1=n+6:=rfl
theorem Y_ (n:Nat):n+6+1=n+7:=rfl
theorem Za (n:Nat):n+7+1=n+8:=rfl
theorem Zb (n:Nat):n+8+1=n+9:=rfl
theorem Zc (n:Nat):n+9+1=n+10:=rfl
theorem Y0 (n:Nat):n+10+1=n+11:=rfl
theorem Y2 (n:Nat):n+11+1=n+12:=rfl
theorem Y3 (n:Nat):n+12+1=n+13:=rfl
theorem Y4 (n:Nat):n+13+1=n+14:=rfl
theorem Y5 (n:Nat):n+14+1=n+15:=rfl
theorem Y6 (n:Nat):n+15+1=n+16:=rfl
theorem UY (n:Nat):(n+1=n)=False:=arx (by omega)
theorem ao9 (n:Nat):(n=n+1)=False:=arx (by omega)
theorem CH (n:Nat):(n+2=n)=False:=arx (by omega)
theorem ao' (n:Nat):(n=n+2)=False:=arx (by omega)
theorem ald (n:Nat):(n+3=n)=False:=arx (by omega)
theorem ao_ (n:Nat):(n=n+3)=False:=arx (by omega)
theorem ale (n:Nat):(n+4=n)=False:=arx (by omega)
theorem apa (n:Nat):(n=n+4)=False:=arx (by omega)
theorem alf (n:Nat):(n+5=n)=False:=arx (by omega)
theorem apb (n:Nat):(n=n+5)=False:=arx (by omega)
theorem alg (n:Nat):(n+6=n)=False:=arx (by omega)
theorem apc (n:Nat):(n=n+6)=False:=arx (by omega)
theorem alh (n:Nat):(n+7=n)=False:=arx (by omega)
theorem apd (n:Nat):(n=n+7)=False:=arx (by omega)
theorem ali (n:Nat):(n+8=n)=False:=arx (by omega)
theorem ape (n:Nat):(n=n+8)=False:=arx (by omega)
theorem adW {P:Program} {r:bf} {h:ae} {Q:cT->bf->ae->Prop} {aN:List iC} {os:List bx} {D:Option ja} {d:Option Nat} {g:G} {rs:List Nat}:e7 P (.bool true) true d g rs D os aN r h Q=bq P (.os D (⟨d,g,none,rs⟩::os)::aN) .normal r h Q:=by rw [R7];simp
theorem adT {P:Program} {r:bf} {h:ae} {Q:cT->bf->ae->Prop} {aN:List iC} {os:List bx} {D:Option ja} {d:Option Nat} {g:G} {rs:List Nat}:e7 P (.bool false) false d g rs D os aN r h Q=bq P (.os D (⟨d,g,none,rs⟩::os)::aN) .normal r h Q:=by rw [R6];simp
theorem adV {P:Program} {r:bf} {h:ae} {Q:cT->bf->ae->Prop} {aN:List iC} {os:List bx} {D:Option ja} {d:Option Nat} {g:G} {rs:List Nat}:e7 P (.bool true) false d g rs D os aN r h Q=bq P (.os (jM D r h (.tuple [])) os::aN) .normal (r.set d (.tuple [])) h Q:=by rw [R6];simp
theorem adU {P:Program} {r:bf} {h:ae} {Q:cT->bf->ae->Prop} {aN:List iC} {os:List bx} {D:Option ja} {d:Option Nat} {g:G} {rs:List Nat}:e7 P (.bool false) true d g rs D os aN r h Q=bq P (.os (jM D r h (.tuple [])) os::aN) .normal (r.set d (.tuple [])) h Q:=by rw [R7];simp
theorem ZL (c:Bool) (a b:V):V.bif (!c) a (V.opt c b)=V.bif (!c) a b:=by cases c<;>rfl
theorem ag9 (A:Prop):(True->A)=A:=propext ⟨fun q=>q trivial,fun q _=>q⟩
theorem ag8 (A:Prop):(False->A)=True:=propext ⟨fun _=>trivial,fun _ q=>q.elim⟩
section
variable {P:Program}
theorem fR {b:a1} {aN:List iC} {r:bf} {h:ae} {Q:cT->bf->ae->Prop} (I:bf->ae->Prop) (μ:bf->ae->Nat) (aY:I r h)
 (step:∀r h,I r h->bq P [.c b] .normal r h fun e a7 ab=>e.andThen (I a7 ab/\μ a7 ab<μ r h) (bq P aN e a7 ab Q)):F8 P b aN r h Q:=
 ⟨I,μ,aY,step⟩
theorem adS {b want:Bool} {d:Option Nat} {f:FuncId} {args:List aT} {rs:List Nat} {os:List bx} {D:Option ja} {aN:List iC} {r:bf} {h:ae} {Q:cT->bf->ae->Prop} (v:V)
 (bt:(b == want)=true->e4 P f (aT.fI (r.trim rs) args) h v h)
 (H:bq P (.os (jM D r h (V.opt (b == want) v)) os::aN) .normal (r.set d (V.opt (b == want) v)) h Q):e7 P (.bool b) want d (.call f args) rs D os aN r h Q:=by
 have:=adR (P:=P) (c:=true) (b:=b) (want:=want) (d:=d) (f:=f) (args:=args) (rs:=rs) (D:=D) (os:=os) (aN:=aN) (r:=r) (h:=h) (Q:=Q) v;simp only [V.opt,aru,ar8] at this;exact this bt H
theorem R5 {b:Bool} {d:Option Nat} {f:FuncId} {args:List aT} {rs:List Nat} {os:List bx} {D:Option ja} {aN:List iC} {r:bf} {h:ae} {Q:cT->bf->ae->Prop} (v:V)
 (bt:(!b)=true->e4 P f (aT.fI (r.trim rs) args) h v h)
 (H:bq P (.os (jM D r h (V.opt (!b) v)) os::aN) .normal (r.set d (V.opt (!b) v)) h Q):e7 P (.bool b) false d (.call f args) rs D os aN r h Q:=by
 refine adS v ?_ ?_<;>rw [beq_false]<;>assumption
def V.toN:V->Nat
 | .int _ n=>n.toNat
 | _=>0
theorem aor (k:IntKind) (n:Int):V.toN (.int k n)=n.toNat:=rfl
theorem hU {f:FuncId} {args:List V} {d:Option Nat} {os:List bx} {D:Option ja} {aN:List iC} {r:bf} {h:ae} {Q:cT->bf->ae->Prop} {v:V}
 (c:e4 P f args h v h) (H:bq P (.os (jM D r h v) os::aN) .normal (r.set d v) h Q):ra P f args d D os aN r h Q:=⟨v,h,c,H⟩
theorem cb {f:FuncId} {args:List V} {d:Option Nat} {os:List bx} {D:Option ja} {aN:List iC} {r:bf} {h:ae} {Q:cT->bf->ae->Prop} {K:V->ae->Prop}
 (c:cR P f args h K) (H:∀v ab,K v ab->bq P (.os (jM D r h v) os::aN) .normal (r.set d v) ab Q):ra P f args d D os aN r h Q:=c.mono H
structure Ext (h ab:ae):Prop where
 next:h.next<=ab.next
 get:∀b,Old h b->ab.get b=h.get b
theorem Ext.refl (h:ae):Ext h h:=⟨arv _,fun _ _=>rfl⟩
theorem Ext.bL {h ab:ae} (e:Ext h ab) {b:aM} (ah:Old h b):Old ab b:=aty ah e.next
theorem Ext.trans {h ab pn:ae} (e:Ext h ab) (cF:Ext ab pn):Ext h pn:=
 ⟨asq e.next cF.next,fun b ah=>(cF.get b (e.bL ah)).trans (e.get b ah)⟩
theorem Ext.new {h ab:ae} (e:Ext h ab) (k:b6):Ext h (ab.new k):=
 ⟨Nat.le_succ_of_le e.next,fun b ah=>by rw [ig,arw (fun q=>(LY (h:=h) ah e.next) ▸ q)];exact e.get b ah⟩
theorem Ext.set {h ab:ae} (e:Ext h ab) {i:Nat} (aw:h.next<=i) (k:b6):Ext h (ab.set (az i) k):=
 ⟨e.next,fun b ah=>by rw [ea,arw (fun q=>(LY (h:=h) ah aw) ▸ q)];exact e.get b ah⟩
theorem Ext.rd {h ab:ae} (e:Ext h ab) {b:aM} (ah:Old h b) {af:List V} (H:nm h b af):nm ab b af:=by unfold nm at H ⊢;rw [e.get b ah];exact H
def jS (h:ae) (b:aM) (off:Nat) (af:List V):Prop:=Old h b/\∃us,nm h b us/\off+af.length<=us.length/\(us.drop off).take af.length=af
theorem jS.ext {h ab:ae} (e:Ext h ab) {b:aM} {off:Nat} {af:List V} (H:jS h b off af):jS ab b off af:=by obtain ⟨aY,us,aa,ad,aH⟩:=H;exact ⟨e.bL aY,us,e.rd aY aa,ad,aH⟩
theorem jS.dR {h:ae} {b:aM} {off:Nat} {af:List V} (H:jS h b off af) {i:Nat} (aw:i<af.length):gq (h.get b) (off+i)=some af[i]:=by
 obtain ⟨_,us,aa,ad,aH⟩:=H;rw [aa.dR,ars (by omega)];congr 1;have:((us.drop off).take af.length)[i]? =af[i]? :=by rw [aH]
 rw [asw aw,asH,ars (by omega),ars aw] at this;simpa using this
theorem jS.fL {h:ae} {b:aM} {off:Nat} {af:List V} (H:jS h b off af) {i n:Nat} (aw:i+n<=af.length):mW n (h.get b) (off+i)=some (.agg ((af.drop i).take n)):=by
 obtain ⟨_,us,aa,ad,aH⟩:=H;rw [aa.fL,arz (by omega)];congr 2;have:(((us.drop off).take af.length).drop i).take n=(af.drop i).take n:=by rw [aH]
 rw [<-this,List.drop_take,asM,List.take_take];congr 1;omega
def fp (h:ae) (size:Nat) (v:V) (n:Nat) (af:List V):Prop:=
 af.length=n * size/\match v with
  | .bj=>n=0
  | .slice b off len _=>len=n/\jS h b off af
  | .ew b off len _=>len=n/\jS h b off af
  | .g' _ _ _ _=>n=0
  | _=>False
theorem fp.ext {h ab:ae} (e:Ext h ab) {size:Nat} {v:V} {n:Nat} {af:List V} (H:fp h size v n af):fp ab size v n af:=by refine ⟨H.1,?_⟩;have cX:=H.2;cases v<;>simp only at cX ⊢<;>first | exact cX | exact ⟨cX.1,cX.2.ext e⟩
theorem fp.len {h:ae} {size:Nat} {v:V} {n:Nat} {af:List V} (H:fp h size v n af):ht v=some (.int .i64 n):=by
 have cX:=H.2;cases v<;>simp only at cX<;>first
  | (rw [<-cX.1];rfl)
  | (subst cX;rfl)
  | (exact cX.elim)
theorem fp.cd {h:ae} {size:Nat} {v:V} {n:Nat} {af:List V} (H:fp h size v n af) {k:IntKind} {i:Nat} (aw:i<n):
 ∃b off,fX size v (.int k i)=some (.ptr b (off+i * size))/\jS h b off af:=by
 have cX:=H.2;cases v<;>simp only at cX<;>first
  | omega
  | (exact cX.elim)
  | skip
 . rename_i b off len cap;obtain ⟨rfl,aa⟩:=cX;refine ⟨b,off,?_,aa⟩;rw [FP,arz (by omega)];simp
 . rename_i b off len cap;obtain ⟨rfl,aa⟩:=cX;refine ⟨b,off,?_,aa⟩;rw [FO,arz (by omega)];simp
end
structure Mod (M:aM->Prop) (h ab:ae):Prop where
 next:h.next<=ab.next
 get:∀b,Old h b->¬M b->ab.get b=h.get b
theorem Mod.refl (M:aM->Prop) (h:ae):Mod M h h:=⟨arv _,fun _ _ _=>rfl⟩
theorem Mod.bL {M:aM->Prop} {h ab:ae} (e:Mod M h ab) {b:aM} (ah:Old h b):Old ab b:=aty ah e.next
theorem Mod.trans {M:aM->Prop} {h ab pn:ae} (e:Mod M h ab) (cF:Mod M ab pn):Mod M h pn:=
 ⟨asq e.next cF.next,fun b ah hm=>(cF.get b (e.bL ah) hm).trans (e.get b ah hm)⟩
theorem Mod.mono {M vN:aM->Prop} {h ab:ae} (e:Mod M h ab) (hm:∀b,Old h b->M b->vN b):Mod vN h ab:=
 ⟨e.next,fun b ah aV=>e.get b ah fun q=>aV (hm b ah q)⟩
theorem Mod.new {M:aM->Prop} {h ab:ae} (e:Mod M h ab) (k:b6):Mod M h (ab.new k):=
 ⟨Nat.le_succ_of_le e.next,fun b ah hm=>by rw [ig,arw (fun q=>(LY (h:=h) ah e.next) ▸ q)];exact e.get b ah hm⟩
theorem Mod.set {M:aM->Prop} {h ab:ae} (e:Mod M h ab) {b:aM} (ah:Old h b->M b) (k:b6):Mod M h (ab.set b k):=
 ⟨e.next,fun bR ho hm=>by
   rw [ea];by_cases q:b=bR
   . subst q;exact absurd (ah ho) hm
   . rw [arw q];exact e.get bR ho hm⟩
theorem Ext.mod {h ab:ae} (e:Ext h ab) (M:aM->Prop):Mod M h ab:=⟨e.next,fun b ah _=>e.get b ah⟩
theorem Ext.oL {h ab pn:ae} (e:Ext h ab) {M:aM->Prop} (m:Mod M ab pn) (hm:∀b,M b->h.next<=b0 b):Ext h pn:=
 ⟨asq e.next m.next,fun b ah=>by
   have lG:¬M b:=fun q=>by have:=hm b q;unfold Old at ah;omega
   exact (m.get b (e.bL ah) lG).trans (e.get b ah)⟩
theorem Mod.at {M:aM->Prop} {h ab:ae} (e:Mod M h ab) {b:aM} {off:Nat} {af:List V} (H:jS h b off af) (hm:¬M b):jS ab b off af:=by obtain ⟨aY,us,aa,ad,aH⟩:=H;refine ⟨e.bL aY,us,?_,ad,aH⟩;unfold nm at aa ⊢;rw [e.get b aY hm];exact aa
theorem hP {h:ae} {i:Nat} (aw:i<h.next):Old h (az i):=by unfold Old;rw [c7];exact aw
theorem CF {h:ae} {b:aM} {i:Nat} (ah:Old h b) (aw:h.next<=i):(b=az i)=False:=by apply arx;intro e;unfold Old at ah;rw [e,c7] at ah;omega
def V.aZ:V->aM->Prop
 | .slice b _ _ _,bR=>bR=b
 | .ew b _ _ _,bR=>bR=b
 | _,_=>False
theorem fp.j1 {h:ae} {size:Nat} {v:V} {n:Nat} {af:List V} (H:fp h size v n af) {k:IntKind} {i:Nat} (aw:i<n):
 ∃b off,fX size v (.int k i)=some (.ptr b (off+i * size))/\jS h b off af/\v.aZ b:=by
 have cX:=H.2;cases v<;>simp only at cX<;>first
  | omega
  | (exact cX.elim)
  | skip
 . rename_i b off len cap;obtain ⟨rfl,aa⟩:=cX;refine ⟨b,off,?_,aa,rfl⟩;rw [FP,arz (by omega)];simp
 . rename_i b off len cap;obtain ⟨rfl,aa⟩:=cX;refine ⟨b,off,?_,aa,rfl⟩;rw [FO,arz (by omega)];simp
theorem fp.one {h:ae} {size:Nat} {v:V} {n:Nat} {af:List V} (H:fp h size v n af):v.one=true/\v.cells=[v]/\v.eU=true:=by have q:=H.2;cases v<;>simp only at q<;>first | exact ⟨rfl,rfl,rfl⟩ | exact q.elim
theorem fp.mod {M:aM->Prop} {h ab:ae} (e:Mod M h ab) {size:Nat} {v:V} {n:Nat} {af:List V} (H:fp h size v n af) (hm:∀b,v.aZ b->¬M b):fp ab size v n af:=by refine ⟨H.1,?_⟩;have cX:=H.2;cases v<;>simp only at cX ⊢<;>first | exact cX | exact ⟨cX.1,e.at cX.2 (hm _ rfl)⟩
theorem fp.bL {h:ae} {size:Nat} {v:V} {n:Nat} {af:List V} (H:fp h size v n af) {b:aM} (ah:v.aZ b):Old h b:=by have cX:=H.2;cases v<;>simp only [V.aZ] at cX ah<;>first | (exact ah.elim) | (subst ah;exact cX.2.1)
def dY (B:Nat) (h:ae) (size:Nat) (v:V) (n:Nat) (af:List V):Prop:=
 af.length=n * size/\match v with
  | .bj=>n=0
  | .slice b off len cap=>len=n/\B<=b0 b/\Old h b/\n<=cap/\cap<=top/\∃us cL st,h.get b=.bU us cL st/\off+cap * size<=us.length/\(us.drop off).take af.length=af
  | .ew b off len idx=>len=n/\B<=b0 b/\Old h b/\off=0/\idx=0/\∃us st,h.get b=.bU us size st/\af.length<=us.length/\us.take af.length=af
  | _=>False
theorem dY.v {B:Nat} {h:ae} {size:Nat} {v:V} {n:Nat} {af:List V} (H:dY B h size v n af):fp h size v n af:=by
 obtain ⟨aa,ad⟩:=H;refine ⟨aa,?_⟩;cases v<;>simp only at ad ⊢<;>first | exact ad | skip
 . obtain ⟨al,_,ao,aK,_,us,cL,st,bG,cK,ev⟩:=ad;refine ⟨al,ao,us,.inr ⟨cL,st,bG⟩,?_,ev⟩;rw [aa];have:=asE size aK;omega
 . obtain ⟨al,_,ao,aK,_,us,st,bG,cK,ev⟩:=ad;subst aK;exact ⟨al,ao,us,.inr ⟨size,st,bG⟩,by omega,by simpa using ev⟩
theorem dY.base {B:Nat} {h:ae} {size:Nat} {v:V} {n:Nat} {af:List V} (H:dY B h size v n af) {b:aM} (ah:v.aZ b):B<=b0 b:=by have cX:=H.2;cases v<;>simp only [V.aZ] at cX ah<;>first | (exact ah.elim) | (subst ah;exact cX.2.1)
theorem dY.mono {B tU:Nat} {h:ae} {size:Nat} {v:V} {n:Nat} {af:List V} (H:dY B h size v n af) (cG:tU<=B):dY tU h size v n af:=by refine ⟨H.1,?_⟩;have cX:=H.2;cases v<;>simp only at cX ⊢<;>first | exact cX | exact ⟨cX.1,asq cG cX.2.1,cX.2.2⟩
theorem dY.mod {M:aM->Prop} {h ab:ae} (e:Mod M h ab) {B size:Nat} {v:V} {n:Nat} {af:List V} (H:dY B h size v n af) (hm:∀b,v.aZ b->¬M b):dY B ab size v n af:=by
 refine ⟨H.1,?_⟩;have cX:=H.2;cases v<;>simp only at cX ⊢<;>first | exact cX | skip
 . obtain ⟨al,ao,aK,bG,cK,us,cL,st,ev,h6⟩:=cX;exact ⟨al,ao,e.bL aK,bG,cK,us,cL,st,by rw [e.get _ aK (hm _ rfl)];exact ev,h6⟩
 . obtain ⟨al,ao,aK,bG,cK,us,st,ev,h6⟩:=cX;exact ⟨al,ao,e.bL aK,bG,cK,us,st,by rw [e.get _ aK (hm _ rfl)];exact ev,h6⟩
theorem dY.ext {h ab:ae} (e:Ext h ab) {B size:Nat} {v:V} {n:Nat} {af:List V} (H:dY B h size v n af):dY B ab size v n af:=
 H.mod (e.mod fun _=>False) fun _ _ q=>q
theorem Ug {h:ae} {size:Nat} {v:V} {n:Nat} {af:List V} (H:fp h size v n af):oJ v=some n:=by
 have cX:=H.2;cases v<;>simp only at cX<;>first
  | (rw [<-cX.1];rfl)
  | (subst cX;rfl)
  | (exact cX.elim)
theorem zW {h:ae} {b:aM} {off size n:Nat} {af:List V} (H:jS h b off af) (ax:af.length=n * size):pM h size b off n=some af:=by obtain ⟨_,us,aa,ad,aH⟩:=H;unfold pM;rw [aa.pL,show Nat.ble (off+n * size) us.length=true from by rw [arH];omega,EZ us _ off (by omega),<-ax,aH];rfl
theorem anR {h:ae} {size:Nat} {v:V} {n:Nat} {af:List V} (H:fp h size v n af):vs h size v n=some af:=by
 obtain ⟨aa,ad⟩:=H;cases v<;>simp only at ad<;>first
  | (exact ad.elim)
  | (obtain ⟨_,aH⟩:=ad;exact zW aH aa)
  | (subst ad
     have:af=[]:=asj (by omega);subst this;rfl)
theorem dY.grown {B:Nat} {h:ae} {size:Nat} {af:List V} {n:Nat} {st:Bool} (ax:af.length=n * size) (cG:B<=h.next):dY B (h.new (.bU af size st)) size (.ew (az h.next) 0 n 0) n af:=
 ⟨ax,rfl,by rw [c7];exact cG,U',rfl,rfl,af,st,rq _,arv _,asZ⟩
theorem Il {h:ae} {size:Nat} {s x:V} {m:Nat} {af:List V} (cX:fp h size x m af) (hm:m<=top):kg size s x h=(match s with
 | .bj=>vT size m af h
 | .slice b off len cap=>vS size b off len cap m af h
 | .ew b off len idx=>x9 size b off len idx m af h
 | _=>.fail):=by
 unfold kg;rw [Ug cX];simp only;rw [anR cX];simp only;rw [show Nat.ble m top=true from by rw [arH];exact hm];rfl
theorem ML (A:List V) (o:Nat) (W:List V) (h:o+W.length<=A.length) (q:Nat):(h7 A o W)[q]? =if q<o then A[q]? else if q<o+W.length then W[q-o]? else A[q]? :=by
 have ax:(A.take o).length=o:=by rw [ar6];omega
 unfold h7;rw [ar_];by_cases bJ:q<o
 . rw [arz bJ,arI (by omega),asw bJ]
 . rw [arw bJ,arJ (by omega),ax];by_cases bO:q<o+W.length
   . rw [arz bO,arI (by omega)]
   . rw [arw bO,arJ (by omega),asH];congr 1;omega
theorem WE (A:List V) (o j:Nat) (L W:List V) (lA:o+L.length<=A.length) (c':(A.drop o).take L.length=L) (bp:j+W.length<=L.length):((h7 A (o+j) W).drop o).take L.length=h7 L j W:=by
 apply atD;intro q;have ax:((A.drop o).take L.length)[q]? =L[q]? :=by rw [c']
 rw [ML L j W bp];by_cases ay:q<L.length
 . rw [asw ay,asH,ML A (o+j) W (by omega)];rw [asw ay,asH] at ax;by_cases bJ:q<j
   . rw [arz (by omega),arz bJ,ax]
   . rw [arw (by omega),arw bJ];by_cases bO:q<j+W.length
     . rw [arz (by omega),arz bO];congr 1;omega
     . rw [arw (by omega),arw bO,ax]
 . rw [List.getElem?_take_eq_none (by omega),arw (by omega),arw (by omega),arW (by omega)]
theorem Io {B:Nat} {h:ae} {size:Nat} {s x:V} {n m:Nat} {us af:List V} (cu:1<=size) (H1:dY B h size s n us) (cX:fp h size x m af) (cG:B<=h.next) (hlen:(n+m) * size<=top) (aW:e9 af=true):
 ∃v ab,kg size s x h=.val v ab/\dY B ab size v (n+m) (us++af)/\Mod s.aZ h ab/\∀b,v.aZ b->s.aZ b\/h.next<=b0 b:=by
 have lG:n+m<=top:=asq (Nat.le_mul_of_pos_right _ cu) hlen;have lE:=H1.1;have kX:=cX.1;have kr:(us++af).length=(n+m) * size:=by rw [arE,lE,kX,asz]
 rw [Il cX (by omega)];have ad:=H1.2;cases s<;>simp only at ad ⊢<;>try (exact ad.elim)
 case bj=>
  subst ad;have:us=[]:=asj (by omega);subst this;unfold vT;by_cases hm:m=0
  . subst hm;have:af=[]:=asj (by omega);subst this;exact ⟨.bj,h,rfl,⟨by simp,rfl⟩,Mod.refl _ _,fun b ah=>.inl ah⟩
  . rw [show Nat.beq m 0=false from by rw [<-ar4,arZ];exact hm];simp only [arB];rw [CE (by rw [kX];simpa using hlen) cu];refine ⟨_,_,rfl,?_,(Mod.refl _ _).new _,fun b ah=>.inr (by rw [show b=az h.next from ah,c7];exact arv _)⟩;have:=dY.grown (B:=B) (h:=h) (size:=size) (af:=af) (n:=m) (st:=false) kX cG;simpa using this
 case slice b off len cap=>
  obtain ⟨rfl,ao,aK,bG,cK,lk,cL,st,ev,h6,la⟩:=ad;unfold vS;by_cases aq:len+m<=cap
  . rw [show Nat.ble (len+m) cap=true from by rw [arH];exact aq];simp only [aru];have e0:off+len * size+af.length<=lk.length:=by
     have:=asE size aq;rw [asz] at this;rw [kX];omega
    rw [Own.lay (af:=lk) (cL:=cL) (st:=st) ev e0 aW];refine ⟨_,_,rfl,⟨kr,rfl,ao,aK,aq,cK,_,cL,st,ea _ _ _ |>.trans (arz rfl),?_,?_⟩,(Mod.refl (V.aZ (.slice b off len cap)) h).set (fun _=>rfl) _,fun bR ah=>.inl ah⟩
    . rw [Hc _ _ _ e0];exact h6
    . rw [arE];unfold h7;have eA:off+us.length<=lk.length:=by rw [lE];omega
      have aJ:lk.take (off+len * size)=lk.take off++us:=by rw [<-lE,List.take_add,la]
      rw [aJ,ar_,ar_,List.drop_append,asy (by rw [ar6];omega),asb];rw [show off - (lk.take off).length=0 from by rw [ar6];omega,asf];rw [<-ar_,atJ (by rw [arE])]
  . rw [show Nat.ble (len+m) cap=false from by rw [<-ar4,arH];exact aq];simp only [arB];rw [show (Nat.ble (len+m) top&&Nat.ble cap top)=true from by simp only [arp,arH];exact ⟨lG,cK⟩];simp only [aru];have fa:jS h b off us:=⟨aK,lk,.inr ⟨cL,st,ev⟩,by rw [lE];have:=asE size bG;omega,la⟩;rw [zW fa lE];simp only;rw [CE (by rw [kr];exact hlen) cu];exact ⟨_,_,rfl,dY.grown kr cG,(Mod.refl _ _).new _,fun b ah=>.inr (by rw [show b=az h.next from ah,c7];exact arv _)⟩
 case ew b off len idx=>
  obtain ⟨rfl,ao,aK,rfl,rfl,lk,st,ev,h6,la⟩:=ad;unfold x9;by_cases hm:m=0
  . subst hm;have:af=[]:=asj (by omega);subst this;exact ⟨_,h,rfl,⟨kr,rfl,ao,aK,rfl,rfl,lk,st,ev,by simpa using h6,by simpa using la⟩,Mod.refl _ _,fun b ah=>.inl ah⟩
  . rw [show Nat.beq m 0=false from by rw [<-ar4,arZ];exact hm];simp only [arB];rw [ev];simp only [b6.bU,b6.on];rw [show (Nat.beq size size&&(Nat.ble (len+m) top&&e9 af)&&Nat.beq 0 (0 * size))=true from by
     simp only [arp,arZ,arH]
     exact ⟨⟨trivial,lG,aW⟩,by omega⟩]
    simp only [aru];have fa:jS h b 0 us:=⟨aK,lk,.inr ⟨size,st,ev⟩,by omega,by simpa using la⟩;rw [zW fa lE];simp only;rw [CE (by rw [kr];exact hlen) cu];exact ⟨_,_,rfl,dY.grown (h:=h.set b .dead) kr cG,((Mod.refl (V.aZ (.ew b 0 len 0)) h).set (fun _=>rfl) _).new _,fun bR ah=>.inr (by rw [show bR=az h.next from ah,c7];exact arv _)⟩
def V.at (v:V) (b:aM) (off:Nat):Prop:=
 match v with
 | .slice bR o _ _=>b=bR/\off=o
 | .ew bR o _ _=>b=bR/\off=o
 | _=>False
theorem Ov {h:ae} {size:Nat} {v:V} {n:Nat} {af:List V} (H:fp h size v n af) {k:IntKind} {i:Nat} (aw:i<n) {b:aM} {off:Nat} (e:fX size v (.int k i)=some (.ptr b (off+i * size))):v.at b off:=by
 have cX:=H.2;cases v<;>simp only at cX<;>first | omega | (exact cX.elim) | skip
 . obtain ⟨rfl,_⟩:=cX;rw [FP,arz (by omega)] at e;simp only [arq,V.ptr.injEq,ary] at e;exact ⟨e.1.symm,by omega⟩
 . obtain ⟨rfl,_⟩:=cX;rw [FO,arz (by omega)] at e;simp only [arq,V.ptr.injEq,ary] at e;exact ⟨e.1.symm,by omega⟩
theorem WG (af:List V) (c:Nat) (y:V) (h:c<af.length):h7 af c [y]=af.set c y:=by unfold h7;rw [List.set_eq_take_append_cons_drop,arz h];simp
theorem dY.VS {B:Nat} {h:ae} {size:Nat} {v:V} {n:Nat} {af:List V} (H:dY B h size v n af) {b:aM} {off:Nat} (bs:v.at b off) {c:Nat} (aq:c<af.length) {y:V} (a6:y.cells=[y]) (aW:y.one=true):
 ∃k,nK 1 h b (off+c) y (h.get b)=some (h.set b k)/\(∀ef:ae,ef.get b=h.get b->nK 1 ef b (off+c) y (h.get b)=some (ef.set b k))/\dY B (h.set b k) size v n (af.set c y)/\v.aZ b:=by
 obtain ⟨aa,ad⟩:=H;have hq:e9 y.cells=true:=by rw [a6];simp [e9,aW]
 cases v<;>simp only at ad<;>simp only [V.at] at bs<;>try (exact bs.elim)
 case slice bR o len cap=>
  obtain ⟨rfl,rfl⟩:=bs;obtain ⟨rfl,ao,aK,bG,cK,lk,cL,st,ev,h6,la⟩:=ad;have pq:=asE size bG;have e0:off+c+y.cells.length<=lk.length:=by rw [a6];simp;omega
  have e:∀ef:ae,ef.get b=h.get b->nK 1 ef b (off+c) y (h.get b)=some (ef.set b (.bU (nV lk (off+c) y.cells) cL st)):=by intro ef _;rw [ev];exact Li (by rw [a6];rfl) hq (by rw [a6] at e0;simpa using e0)
  refine ⟨_,e h rfl,e,⟨by simpa using aa,rfl,ao,aK,bG,cK,_,cL,st,ea _ _ _ |>.trans (arz rfl),?_,?_⟩,rfl⟩
  . rw [MK _ _ _ e0];exact h6
  . rw [zV _ _ _ e0,atd];have:=WE lk off c af y.cells (by rw [aa];omega) la (by rw [a6];simp;omega);rw [this,a6,WG af c y aq]
 case ew bR o len idx=>
  obtain ⟨rfl,rfl⟩:=bs;obtain ⟨rfl,ao,aK,rfl,rfl,lk,st,ev,h6,la⟩:=ad;have e0:0+c+y.cells.length<=lk.length:=by rw [a6];simp;omega
  have e:∀ef:ae,ef.get b=h.get b->nK 1 ef b (0+c) y (h.get b)=some (ef.set b (.bU (nV lk (0+c) y.cells) size st)):=by intro ef _;rw [ev];exact Li (by rw [a6];rfl) hq (by rw [a6] at e0;simpa using e0)
  refine ⟨_,e h rfl,e,⟨by simpa using aa,rfl,ao,aK,rfl,rfl,_,st,ea _ _ _ |>.trans (arz rfl),?_,?_⟩,rfl⟩
  . rw [MK _ _ _ e0,atd];exact h6
  . rw [zV _ _ _ e0,atd];have:=WE lk 0 c af y.cells (by omega) (by simpa using la) (by rw [a6];simp;omega);rw [asf] at this;rw [this,a6,WG af c y aq]
theorem alY (r:bf):aT.opt r none=none:=(rfl)
theorem alZ (r:bf) (x:aT):aT.opt r (some x)=some (x.aQ r):=(rfl)
theorem IC {k:IntKind} {m d y:Nat} (h:m<=y):bound (some (.int k (m:Int))) d y=some m:=by simp only [bound,V.eu,pD];rw [show (decide ((0:Int)<=(m:Int))&&decide ((m:Int)<=(y:Int)))=true from by simp;omega];simp
theorem A3 (d y:Nat):bound none d y=some d:=rfl
theorem ak9 (b:aM) (o:Nat):vb (.ptr b o)=some (.ptr b o):=rfl
theorem akP (k br:IntKind) (a b:Int):k9 (fun b a=>!Int.leB a b) [.int k a,.int br b]=some (.int k (if b<a then b else a)):=by
 simp only [k9,xo,V.eu,pD];by_cases h:b<a
 . rw [arz h];have:¬a<=b:=by omega
   simp [this]
 . rw [arw h];have:a<=b:=by omega
   simp [this]
theorem UK (k br:IntKind) (a b:Int):k9 (fun b a=>!Int.leB b a) [.int k a,.int br b]=some (.int k (if a<b then b else a)):=by
 simp only [k9,xo,V.eu,pD];by_cases h:a<b
 . rw [arz h];have:¬b<=a:=by omega
   simp [this]
 . rw [arw h];have:b<=a:=by omega
   simp [this]
end
section
open Go Go.RowKit
set_option linter.defProp false
variable [Lay]
end
section
open Go Go.RowKit
variable [Lay]
theorem abN {P:Program} {aN:List iC} {r:bf} {h:ae} {Q:cT->bf->ae->Prop} {a b:a1}:yg P (.bool true) a b aN r h Q=bq P (.c a::aN) .normal r h Q:=by rw [QJ];simp
theorem abM {P:Program} {aN:List iC} {r:bf} {h:ae} {Q:cT->bf->ae->Prop} {a b:a1}:yg P (.bool false) a b aN r h Q=bq P (.c b::aN) .normal r h Q:=by rw [QJ];simp
theorem OE (a b:List UInt8):l2 a b=decide (a=b):=by rw [vX,ass];simp
theorem IA (k:IntKind) (b:Int) (d y:Nat):bound (some (.int k b)) d y=if 0<=b/\b<=(y:Int) then some b.toNat else none:=by simp only [bound,V.eu,pD];by_cases aa:0<=b<;>by_cases ad:b<=(y:Int)<;>simp [aa,ad]
theorem anH (s:List UInt8) (k:IntKind) (b:Int):nd (.str s) none (some (.int k b)) none=if 0<=b/\b<=(s.length:Int) then some (.str (s.take b.toNat)) else none:=by
 simp only [nd,IA];by_cases h:0<=b/\b<=(s.length:Int)
 . simp only [h,and_self,ar2,bound,asf,atH]
 . simp only [h,ar5]
theorem anI (s:List UInt8) (k:IntKind) (a:Int):nd (.str s) (some (.int k a)) none none=if 0<=a/\a<=(s.length:Int) then some (.str (s.drop a.toNat)) else none:=by
 simp only [nd,A3,IA];by_cases h:0<=a/\a<=(s.length:Int)
 . simp only [h,and_self,ar2];rw [asu (by rw [asc];omega)]
 . simp only [h,ar5]
theorem anJ (s:List UInt8) (k br:IntKind) (a b:Int):nd (.str s) (some (.int k a)) (some (.int br b)) none=if 0<=a/\a<=b/\b<=(s.length:Int) then some (.str ((s.drop a.toNat).take (b.toNat-a.toNat))) else none:=by
 simp only [nd,IA];by_cases h:0<=b/\b<=(s.length:Int)
 . simp only [h,and_self,ar2];by_cases ad:0<=a/\a<=b
   . have:0<=a/\a<=((b.toNat:Nat):Int):=by omega
     simp only [this,and_self,ar2,ad,h]
   . have aH:¬(0<=a/\a<=((b.toNat:Nat):Int)):=by omega
     have bw:¬(0<=a/\a<=b/\b<=(s.length:Int)):=by omega
     have cM:¬(0<=a/\a<=b/\True):=fun q=>ad ⟨q.1,q.2.1⟩;rw [arw cM,arw aH]
 . have bw:¬(0<=a/\a<=b/\b<=(s.length:Int)):=by omega
   simp only [h,bw,ar5]
theorem anG (s:List UInt8):nd (.str s) none none none=some (.str s):=by simp only [nd,A3,asf,atH,asZ]
section
variable {P:Program}
theorem anr (a b:List UInt8):(eX.str .eql).run P (.str a) (.str b)=some (.bool (decide (a=b))):=by simp only [eX.run,tI,r7,OE]
theorem anq (a b:List UInt8):(eX.str .add).run P (.str a) (.str b)=if a.length+b.length<=top then some (.str (a++b)) else none:=by
 simp only [eX.run,tI,Hg];by_cases h:a.length+b.length<=top
 . rw [arz h,show Nat.ble (a.length+b.length) top=true from by rw [arH];exact h];rfl
 . rw [arw h,show Nat.ble (a.length+b.length) top=false from by rw [<-ar4,arH];exact h];rfl
theorem ans (s:List UInt8) (k:IntKind) (i:Int):tg.run (.str s) (.int k i)=if 0<=i/\i < (s.length:Int) then some (.int .u8 (((s[i.toNat]?).getD 0).toNat:Int)) else none:=by
 simp only [tg,V.eu,pD];by_cases aa:0<=i
 . simp only [aa,as7,aru,atn];by_cases ad:i < (s.length:Int)
   . rw [arz ad,ars (by omega)];rfl
   . rw [arw ad,arW (by omega)]
 . simp only [aa,atc,arB,atL,ar5]
theorem ant (a b:List UInt8):(eX.str .neq).run P (.str a) (.str b)=some (.bool (!decide (a=b))):=by simp only [eX.run,tI,r7,OE]
end
end
section
open Go Go.RowKit
set_option linter.defProp false
def aoY:=
 And.intro @air<|And.intro @ahy<|And.intro @aiC<|And.intro @ahz<|And.intro @aiy<|And.intro @aiD<|And.intro @aiz<|And.intro @ahT<|And.intro @ahJ<|And.intro @ahG<|And.intro @ahH<|And.intro @aie<|And.intro @ahP<|And.intro @aiv<|And.intro @ain<|And.intro @ajo<|And.intro @aix<|And.intro @ajv<|And.intro @ahD<|And.intro @aiR<|And.intro @ah6<|And.intro @aja<|And.intro @ah7<|And.intro @ajb<|And.intro @ais<|And.intro @ajr<|And.intro @ahx<|And.intro @aiO<|And.intro @aiI<|And.intro @ajB<|And.intro @ahY<|And.intro @ai6<|And.intro @ah3<|And.intro @ai9<|And.intro @aiF<|And.intro @ajz<|And.intro @aiE<|And.intro @ajy<|And.intro @ahV<|@ai3
def aoZ:=
 And.intro @ahW<|And.intro @ai4<|And.intro @ahX<|And.intro @ai5<|And.intro @ah1<|And.intro @ai7<|And.intro @ah2<|And.intro @ai8<|And.intro @ah5<|And.intro @ai_<|And.intro @ah4<|And.intro @ai'<|And.intro @aib<|And.intro @ajg<|And.intro @ahU<|And.intro @ai2<|And.intro @ail<|And.intro @ajn<|And.intro @aio<|And.intro @ajp<|And.intro @ahL<|And.intro @aiX<|And.intro @ah'<|And.intro @aje<|And.intro @ah_<|And.intro @ajf<|And.intro @ah8<|And.intro @ajc<|And.intro @aiq<|And.intro @ajq<|And.intro @ahB<|And.intro @aiP<|And.intro @ahC<|And.intro @aiQ<|And.intro @aiG<|And.intro @ajA<|And.intro @aik<|And.intro @ajm<|And.intro @aiJ<|@ajC
def ao0:=
 And.intro @aij<|And.intro @ajl<|And.intro @aiB<|And.intro @ajx<|And.intro @ait<|And.intro @ajs<|And.intro @ahu<|And.intro @aiM<|And.intro @ahI<|And.intro @aiV<|And.intro @ah9<|And.intro @ajd<|And.intro @ahK<|And.intro @aiW<|And.intro @ahN<|And.intro @aiZ<|And.intro @ahM<|And.intro @aiY<|And.intro @aiS<|And.intro @aiT<|And.intro @TQ<|And.intro @ahE<|@ahO
def ao1:=
 And.intro @an'<|And.intro @anP<|And.intro @abN<|And.intro @abM<|And.intro @abb<|And.intro @am8<|And.intro @ZW<|And.intro @ZV<|And.intro @al1<|And.intro @ado<|And.intro @adn<|And.intro @ZY<|And.intro @ac6<|And.intro @ac5<|And.intro @amh<|And.intro @adj<|And.intro @alz<|And.intro @aly<|And.intro @akb<|And.intro @aj_<|And.intro @akc<|And.intro @aka<|And.intro @akd<|And.intro @FP<|And.intro @FO<|And.intro @ab5<|And.intro @ac8<|And.intro @ac7<|And.intro @aov<|And.intro @anv<|And.intro @anw<|And.intro @alm<|And.intro @aln<|And.intro @al0<|And.intro @alX<|And.intro @aoL<|And.intro @aoK<|And.intro @ZJ<|And.intro @ZK<|@ZL
def ao2:=
 And.intro @ZM<|And.intro @ZI<|And.intro @X2<|And.intro @X4<|And.intro @X3<|And.intro @aos<|And.intro @aou<|And.intro @aot<|And.intro @ahj<|And.intro @ahl<|And.intro @ahk<|And.intro @aht<|And.intro @aiH<|And.intro @aim<|And.intro @ahR<|And.intro @aip<|And.intro @aif<|And.intro @aia<|And.intro @ah0<|And.intro @ahZ<|And.intro @ahw<|And.intro @ahA<|And.intro @aoG<|And.intro @aoF<|And.intro @akn<|And.intro @akp<|And.intro @T8<|And.intro @T9<|And.intro @T_<|And.intro @Ua<|And.intro @anZ<|And.intro @ajP<|And.intro @rq<|And.intro @ig<|And.intro @ea<|And.intro @m_<|And.intro @gv<|And.intro @nP<|And.intro @ak0<|@abh
def ao3:=
 And.intro @alB<|And.intro @ad3<|And.intro @abl<|And.intro @alF<|And.intro @ad7<|And.intro @abw<|And.intro @alP<|And.intro @aee<|And.intro @abq<|And.intro @alL<|And.intro @aea<|And.intro @abt<|And.intro @alN<|And.intro @aec<|And.intro @abv<|And.intro @alO<|And.intro @aed<|And.intro @abj<|And.intro @alD<|And.intro @ad5<|And.intro @abx<|And.intro @alQ<|And.intro @aef<|And.intro @abr<|And.intro @alM<|And.intro @aeb<|And.intro @abp<|And.intro @alK<|And.intro @ad_<|And.intro @abm<|And.intro @alG<|And.intro @ad8<|And.intro @abi<|And.intro @alC<|And.intro @ad4<|And.intro @abo<|And.intro @alJ<|And.intro @ad'<|And.intro @abk<|@alE
def ao4:=
 And.intro @ad6<|And.intro @abn<|And.intro @alI<|And.intro @ad9<|And.intro @abg<|And.intro @ad2<|And.intro @aeg<|And.intro @aj6<|And.intro @aj7<|And.intro @aj5<|And.intro @beq_true<|And.intro @beq_false<|And.intro @Bool.not_true<|And.intro @Bool.not_false<|And.intro @ar8<|And.intro @asx<|And.intro @ar9<|And.intro @asL<|And.intro @Bool.not_not<|And.intro @V.bool.injEq<|And.intro @arV<|And.intro @asB<|And.intro @aoo<|And.intro @aop<|And.intro @aom<|And.intro @Bool.true_eq_false<|And.intro @arK<|And.intro @aor<|And.intro @amu<|And.intro @amv<|And.intro @Zw<|And.intro @Zv<|And.intro @Zs<|And.intro @Zo<|And.intro @aff<|And.intro @afh<|And.intro @afg<|And.intro @Zp<|And.intro @Zq<|@Zt
def ao5:=
 And.intro @Zu<|And.intro @UY<|And.intro @ao9<|And.intro @CH<|And.intro @ao'<|And.intro @ald<|And.intro @ao_<|And.intro @ale<|And.intro @apa<|And.intro @alf<|And.intro @apb<|And.intro @alg<|And.intro @apc<|And.intro @alh<|And.intro @apd<|And.intro @ali<|And.intro @ape<|And.intro @adW<|And.intro @adT<|And.intro @adV<|And.intro @adU<|And.intro @adX<|And.intro @Bool.or_false<|And.intro @atI<|And.intro @Bool.or_true<|And.intro @Bool.true_or<|And.intro @ak9<|And.intro @akP<|And.intro @UK<|And.intro @alY<|And.intro @alZ<|And.intro @Y1<|And.intro @Y7<|And.intro @Y8<|And.intro @Y9<|And.intro @Y'<|And.intro @Y_<|And.intro @Za<|And.intro @Zb<|@Zc
def ao6:=
 And.intro @Y0<|And.intro @Y2<|And.intro @Y3<|And.intro @Y4<|And.intro @Y5<|And.intro @Y6<|And.intro @anH<|And.intro @anI<|And.intro @anJ<|And.intro @anG<|And.intro @anr<|And.intro @ant<|And.intro @anq<|@ans
end
section
open Go Go.RowKit
variable [Lay]
theorem AT {B:Nat} {h:ae} {size:Nat} {s:V} {n:Nat} {us cs:List V} (cu:1<=size) (H1:dY B h size s n us) (cG:B<=h.next) (hlen:(n+1) * size<=top) (iG:cs.length=size) (aW:e9 cs=true):
 ∃v ab,kg size s (.slice (az h.next) 0 1 1) (h.new (.bU cs 0 false))=.val v ab/\dY B ab size v (n+1) (us++cs)/\Mod s.aZ h ab/\h.next+1<=ab.next/\∀b,v.aZ b->s.aZ b\/h.next<b0 b:=by
 have ak:Ext h (h.new (.bU cs 0 false)):=(Ext.refl h).new _;have bt:fp (h.new (.bU cs 0 false)) size (.slice (az h.next) 0 1 1) 1 cs:=by refine ⟨by rw [iG];omega,rfl,hP (by rw [gv];omega),cs,.inr ⟨0,false,by rw [rq]⟩,by omega,by simp⟩
 obtain ⟨v,ab,al,ao,aK,bG⟩:=Io cu (H1.ext ak) bt (by rw [gv];omega) hlen aW;refine ⟨v,ab,al,ao,(ak.mod _).trans aK,by have:=aK.next;rw [gv] at this;exact this,fun b ah=>?_⟩;rcases bG b ah with q | q
 . exact .inl q
 . exact .inr (by rw [gv] at q;omega)
theorem Xa:∀l:List UInt8,oU (iE l)=some l
 | []=>rfl
 | c::l=>by have bc:=Xa l;simp only [iE,oU,bc];simp
theorem Eg:∀l:List UInt8,(iE l).length=l.length
 | []=>rfl
 | c::l=>by simp only [iE,arA,Eg l]
theorem OM:∀l m:List UInt8,iE (l++m)=iE l++iE m
 | [],m=>rfl
 | c::l,m=>by simp only [iE,arR,OM l m]
theorem WL {h:ae} {b:aM} {us:List V} {cL:Nat} {st:Bool} {off:Nat} {l:List UInt8} (aF:h.get b=.bU us cL st) (ax:off+l.length<=us.length) (hu:(us.drop off).take l.length=iE l):vu b off l.length h=.val (.str l) h:=by unfold vu;rw [aF];simp only [b6.pL,b6.bU];rw [show Nat.ble (off+l.length) us.length=true from by rw [arH];exact ax];simp only [aru];rw [EZ us l.length off ax,hu,Xa]
theorem QN {B:Nat} {h:ae} {v:V} {n:Nat} {l:List UInt8} (H:dY B h 1 v n (iE l)):uu.run v h=.val (.str l) h:=by
 have aa:=H.1;rw [Eg,atG] at aa;have ad:=H.2;cases v<;>simp only at ad<;>try (exact ad.elim)
 case bj=>
  subst ad;rw [ata] at aa;subst aa;rfl
 case slice=>
  obtain ⟨al,ao,aK,bG,cK,us,cL,st,ev,h6,la⟩:=ad;rw [Eg] at la;simp only [uu];rw [al,<-aa];exact WL ev (by omega) la
 case ew=>
  obtain ⟨al,ao,aK,bG,cK,us,st,ev,h6,la⟩:=ad;rw [Eg] at la h6;simp only [uu];rw [al,bG,<-aa];exact WL ev (by omega) (by simpa using la)
theorem Mod.self {b:aM} {h ab:ae} (e:Mod (fun q=>q=b) h ab) (k:b6):Mod (fun q=>q=b) h (ab.set b k):=e.set (fun _=>rfl) k
theorem Mod.fresh {M:aM->Prop} {h ab:ae} (e:Mod M h ab) {i:Nat} (aw:h.next<=i) (k:b6):Mod M h (ab.set (az i) k):=
 e.set (fun q=>absurd (show b0 (az i)<h.next from q) (by rw [c7];omega)) k
theorem Mod.aon {M N:aM->Prop} {h ad aH:ae} (e:Mod M h ad) (q:Mod N ad aH) (aV:∀b,N b->h.next<=b0 b):Mod M h aH:=
 ⟨asq e.next q.next,fun b aW ah=>by rw [q.get b (e.bL aW) (fun k=>absurd (show b0 b<h.next from aW) (by have:=aV b k;omega)),e.get b aW ah]⟩
end
section
open Go Go.RowKit
set_option linter.defProp false
variable [Lay]
def aj:=And.intro @aoY<|And.intro @aoZ @ao0
def aoN:=And.intro @ao1<|And.intro @ao2<|And.intro @ao3<|And.intro @ao4<|And.intro @ao5 @ao6
def aoO:=And.intro @asQ.{0}<|And.intro @ar0.{0}<|And.intro @ar2.{1}<|And.intro @ar5.{1}<|And.intro @atn<|And.intro @atC<|And.intro @arG.{0}<|And.intro @ash.{0}<|And.intro @arA.{0}<|And.intro @asd.{0}<|
 And.intro @asf.{0}<|And.intro @as0.{0}<|And.intro @asA.{0}<|And.intro @atF.{0}<|And.intro @arR.{0}<|And.intro @asb.{0}<|And.intro @arq.{0}<|And.intro @exists_eq_left'.{1}<|And.intro @asY.{0}<|
 And.intro @Nat.succ_ne_zero<|And.intro @ag9<|And.intro @ag8<|And.intro @List.getElem?_nil.{0}<|And.intro @as7<|And.intro @atc<|And.intro @eq_self.{1}<|And.intro @not_true_eq_false<|And.intro @not_false_eq_true<|And.intro @ite_true.{1} @ite_false.{1}
def bD:=And.intro aoN (And.intro aoO (And.intro @iN.eq_1 (And.intro @iN.eq_2 (And.intro @aT.fI.eq_1 (And.intro @aT.fI.eq_2 (And.intro @nV.eq_1 (And.intro @nV.eq_2 (And.intro @nV.eq_3 (And.intro @over.eq_1 (And.intro @over.eq_2 (And.intro @over.eq_3 (And.intro @e9.eq_1 (@e9.eq_2)))))))))))))
def aC:=And.intro bD (And.intro @cT.ends.eq_1 (And.intro @cT.ends.eq_2 (And.intro @lx.eq_1 (And.intro @lx.eq_2 (And.intro @lx.eq_3 (And.intro @lx.eq_4 (And.intro @oneOf.eq_1 (And.intro @oneOf.eq_2 top.eq_1))))))))
end
section
open Go Go.RowKit
variable [Lay]
theorem abC {P:Program} {f:FuncId} (a6:Nat.beq f dB=false) {v:V} (bt:∀E x,x=.bool true->Rel E v x) (ik:∃fn,P.funcs[f]? =some fn/\fn.body.isSome=true) (H:∀w,Lay.ok w->Calls P f #[] w fun e w'=>e=.returned (.bool true)/\Below w.heap.size w w') (h:ae):
 e4 P f [] h v h:=by
 refine ⟨fun e=>by subst e;simp at a6,.inl ⟨ik,fun aA E w xs ak s=>?_⟩⟩;simp only [bh] at ak;subst ak;refine (H w (Lay.e1 s.laid s.frame)).mono fun e w' q=>?_;obtain ⟨rfl,ah⟩:=q;exact ⟨E,_,rfl,fun _ _ q=>q,bt E _ rfl,s.below ah⟩
def r9 (E:Env) (h:ae) (p:ju):Env:=fun b=>if b=az h.next then some p else E b
theorem Xk (E:Env) (h:ae) (p:ju):r9 E h p (az h.next)=some p:=arz rfl
theorem M7 {aA:Fr} {E:Env} {h:ae} {w:World} (s:ba aA E h w) (p:ju):E.le (r9 E h p):=fun b q ay=>by unfold r9;rw [arw (fun e=>by rw [e,s.fresh _ (arv _)] at ay;cases ay)];exact ay
theorem anE {W:World} {E:Env} {h:ae} (s:ba ⟨W,fun _=>none⟩ E h W) (p:ju) (k:b6) (aW:k.own=false) (aB:fF W.heap.size (r9 E h p) W (az h.next) k):
 ba ⟨W,fun _=>none⟩ (r9 E h p) (h.new k) W:=by
 refine ⟨fun b _=>?_,fun _ _ h=>(by cases h),fun b bR q fc aa ad aJ aR ay=>?_,fun i aw=>?_,s.frame,s.laid,fun b q n cs st aa aJ=>by
  rw [ig] at aa;by_cases bJ:az h.next=b
  . rw [arz bJ] at aa;rw [aa] at aW;cases aW
  . rw [arw bJ] at aa;unfold r9 at aJ;rw [arw (fun e=>bJ e.symm)] at aJ;exact s.base _ _ _ _ _ aa aJ⟩
 . rw [ig];by_cases e:az h.next=b
   . subst e;rw [arz rfl];exact aB
   . rw [arw e];exact (s.aZ b rfl).mono (M7 s p)
 . rw [ig] at aa ad;by_cases bJ:az h.next=b
   . rw [arz bJ,aW] at aa;cases aa
   . by_cases bO:az h.next=bR
     . rw [arz bO,aW] at ad;cases ad
     . rw [arw bJ] at aa;rw [arw bO] at ad;unfold r9 at aJ aR;rw [arw (fun e=>bJ e.symm)] at aJ;rw [arw (fun e=>bO e.symm)] at aR;exact s.inj b bR q fc aa ad aJ aR ay
 . rw [gv] at aw;unfold r9;rw [arw (fun e=>by have:=h5 e;omega)];exact s.fresh i (by omega)
theorem anF {W:World} {E:Env} {h:ae} (s:ba ⟨W,fun _=>none⟩ E h W) {k base cap:Nat} {c:Array Value} {el:TypeId} {b2:Nat × Nat} (aB:W.heap[k]? =some (.cells c el b2)) {af:List V}
 (aq:base+af.length<=c.size) (aD:∀i v y,af[i]? =some v->c[base+i]? =some y->Rel E v y):
 ba ⟨W,fun _=>none⟩ (r9 E h ⟨k,base,cap⟩) (h.new (.ro af)) W:=by
 refine anE s _ _ rfl ?_;have aS:k<W.heap.size:=by
  by_cases aS:k<W.heap.size
  . exact aS
  . rw [ate (by omega)] at aB;cases aB
 refine ⟨trivial,⟨k,base,cap⟩,c,el,b2,Xk _ _ _,aS,aB,aq,fun i y aw a6=>?_⟩;have:T.get .bad (az i) (fT .e 0 af)=af[i]:=by have:=EX af 0 i .e;rw [arV] at this;rw [this,arz aw,ars aw];rfl
 rw [this];exact Rel.mono (M7 s _) _ _ (aD i _ y (ars aw) a6)
end
section
open Go Go.RowKit
variable [Lay]
section
variable (P:Program)
def z7:List Field->Nat->Option Nat
 | [],o=>some o
 | f::b7,o=>if f.offset=o then z7 b7 (o+P.cellsOf f.type) else none
def xF:Bool:=(List.range P.types.size).all fun t=>match P.underlying t with
 | some (.struct b7)=>decide (z7 P b7.toList 0=some (P.cellsOf t))
 | _=>true
def dE (h:ae):Nat->Nat->TypeId->List V->Prop
 | 0,_,_,_=>False
 | n+1,m,t,af=>match P.underlying t with
   | some .bool=>∃b,af=[.bool b]
   | some (.int k)=>∃i,af=[.int k i]/\(Lit.int k i).wf=true
   | some .string=>∃s:List UInt8,af=[.str s]/\s.length+1<=m
   | some (.slice e)=>1<=m/\(af=[.bj]\/(∃b i j k,af=[.g' b i j k])\/P.cellsOf e=0\/
      ∃b len cap,af=[.slice b 0 len cap]/\0<len/\len<=cap/\Old h b/\∃us,nm h b us/\us.length=len * P.cellsOf e/\∃ms:List Nat,ms.length=len/\ms.sum+1<=m/\
       ∀(i k:Nat),ms[i]? =some k->1<=k/\dE h n k e ((us.drop (i * P.cellsOf e)).take (P.cellsOf e)))
   | some (.struct b7)=>af.length=P.cellsOf t/\∃ms:List Nat,ms.length=b7.toList.length/\ms.sum+1<=m/\∀(i:Nat) (f:Field) (k:Nat),b7.toList[i]? =some f->ms[i]? =some k->1<=k/\dE h n k f.type ((af.drop f.offset).take (P.cellsOf f.type))
   | some (.pointer e)=>1<=m/\(af=[.kA]\/P.cellsOf e=0\/∃b,af=[.ptr b 0]/\Old h b/\∃us,nm h b us/\us.length=P.cellsOf e/\∃k,k+1<=m/\dE h n k e us)
   | some (.map _ _)=>af=[.j7]\/af=[.bad]
   | some (.interface _)=>af=[.nilIface]\/af=[.bad]
   | _=>True
end
theorem dE.ext {P:Program} {h ab:ae} (e:Ext h ab):∀(n m:Nat) (t:TypeId) (af:List V),dE P h n m t af->dE P ab n m t af
 | 0,_,_,_,H=>H
 | n+1,m,t,af,H=>by
   unfold dE at H ⊢
   split at H<;>try exact H
   . refine ⟨H.1,?_⟩;rcases H.2 with H | H | H | ⟨b,len,cap,aa,ad,aH,cM,us,b3,b5,ms,dW,fY,kv⟩
     . exact .inl H
     . exact .inr (.inl H)
     . exact .inr (.inr (.inl H))
     . exact .inr (.inr (.inr ⟨b,len,cap,aa,ad,aH,e.bL cM,us,e.rd cM b3,b5,ms,dW,fY,fun i k aB=>⟨(kv i k aB).1,dE.ext e n _ _ _ (kv i k aB).2⟩⟩))
   . obtain ⟨aa,ms,ad,aH,bw⟩:=H;exact ⟨aa,ms,ad,aH,fun i f k av aB=>⟨(bw i f k av aB).1,dE.ext e n _ _ _ (bw i f k av aB).2⟩⟩
   . refine ⟨H.1,?_⟩;rcases H.2 with H | H | ⟨b,aa,cM,us,b3,b5,k,dW,fY⟩
     . exact .inl H
     . exact .inr (.inl H)
     . exact .inr (.inr ⟨b,aa,e.bL cM,us,e.rd cM b3,b5,k,dW,dE.ext e n _ _ _ fY⟩)
mutual
def fP {H:Type}:DataW H->Nat
 | .lit (.string bytes)=>bytes.length+1
 | .lit _=>1
 | .nil=>1
 | .ptr d=>fP d+1
 | .slice elems spare=>mz elems+mz spare+1
 | .agg parts=>mz parts+1
 | .iface _ d=>fP d+1
 | .map entries=>Ed entries+1
 | .held _=>1
def mz {H:Type}:List (DataW H)->Nat
 | []=>0
 | d::r=>fP d+mz r
def Ed {H:Type}:List (Lit × DataW H)->Nat
 | []=>0
 | x::r=>IF x+Ed r
def IF {H:Type}:Lit × DataW H->Nat
 | (.string bytes,d)=>bytes.length+fP d+1
 | (_,d)=>fP d+1
end
theorem sC {H:Type} (d:DataW H):1<=fP d:=by
 cases d with
 | lit l=>cases l<;>simp [fP]
 | _=>simp [fP]
theorem IE {H:Type}:∀l:List (DataW H),mz l=(l.map fP).sum
 | []=>by simp [mz]
 | d::r=>by simp only [mz,ast,atb,IE r]
theorem Ej {w:World} {base:Nat} {a:Addr} {n:Nat} {l:List Value} (h:w.cells? base a n=some l):l.length=n/\∀i,i<n->w.cell? (a.add i)=l[i]? :=by
 unfold World.cells? at h
 split at h
 . exact ⟨by simpa using mapM_some_length h,fun i aw=>mapM_some_get h i i (by simp [aw])⟩
 . cases h
theorem V_ {E au:Env} (he:E.le au) {af:List V} {l:List Value} (H:bh E af l):bh au af l:=bh.mono he af l H
section
variable {H:Type} {enc:TypeId × Value->H} {P:Program} {W:World} {base:Nat} {sp:Nat->Bool} {held:Bool}
def Lays (P:Program) (W:World) (n m:Nat) (t:TypeId) (cs:List Value):Prop:=
 ∀(E:Env) (h:ae),ba ⟨W,fun _=>none⟩ E h W->∃au ab af,E.le au/\Ext h ab/\ba ⟨W,fun _=>none⟩ au ab W/\bh au af cs/\af.length=cs.length/\dE P ab n m t af
theorem T7 (n size:Nat) (e:TypeId):∀(pieces:List (List Value)) (ms:List Nat),ms.length=pieces.length->(∀(i:Nat) (l:List Value) (k:Nat),pieces[i]? =some l->ms[i]? =some k->l.length=size/\Lays P W n k e l)->
 ∀(E:Env) (h:ae),ba ⟨W,fun _=>none⟩ E h W->∃au ab us,E.le au/\Ext h ab/\ba ⟨W,fun _=>none⟩ au ab W/\bh au us pieces.flatten/\us.length=pieces.length * size/\
  ∀(i k:Nat),ms[i]? =some k->dE P ab n k e ((us.drop (i * size)).take size)
 | [],[],_,_,E,h,s=>⟨E,h,[],fun _ _ q=>q,Ext.refl h,s,rfl,by simp,fun i k aw=>by simp at aw⟩
 | [],_::_,ax,_,_,_,_=>by simp at ax
 | _::_,[],ax,_,_,_,_=>by simp at ax
 | l::ls,m::ms,l6,ag,E,h,s=>by
   obtain ⟨ax,H⟩:=ag 0 l m rfl rfl;obtain ⟨gO,aa,af,bE,a2,a3,a4,a5,ha⟩:=H E h s;obtain ⟨bC,ad,us,cc,cj,eI,jX,jv,o9⟩:=T7 n size e ls ms (by simpa using l6) (fun i l k al ao=>ag (i+1) l k (by simpa using al) (by simpa using ao)) gO aa a3;refine ⟨bC,ad,af++us,bE.trans cc,a2.trans cj,eI,?_,?_,?_⟩
   . rw [asG];exact bh.append (V_ cc a4) jX
   . rw [arE,jv,a5,ax,arA,asz];omega
   . intro i k aw;cases i with
     | zero=>
       rw [atu,asf,atJ (by rw [a5,ax])];simp only [arG,arq] at aw;subst aw;exact dE.ext cj _ _ _ _ ha
     | succ i=>
       rw [asz,Nat.one_mul,Nat.add_comm,<-asM,List.drop_left' (by rw [a5,ax])];exact o9 i k (by simpa using aw)
theorem T6 (n:Nat):∀(b7:List Field) (ms:List Nat) (o b9:Nat) (cs:List Value),z7 P b7 o=some b9->cs.length=b9->ms.length=b7.length->(∀(i:Nat) (f:Field) (k:Nat),b7[i]? =some f->ms[i]? =some k->Lays P W n k f.type ((cs.drop f.offset).take (P.cellsOf f.type)))->
 o<=b9/\∀(E:Env) (h:ae),ba ⟨W,fun _=>none⟩ E h W->∃au ab af,E.le au/\Ext h ab/\ba ⟨W,fun _=>none⟩ au ab W/\bh au af (cs.drop o)/\af.length=b9-o/\
  ∀(i:Nat) (f:Field) (k:Nat),b7[i]? =some f->ms[i]? =some k->o<=f.offset/\dE P ab n k f.type ((af.drop (f.offset-o)).take (P.cellsOf f.type))
 | [],_::_,_,_,_,_,_,l6,_=>by simp at l6
 | _::_,[],_,_,_,_,_,l6,_=>by simp at l6
 | [],[],o,b9,cs,aG,ax,_,_=>by simp only [z7,arq] at aG;subst aG;refine ⟨arv _,fun E h s=>⟨E,h,[],fun _ _ q=>q,Ext.refl h,s,?_,by simp,fun i f k av=>by simp at av⟩⟩;rw [asy (by omega)];rfl
 | f::b7,m::ms,o,b9,cs,aG,ax,l6,ag=>by
   simp only [z7] at aG;by_cases av:f.offset=o
   . rw [arz av] at aG;obtain ⟨g1,g2⟩:=T6 n b7 ms (o+P.cellsOf f.type) b9 cs aG ax (by simpa using l6) (fun i f k al ao=>ag (i+1) f k (by simpa using al) (by simpa using ao));refine ⟨by omega,fun E h s=>?_⟩;have wR:=ag 0 f m rfl rfl;obtain ⟨gO,aa,af,bE,a2,a3,a4,a5,ha⟩:=wR E h s;obtain ⟨bC,ad,us,cc,cj,eI,jX,jv,o9⟩:=g2 gO aa a3;have B8:af.length=P.cellsOf f.type:=by rw [a5,ar6,asc,av];omega
     refine ⟨bC,ad,af++us,bE.trans cc,a2.trans cj,eI,?_,?_,?_⟩
     . have e:cs.drop o=(cs.drop f.offset).take (P.cellsOf f.type)++cs.drop (o+P.cellsOf f.type):=by
        rw [av,<-asM,asI]
       rw [e];exact bh.append (V_ cc a4) jX
     . rw [arE,B8,jv];omega
     . intro i g k aF aB;cases i with
       | zero=>
         simp only [arG,arq] at aF aB;subst aF aB;refine ⟨by omega,?_⟩;rw [av,as6,asf,atJ B8];exact dE.ext cj _ _ _ _ ha
       | succ i=>
         obtain ⟨bJ,bO⟩:=o9 i g k (by simpa using aF) (by simpa using aB);refine ⟨by omega,?_⟩;rw [show g.offset-o=P.cellsOf f.type + (g.offset - (o+P.cellsOf f.type)) from by omega,<-asM,List.drop_left' B8];exact bO
   . rw [arw av] at aG;cases aG
theorem Qp {w:World} {a:Addr} {y:Value} (h:w.cell? a=some y):a.spot=none/\∃c el b2,w.heap[a.block]? =some (.cells c el b2)/\c[a.off]? =some y:=by
 refine ⟨World.cell?_spot h,?_⟩;unfold World.cell? at h
 split at h
 . rename_i c el b2 a8
   split at h
   . cases h
   . exact ⟨c,el,b2,a8,h⟩
 . cases h
theorem Zd (a:Addr) (n:Nat):(a.add n).block=a.block:=by unfold Addr.add;split<;>rfl
theorem Ze (a:Addr) (n:Nat):(a.add n).off=a.off+n:=by unfold Addr.add;split<;>simp_all
theorem am_ {w:World} {a:Addr} {l:List Value} (aY:0<l.length) (h:∀i,i<l.length->w.cell? (a.add i)=l[i]?):
 a.spot=none/\∃c el b2,w.heap[a.block]? =some (.cells c el b2)/\a.off+l.length<=c.size/\∀i,i<l.length->c[a.off+i]? =l[i]? :=by
 have mG:w.cell? (a.add 0)=some l[0]:=by rw [h 0 aY];exact ars aY
 obtain ⟨s1,c,el,b2,s2,iO⟩:=Qp mG;have c9:a.add 0=a:=by unfold Addr.add;simp
 rw [c9] at s1 s2 iO;have key:∀i,i<l.length->c[a.off+i]? =l[i]? :=by intro i aw;have q:=h i aw;rw [ars aw] at q ⊢;obtain ⟨_,fz,apP,apS,t2,t3⟩:=Qp q;rw [Zd,s2] at t2;rw [Ze] at t3;simp only [arq,Obj.cells.injEq] at t2;obtain ⟨rfl,_,_⟩:=t2;exact t3
 refine ⟨s1,c,el,b2,s2,?_,key⟩;have:=key (l.length-1) (by omega);rw [ars (by omega)] at this;have aS:=(art.1 this).1;omega
theorem Xl {E:Env} {h:ae} (s:ba ⟨W,fun _=>none⟩ E h W) {a:Addr} {cap:Nat} {l:List Value} (aY:0<l.length) (aq:∀i,i<l.length->W.cell? (a.add i)=l[i]?) {us:List V} (aD:bh E us l):
 ∃au ab b,E.le au/\Ext h ab/\ba ⟨W,fun _=>none⟩ au ab W/\Old ab b/\a.spot=none/\au b=some ⟨a.block,a.off,cap⟩/\nm ab b us:=by
 obtain ⟨s1,c,el,b2,s2,iO,oT⟩:=am_ aY aq;have To:us.length=l.length:=(bh.length aD).symm;refine ⟨r9 E h ⟨a.block,a.off,cap⟩,h.new (.ro us),az h.next,M7 s _,(Ext.refl h).new _,anF s s2 (by omega) fun i v y bt a6=>?_,U',s1,Xk _ _ _,.inl (rq _)⟩;have aw:i<l.length:=by have:=(arL.1 bt).1;omega
 rw [oT i aw] at a6;obtain ⟨mn,aJ,aR⟩:=bh.get aD i v bt;rw [a6] at aJ;simp only [arq] at aJ;rw [aJ];exact aR
theorem RW {α:Type} (size:Nat):∀(pieces:List (List α)) (i j:Nat),(∀l ∈ pieces,l.length=size)->i<pieces.length->j<size->pieces.flatten[i * size+j]? =(pieces[i]?).bind (·[j]?)
 | [],i,j,_,aw,_=>by simp at aw
 | l::ls,i,j,ag,aw,bp=>by
   have ax:l.length=size:=ag l (by simp);cases i with
   | zero=>
     rw [atu,arV,asG,arI (by omega)];simp
   | succ i=>
     rw [asG,arJ (by rw [ax,asz];omega)];rw [show (i+1) * size+j-l.length=i * size+j from by rw [ax,asz];omega];rw [RW size ls i j (fun l ax=>ag l (by simp [ax])) (by simpa using aw) bp];simp
theorem RX {α:Type} (size:Nat):∀(pieces:List (List α)),(∀l ∈ pieces,l.length=size)->pieces.flatten.length=pieces.length * size
 | [],_=>by simp
 | l::ls,ag=>by rw [asG,arE,RX size ls (fun l ax=>ag l (by simp [ax])),ag l (by simp),arA,asz];omega
theorem Vv {α:Type} (R:Nat->α->Prop):∀(len:Nat),(∀i,i<len->∃l,R i l)->∃bo:List α,bo.length=len/\∀i l,bo[i]? =some l->R i l
 | 0,_=>⟨[],rfl,fun i l q=>by simp at q⟩
 | m+1,h=>by
   obtain ⟨bo,al,ao⟩:=Vv R m (fun i aw=>h i (by omega));obtain ⟨l,aa⟩:=h m (by omega);refine ⟨bo++[l],by simp [al],fun i eE fs=>?_⟩;by_cases aw:i<bo.length
   . rw [arI aw] at fs;exact ao i eE fs
   . rw [arJ (by omega)] at fs;have c9:i-bo.length=0:=by
      by_cases q:i-bo.length=0
      . exact q
      . rw [arW (by simp;omega)] at fs;cases fs
     rw [c9] at fs;simp at fs;subst fs;obtain rfl:i=m:=by omega
     exact aa
theorem F0 (dI:xF P=true) (c':laidOutB P=true):∀(n:Nat) (t:TypeId) (cs:List Value) (x:DataW H × List MemPlace),t<P.types.size->DataW.trod enc P W base sp held n t cs=some x->Lays P W n (fP x.1) t cs
 | 0,t,cs,x,_,h=>by simp [DataW.trod] at h
 | n+1,t,cs,x,aS,h=>by
   have D':∀(cs:List Value),(∀ab af,af.length=cs.length->dE P ab (n+1) (fP x.1) t af)->Lays P W (n+1) (fP x.1) t cs:=by
    intro cs H E h s;refine ⟨E,h,cs.map fun _=>.bad,fun _ _ q=>q,Ext.refl h,s,?_,by simp,H _ _ (by simp)⟩;clear H
    induction cs with
    | nil=>rfl
    | cons c cs bc=>exact ⟨c,cs,rfl,by simp [Rel],bc⟩
   cases hu:P.underlying t with
   | none=>
     refine D' cs fun ab af _=>?_;simp only [dE,hu]
   | some u=>
     cases u with
     | bool=>
       obtain ⟨b,rfl,_⟩:=DataW.trod_bool hu h;intro E h s;exact ⟨E,h,[.bool b],fun _ _ q=>q,Ext.refl h,s,⟨_,_,rfl,rfl,rfl⟩,rfl,by simp only [dE,hu];exact ⟨b,rfl⟩⟩
     | int k=>
       obtain ⟨i,rfl,_,hw⟩:=DataW.trod_int hu h;intro E h s;exact ⟨E,h,[.int k i],fun _ _ q=>q,Ext.refl h,s,⟨_,_,rfl,rfl,rfl⟩,rfl,by simp only [dE,hu];exact ⟨i,rfl,hw⟩⟩
     | string=>
       obtain ⟨b,rfl,rfl,_⟩:=DataW.trod_string hu h;intro E h s;exact ⟨E,h,[.str b.data.toList],fun _ _ q=>q,Ext.refl h,s,⟨_,_,rfl,rfl,rfl⟩,rfl,by simp only [dE,hu,fP];exact ⟨_,rfl,arv _⟩⟩
     | struct b7=>
       obtain ⟨xs,gu,aV,rfl,ax,y',av⟩:=DataW.trod_struct hu h;obtain rfl:n=gu:=by omega
       have agB:z7 P b7.toList 0=some (P.cellsOf t):=by unfold xF at dI;rw [arU] at dI;have:=dI t (asW.2 aS);rw [hu] at this;exact of_decide_eq_true this
       have jd:∀(i:Nat) (f:Field) (k:Nat),b7.toList[i]? =some f->(xs.map fun x=>fP x.1)[i]? =some k->Lays P W n k f.type ((cs.drop f.offset).take (P.cellsOf f.type)):=by
        intro i f k aw aB;have nz:f ∈ b7.toList:=arX aw;have wH:b7[i]? =some f:=by simpa using aw
        have:=av i f wH;have S0:i<xs.length:=by rw [y'];exact (art.1 wH).1
        rw [ars S0] at this;rw [ase,ars S0,asD,arq] at aB;subst aB;exact F0 dI c' n _ _ _ ((kid_struct c' aS hu).1 f nz) this
       intro E h s;obtain ⟨_,g⟩:=T6 n b7.toList (xs.map fun x=>fP x.1) 0 _ cs agB ax (by simp [y']) jd;obtain ⟨au,ab,af,bE,a2,a3,a4,a5,ha⟩:=g E h s;refine ⟨au,ab,af,bE,a2,a3,by simpa using a4,by rw [a5,ax];omega,?_⟩;simp only [dE,hu];refine ⟨by omega,xs.map fun x=>fP x.1,by simp [y'],?_,fun i f k nz aB=>⟨?_,by simpa using (ha i f k nz aB).2⟩⟩
       . simp only [fP,IE,List.map_map];exact arv _
       . rw [ase,Option.map_eq_some_iff] at aB;obtain ⟨y,_,rfl⟩:=aB;exact sC _
     | slice e=>
       rcases DataW.trod_slice hu h with ⟨rfl,rfl⟩ | ⟨a,len,cap,elems,rest,gu,aV,rfl,rfl,ah,sX,_,SJ,J6,_,_⟩
       . intro E h s;exact ⟨E,h,[.bj],fun _ _ q=>q,Ext.refl h,s,⟨_,_,rfl,rfl,rfl⟩,rfl,by simp only [dE,hu];exact ⟨sC _,.inl trivial⟩⟩
       . obtain rfl:n=gu:=by omega
         by_cases aU:P.cellsOf e=0
         . refine D' _ fun ab af _=>?_;simp only [dE,hu];exact ⟨sC _,.inr (.inr (.inl aU))⟩
         by_cases kq:len=0
         . subst kq;intro E h s;refine ⟨E,h,[.g' .z 0 0 0],fun _ _ q=>q,Ext.refl h,s,⟨_,_,rfl,?_,rfl⟩,rfl,by simp only [dE,hu];exact ⟨sC _,.inr (.inl ⟨_,_,_,_,rfl⟩)⟩⟩;simp only [Rel];exact ⟨_,_,rfl⟩
         . -- its elements
           have ks:∀i,i<len->∃l,W.cells? base (a.add (i * P.cellsOf e)) (P.cellsOf e)=some l/\∀k:Nat,(elems.map fun x=>fP x.1)[i]? =some k->Lays P W n k e l:=by intro i aw;have:=J6 i aw;rw [ars (by omega)] at this;rw [Option.bind_eq_some_iff] at this;obtain ⟨l,aa,ad⟩:=this;refine ⟨l,aa,fun k aB=>?_⟩;rw [ase,ars (by omega),asD,arq] at aB;subst aB;exact F0 dI c' n _ _ _ (kid_slice c' aS hu) ad
           obtain ⟨pieces,kZ,im⟩:∃pieces:List (List Value),pieces.length=len/\∀i (l:List Value),pieces[i]? =some l->W.cells? base (a.add (i * P.cellsOf e)) (P.cellsOf e)=some l/\∀k:Nat,(elems.map fun x=>fP x.1)[i]? =some k->Lays P W n k e l:=by exact Vv (fun i l=>W.cells? base (a.add (i * P.cellsOf e)) (P.cellsOf e)=some l/\∀k:Nat,(elems.map fun x=>fP x.1)[i]? =some k->Lays P W n k e l) len ks
           have dh:∀(i:Nat) (l:List Value) (k:Nat),pieces[i]? =some l->(elems.map fun x=>fP x.1)[i]? =some k->l.length=P.cellsOf e/\Lays P W n k e l:=by intro i l k aw aB;obtain ⟨al,ao⟩:=im i l aw;exact ⟨(Ej al).1,ao k aB⟩
           have Tc:∀l ∈ pieces,l.length=P.cellsOf e:=by intro l ax;obtain ⟨i,aw⟩:=List.getElem?_of_mem ax;exact (Ej (im i l aw).1).1
           intro E h s;obtain ⟨gO,aa,us,bE,a2,a3,a4,a5,ha⟩:=T7 n (P.cellsOf e) e pieces (elems.map fun x=>fP x.1) (by simp [SJ,kZ]) dh E h s;have jd:=RX (P.cellsOf e) pieces Tc;have s5:0<len * P.cellsOf e:=Nat.mul_pos (by omega) (by omega);have JO:∀i,i<pieces.flatten.length->W.cell? (a.add i)=pieces.flatten[i]? :=by
            intro q ay;rw [jd] at ay;have S5:q % P.cellsOf e<P.cellsOf e:=Nat.mod_lt _ (by omega);have hdiv:q / P.cellsOf e<pieces.length:=Nat.div_lt_of_lt_mul (by rw [Nat.mul_comm];exact ay);have rJ:q / P.cellsOf e * P.cellsOf e+q % P.cellsOf e=q:=by rw [Nat.mul_comm];exact Nat.div_add_mod q _
            rw [<-rJ,RW (P.cellsOf e) pieces _ _ Tc hdiv S5,ars hdiv];obtain ⟨al,_⟩:=im _ _ (ars hdiv);have:=(Ej al).2 _ S5;rw [Option.bind_some,<-this];congr 1;unfold Addr.add;by_cases bN:q / P.cellsOf e * P.cellsOf e=0
            . rw [bN];simp
            . by_cases z2:q % P.cellsOf e=0
              . rw [z2];simp
              . have z3:¬(q / P.cellsOf e * P.cellsOf e+q % P.cellsOf e=0):=by omega
                rw [arw bN,arw z2,arw z3];simp [asC]
           obtain ⟨bC,ad,b,cc,cj,eI,jX,jv,o9,Iv⟩:=Xl a3 (cap:=cap) (by rw [jd,kZ];exact s5) JO a4;refine ⟨bC,ad,[.slice b 0 len cap],bE.trans cc,a2.trans cj,eI,⟨_,_,rfl,?_,rfl⟩,rfl,?_⟩
           . simp only [Rel];refine ⟨_,o9,sX,?_⟩;obtain ⟨ZR,alk,st⟩:=a;simp only at jv;subst jv;rfl
           . simp only [dE,hu];refine ⟨sC _,.inr (.inr (.inr ⟨b,len,cap,rfl,by omega,sX,jX,us,Iv,by rw [a5,kZ],elems.map fun x=>fP x.1,by simp [SJ],?_,fun i k aB=>⟨?_,dE.ext cj _ _ _ _ (ha i k aB)⟩⟩))⟩
             . simp only [fP,IE,List.map_map];exact Nat.add_le_add_right (Nat.le_add_right _ _) 1
             . rw [ase,Option.map_eq_some_iff] at aB;obtain ⟨y,_,rfl⟩:=aB;exact sC _
     | pointer e=>
       rcases DataW.trod_pointer hu h with ⟨rfl,rfl⟩ | ⟨a,oq,y,gu,aV,rfl,rfl,aq,a6⟩
       . intro E h s;exact ⟨E,h,[.kA],fun _ _ q=>q,Ext.refl h,s,⟨_,_,rfl,rfl,rfl⟩,rfl,by simp only [dE,hu];exact ⟨sC _,.inl trivial⟩⟩
       . obtain rfl:n=gu:=by omega
         by_cases aU:P.cellsOf e=0
         . refine D' _ fun ab af _=>?_;simp only [dE,hu];exact ⟨sC _,.inr (.inl aU)⟩
         . intro E h s;obtain ⟨al,ao⟩:=Ej aq;obtain ⟨gO,aa,us,bE,a2,a3,a4,a5,ha⟩:=F0 dI c' n _ _ _ (kid_pointer c' aS hu) a6 E h s;obtain ⟨bC,ad,b,cc,cj,eI,jX,jv,o9,Iv⟩:=Xl a3 (cap:=0) (by omega) (fun i aw=>ao i (by omega)) a4;refine ⟨bC,ad,[.ptr b 0],bE.trans cc,a2.trans cj,eI,⟨_,_,rfl,?_,rfl⟩,rfl,?_⟩
           . simp only [Rel];refine ⟨_,o9,?_⟩;obtain ⟨ZR,alk,st⟩:=a;simp only at jv;subst jv;rfl
           . simp only [dE,hu];exact ⟨sC _,.inr (.inr ⟨b,rfl,jX,us,Iv,by omega,_,arv _,dE.ext cj _ _ _ _ ha⟩)⟩
     | map k e=>
       have iG:cs.length=1:=by
        unfold DataW.trod at h;rw [hu] at h
        split at h<;>simp_all
       intro E h s;refine ⟨E,h,[.bad],fun _ _ q=>q,Ext.refl h,s,?_,by simp [iG],by simp only [dE,hu];exact .inr trivial⟩
       match cs,iG with
       | [c],_=>exact ⟨c,[],rfl,by simp [Rel],rfl⟩
     | interface ms=>
       have iG:cs.length=1:=by
        unfold DataW.trod at h;rw [hu] at h
        split at h<;>simp_all
       intro E h s;refine ⟨E,h,[.bad],fun _ _ q=>q,Ext.refl h,s,?_,by simp [iG],by simp only [dE,hu];exact .inr trivial⟩
       match cs,iG with
       | [c],_=>exact ⟨c,[],rfl,by simp [Rel],rfl⟩
     | _=>
       refine D' cs fun ab af _=>?_;simp only [dE,hu]
def o5 (P:Program) (h:ae) (n m:Nat) (t:TypeId) (v:V):Prop:=
 match P.underlying t with
 | some (.struct _) | some (.array _ _)=>∃af,v=.agg af/\dE P h n m t af
 | _=>dE P h n m t [v]
theorem o5.ext {h ab:ae} (e:Ext h ab) {n m:Nat} {t:TypeId} {v:V} (H:o5 P h n m t v):o5 P ab n m t v:=by
 unfold o5 at H ⊢
 split at H
 . obtain ⟨af,al,ao⟩:=H;exact ⟨af,al,dE.ext e _ _ _ _ ao⟩
 . obtain ⟨af,al,ao⟩:=H;exact ⟨af,al,dE.ext e _ _ _ _ ao⟩
 . exact dE.ext e _ _ _ _ H
theorem ajZ (dI:xF P=true) (c':laidOutB P=true) {r:Reach} {om:Nat} {t:TypeId} {v:Value} {d:DataW H} {p:List MemPlace} (aS:t<P.types.size) (bB:Value.okWide P W r om t v) (aI:DataW.Trod enc P W base sp held t v d p) {E:Env} {h:ae} (s:ba ⟨W,fun _=>none⟩ E h W):
 ∃n au ab x,E.le au/\Ext h ab/\ba ⟨W,fun _=>none⟩ au ab W/\Rel au x v/\o5 P ab n (fP d) t x:=by
 obtain ⟨fuel,av⟩:=aI;obtain ⟨au,ab,af,bE,a2,a3,a4,a5,ha⟩:=F0 dI c' _ _ _ _ aS av E h s;have agg:(∃cs,v=.agg cs)->∃x,Rel au x v/\x=.agg af:=by rintro ⟨cs,rfl⟩;exact ⟨.agg af,by simp only [Rel];exact ⟨cs,rfl,a4⟩,rfl⟩
 have one:v.cells=#[v]->∃x,Rel au x v/\af=[x]:=by
  intro aq;rw [aq] at a4 a5
  match af,a4,a5 with
  | [x],⟨y,cx,aJ,aR,bP⟩,_=>
    simp only [asY] at aJ;exact ⟨x,aJ.1 ▸ aR,rfl⟩
 refine ⟨fuel,au,ab,?_⟩;unfold Value.okWide at bB;cases hu:P.underlying t with
 | none=>
   rw [hu] at bB;simp only [Cell.okWide,Cell.ok,hu] at bB
 | some u=>
   rw [hu] at bB;unfold o5;rw [hu];cases u<;>simp only at bB ⊢<;>first
    | (obtain ⟨cs,bt,_⟩:=bB
       obtain ⟨x,al,ao⟩:=agg ⟨cs,bt⟩;exact ⟨x,bE,a2,a3,al,af,ao,ha⟩)
    | (have aq:v.cells=#[v]:=by
        cases v<;>first
         | rfl
         | (simp only [Cell.okWide,Cell.ok,hu] at bB)
       obtain ⟨x,al,ao⟩:=one aq;exact ⟨x,bE,a2,a3,al,ao ▸ ha⟩)
def og (P:Program) (h:ae):Nat->List TypeId->List V->Prop
 | _,[],[]=>True
 | m,t::bn,v::af=>∃k br,k+br<=m/\(∃n,o5 P h n k t v)/\og P h br bn af
 | _,_,_=>False
theorem og.mono {h:ae}:∀{m dj:Nat} {bn:List TypeId} {af:List V},m<=dj->og P h m bn af->og P h dj bn af
 | _,_,[],[],_,H=>by unfold og;trivial
 | _,_,[],_::_,_,H=>H.elim
 | _,_,_::_,[],_,H=>H.elim
 | _,_,_::_,_::_,hm,⟨k,br,aB,H,ef⟩=>⟨k,br,asq aB hm,H,ef⟩
theorem T5 (dI:xF P=true) (c':laidOutB P=true) {r:Reach} {om:Nat}:∀{bn:List TypeId} {af:List Value} {ds:List (DataW H)} {p:List MemPlace},(∀t ∈ bn,t<P.types.size)->(∀(j:Nat) t v,bn[j]? =some t->af[j]? =some v->Value.okWide P W r om t v)->
 DataW.TrodAll enc P W base sp held bn af ds p->∀{E:Env} {h:ae},ba ⟨W,fun _=>none⟩ E h W->∃au ab xs,E.le au/\Ext h ab/\ba ⟨W,fun _=>none⟩ au ab W/\bh au xs af/\og P ab (mz ds) bn xs
 | [],[],ds,p,_,_,_,E,h,s=>⟨E,h,[],fun _ _ q=>q,Ext.refl h,s,rfl,by unfold og;trivial⟩
 | [],_::_,ds,p,_,_,aI,E,h,s=>by cases ds<;>exact aI.elim
 | _::_,[],ds,p,_,_,aI,E,h,s=>by cases ds<;>exact aI.elim
 | _::_,_::_,[],p,_,_,aI,E,h,s=>aI.elim
 | t::bn,v::af,d::ds,p,aG,bt,⟨ck,cB,aa,ad,_⟩,E,h,s=>by obtain ⟨n,gO,g1,x,bE,a2,a3,a4,a5⟩:=ajZ dI c' (aG t (by simp)) (bt 0 t v rfl rfl) aa s;obtain ⟨bC,g2,xs,cc,cj,eI,jX,jv⟩:=T5 dI c' (fun t q=>aG t (by simp [q])) (fun j t v al ao=>bt (j+1) t v (by simpa using al) (by simpa using ao)) ad a3;exact ⟨bC,g2,x::xs,bE.trans cc,a2.trans cj,eI,⟨_,_,rfl,Rel.mono cc _ _ a4,jX⟩,fP d,mz ds,by simp only [mz];exact arv _,⟨n,a5.ext cj⟩,jv⟩
theorem aba (dI:xF P=true) (c':laidOutB P=true) {r:Reach} {om:Nat} {f:FuncId} {bn:List TypeId} {af:List Value} {ds:List (DataW H)} {p:List MemPlace} (fl:∀t ∈ bn,t<P.types.size) (bt:∀(j:Nat) t v,bn[j]? =some t->af[j]? =some v->Value.okWide P W r om t v)
 (aI:DataW.TrodAll enc P W base sp held bn af ds p) (yI:Lay.ok W) (bF:eg P) (ah:∃fn,P.funcs[f]? =some fn/\fn.body.isSome=true) (aq:∀(h:ae) (xs:List V),og P h (mz ds) bn xs->cR P f xs h fun y _=>y=.bool true):
 Calls P f af.toArray W fun e w'=>e=.returned (.bool true)/\Below W.heap.size W w':=by
 obtain ⟨E,h,xs,_,_,a3,a4,a5⟩:=T5 dI c' fl bt aI (G8 W yI);obtain ⟨y,ab,qb,rfl⟩:=aq h xs a5;refine (qb.calls bF ah _ E W af a4 a3).mono fun e w' q=>?_;obtain ⟨au,x,rfl,_,ao,aK⟩:=q;simp only [Rel] at ao;subst ao;exact ⟨rfl,aK.frame⟩
end
end
section
open Go Go.RowKit
variable [Lay]
theorem collect {α:Type} (enc:α->List V) (size:Nat) (Q:α->Prop):∀(len:Nat) (us:List V),us.length=len * size->(∀i,i<len->∃a,(us.drop (i * size)).take size=enc a/\Q a)->
 ∃q8:List α,q8.length=len/\us=q8.flatMap enc/\∀a ∈ q8,Q a
 | 0,us,ax,_=>⟨[],rfl,by simpa using ax,fun a h=>by simp at h⟩
 | len+1,us,ax,h=>by
   obtain ⟨a,aa,ad⟩:=h 0 (by omega);rw [asz,Nat.one_mul] at ax;obtain ⟨q8,g1,g2,g3⟩:=collect enc size Q len (us.drop size) (by rw [asc];omega) (fun i aw=>by obtain ⟨b,b3,b5⟩:=h (i+1) (by omega);refine ⟨b,?_,b5⟩;rw [asM,<-b3,asz,Nat.one_mul,Nat.add_comm]);refine ⟨a::q8,by simp [g1],?_,fun b ah=>?_⟩
   . rw [List.flatMap_cons,<-g2,<-aa,atu,asf,asI]
   . rcases arM.1 ah with rfl | ah
     . exact ad
     . exact g3 b ah
section
variable {P:Program} {h:ae} {n m:Nat} {t:TypeId}
theorem dE.pos {af:List V} (H:dE P h n m t af):∃k,n=k+1:=by
 cases n with
 | zero=>exact H.elim
 | succ m=>exact ⟨m,rfl⟩
theorem dE.int {af:List V} {k:IntKind} (H:dE P h n m t af) (hu:P.underlying t=some (.int k)):∃i,af=[.int k i]/\(Lit.int k i).wf=true:=by obtain ⟨m,rfl⟩:=H.pos;simpa only [dE,hu] using H
theorem dE.str {af:List V} (H:dE P h n m t af) (hu:P.underlying t=some .string):∃s:List UInt8,af=[.str s]/\s.length+1<=m:=by obtain ⟨_,rfl⟩:=H.pos;simpa only [dE,hu] using H
theorem dE.struct {af:List V} {b7:Array Field} (H:dE P h n m t af) (hu:P.underlying t=some (.struct b7)):∃gu,n=gu+1/\af.length=P.cellsOf t/\∃ms:List Nat,ms.length=b7.toList.length/\ms.sum+1<=m/\
 ∀(i:Nat) (f:Field) (k:Nat),b7.toList[i]? =some f->ms[i]? =some k->1<=k/\dE P h gu k f.type ((af.drop f.offset).take (P.cellsOf f.type)):=by
 obtain ⟨gu,rfl⟩:=H.pos;refine ⟨gu,rfl,?_⟩;simpa only [dE,hu] using H
def C2 (v:V):Prop:=∀b off l c,v=.slice b off l c->l<=c
def x5 (h:ae) (size:Nat) (v:V) (len m:Nat) (Q:Nat->List V->Prop):Prop:=
 v.one=true/\v.cells=[v]/\v.eU=true/\ht v=some (.int .i64 len)/\C2 v/\∃(us:List V) (ms:List Nat),fp h size v len us/\ms.length=len/\ms.sum+1<=m/\∀(i k:Nat),ms[i]? =some k->1<=k/\Q k ((us.drop (i * size)).take size)
theorem dE.slice {af:List V} {e:TypeId} (H:dE P h n m t af) (hu:P.underlying t=some (.slice e)) (aU:P.cellsOf e≠0):∃gu v len,n=gu+1/\af=[v]/\x5 h (P.cellsOf e) v len m (fun k=>dE P h gu k e):=by
 obtain ⟨gu,rfl⟩:=H.pos;simp only [dE,hu] at H;obtain ⟨aY,H⟩:=H;rcases H with rfl | ⟨b,i,j,k,rfl⟩ | q | ⟨b,len,cap,rfl,aa,ad,bw,us,b3,b5,ms,dW,fY,kv⟩
 . exact ⟨gu,_,0,rfl,rfl,rfl,rfl,rfl,rfl,(fun _ _ _ _ e=>by cases e),[],[],⟨by simp,rfl⟩,rfl,by simpa using aY,fun i k aw=>by simp at aw⟩
 . exact ⟨gu,_,0,rfl,rfl,rfl,rfl,rfl,rfl,(fun _ _ _ _ e=>by cases e),[],[],⟨by simp,rfl⟩,rfl,by simpa using aY,fun i k aw=>by simp at aw⟩
 . exact absurd q aU
 . exact ⟨gu,_,len,rfl,rfl,rfl,rfl,rfl,rfl,(fun _ _ _ _ e=>by cases e;exact ad),us,ms,⟨b5,rfl,bw,us,b3,by omega,by simp⟩,dW,fY,kv⟩
end
end
section
open Go Go.RowKit Go.ChangeShapes Go.WideShapes
variable [Lay]
section
variable {H:Type} {enc:TypeId × Value->H} {P:Program}
theorem OC (c':laidOutB P=true) {W AP:World} (ah:Below W.heap.size W AP):∀{bn:List TypeId} {af:List Value} {ds:List (DataW H)} {bo:List MemPlace},(bn.all fun t=>P.readableRec t&&decide (t<P.types.size))=true->
 DataW.TrodAll enc P W 0 (fun _=>true) true bn af ds bo->DataW.TrodAll enc P AP 0 (fun b=>decide (b<W.heap.size)) true bn af ds bo
 | [],[],[],_,_,h=>h
 | [],_::_,_,_,_,h=>by rename_i ds _;cases ds<;>exact h.elim
 | [],[],_::_,_,_,h=>h.elim
 | _::_,[],_,_,_,h=>by rename_i ds _;cases ds<;>exact h.elim
 | _::_,_::_,[],_,_,h=>h.elim
 | t::bn,v::af,d::ds,bo,aD,h=>by have aS:=h.lt;obtain ⟨p,q,aa,ad,rfl⟩:=h;simp only [as_,arp,arF] at aD;exact ⟨p,q,Below.trod c' aD.1.1 aD.1.2 aa ah (fun x ak=>aS x (by simp [ak])),OC c' ah aD.2 ad,rfl⟩
theorem W9 {W:World} {base:Nat} {sp:Nat->Bool} {held:Bool}:∀{bn:List TypeId} {af:List Value} {ds:List (DataW H)} {bo:List MemPlace},DataW.TrodAll enc P W base sp held bn af ds bo->ds.length=bn.length
 | [],[],[],_,_=>rfl
 | [],_::_,ds,_,h=>by cases ds<;>exact h.elim
 | [],[],_::_,_,h=>h.elim
 | _::_,[],ds,_,h=>by cases ds<;>exact h.elim
 | _::_,_::_,[],_,h=>h.elim
 | t::bn,v::af,d::ds,bo,h=>by obtain ⟨p,q,aa,ad,rfl⟩:=h;simp [W9 ad]
theorem ajO (dI:xF P=true) (c':laidOutB P=true) {f:FuncId} {fn:Func} {s:ChangeSpec} {C':TypeId} (fl:(fn.params.toList.all fun t=>P.readableRec t&&decide (t<P.types.size))=true) (Tp:s.vars=[]) (agm:fn.resultTypes=#[C']) (agF:P.underlying C'=some .bool)
 (KP:∀ds:List (DataW H),ds.length=fn.params.size->s.fn H (ds++[])={results:=[.lit (.bool true)],args:=ds})
 {B:Nat} (aq:∀(h:ae) (xs:List V),og P h B fn.params.toList xs->cR P f xs h fun y _=>y=.bool true)
 {W:World} {base:Nat} {args:Array Value} {ds gs:List (DataW H)} {before:List MemPlace} (aB:mz (ds++gs)<=B) (lF:Lay.ok W) (bF:eg P) (ah:∃fn,P.funcs[f]? =some fn/\fn.body.isSome=true)
 (y7:∀(j:Nat) t v,fn.params[j]? =some t->args[j]? =some v->Value.okWide P W .any base t v) (yI:DataW.Whole enc P fn.params.toList s.vars false W args.toList ds gs before):
 Calls P f args W fun e AP=>∃v,e=.returned v/\s.post enc P fn false true false false W args v AP:=by
 have aeO:=yI;obtain ⟨p,q,lA,Sw,rfl,rA,ps⟩:=yI;rw [Tp] at Sw;obtain ⟨rfl,rfl⟩:=trodVars_none Sw;have hlen:ds.length=fn.params.size:=by rw [W9 lA];simp
 have hw:=aba dI c' (om:=base) (r:=.any) (fun t aG=>by
  have:=arU.1 fl t aG;simp only [arp,arF] at this
  exact this.2) (fun j t v aa ad=>y7 j t v (by simpa using aa) (by simpa using ad)) lA lF bF ah (fun h xs q=>aq h xs (q.mono (by simpa using aB)))
 simp only [asN] at hw;refine hw.mono fun e AP ⟨he,OB⟩=>?_;subst he;refine ⟨_,rfl,ds,[],p++[],[],p,[],aeO,?_,?_,?_,OB.frame _,fun h=>by cases h⟩
 . rw [KP ds hlen,agm];exact trodAll_mk1 (shut_bool agF _)
 . rw [KP ds hlen];exact OC c' OB fl lA
 . rw [KP ds hlen,Tp];rfl
end
end
section
open Go Go.RowKit
variable [Lay]
theorem anz {P:Program} {h:ae} {B:Nat} {xs:List V} (aU:og P h B [] xs):xs=[]:=by
 match xs,aU with
 | [],_=>rfl
theorem MI {P:Program} {h:ae} {B:Nat} {t:TypeId} {bn:List TypeId} {xs:List V} (aU:og P h B (t::bn) xs):∃a q8 k br n,xs=a::q8/\k+br<=B/\o5 P h n k t a/\og P h br bn q8:=by
 match xs,aU with
 | a::q8,⟨k,br,aB,⟨n,aY⟩,aa⟩=>exact ⟨a,q8,k,br,n,rfl,aB,aY,aa⟩
section
variable {P:Program} {h:ae} {n m:Nat} {t:TypeId} {v:V}
theorem anA {b7:Array Field} (aU:o5 P h n m t v) (hu:P.underlying t=some (.struct b7)):∃af,v=.agg af/\dE P h n m t af:=by unfold o5 at aU;rw [hu] at aU;exact aU
theorem Wu {e:TypeId} (aU:o5 P h n m t v) (hu:P.underlying t=some (.slice e)) {c:Nat} (aq:P.cellsOf e=c) (mG:c≠0):∃gu len,x5 h c v len m (fun k=>dE P h gu k e):=by unfold o5 at aU;rw [hu] at aU;subst aq;obtain ⟨gu,w,len,_,aJ,g⟩:=dE.slice aU hu mG;simp only [asY,atC] at aJ;subst aJ;exact ⟨gu,len,g⟩
end
inductive D where
 | i (k:IntKind) (n:Int)
 | b (x:Bool)
 | s (x:List UInt8)
 | l (size:Nat) (es:List (List D))
inductive bM (F:aM->Prop) (h:ae):List D->List V->Prop
 | nil:bM F h [] []
 | i {k:IntKind} {n:Int} {ds:List D} {af:List V} (t:bM F h ds af):bM F h (.i k n::ds) (.int k n::af)
 | b {x:Bool} {ds:List D} {af:List V} (t:bM F h ds af):bM F h (.b x::ds) (.bool x::af)
 | s {x:List UInt8} {ds:List D} {af:List V} (ah:x.length<=top) (t:bM F h ds af):bM F h (.s x::ds) (.str x::af)
 | l {size:Nat} {es:List (List D)} {v:V} {us:List (List V)} {ds:List D} {af:List V} (aD:C2 v) (ah:es.length<=top) (aU:fp h size v es.length us.flatten) (hu:us.length=es.length) (bk:∀u ∈ us,u.length=size)
    (kids:∀(i:Nat) (e:List D) (u:List V),es[i]? =some e->us[i]? =some u->bM F h e u) (av:∀b,v.aZ b->F b) (t:bM F h ds af):bM F h (.l size es::ds) (v::af)
structure bY (F:aM->Prop) (h:ae) (size:Nat) (es:List (List D)) (v:V):Prop where
 room:C2 v
 le:es.length<=top
 ex:∃us:List (List V),fp h size v es.length us.flatten/\us.length=es.length/\(∀u ∈ us,u.length=size)/\∀(i:Nat) (e:List D) (u:List V),es[i]? =some e->us[i]? =some u->bM F h e u
 Bp:∀b,v.aZ b->F b
section
variable {F:aM->Prop} {h ab:ae} {ds:List D} {af:List V}
theorem bM.mod {dU M:aM->Prop} (m:Mod M h ab) (cN:∀b,F b->Old h b->¬M b/\dU b) (H:bM F h ds af):bM dU ab ds af:=by
 induction H with
 | nil=>exact .nil
 | i t bc=>exact .i bc
 | b t bc=>exact .b bc
 | s ah t bc=>exact .s ah bc
 | l aD ah aU hu bk kids av t uZ td=>exact .l aD ah (aU.mod m fun b q=>(cN b (av b q) (aU.bL q)).1) hu bk uZ (fun b q=>(cN b (av b q) (aU.bL q)).2) td
theorem bM.ext (H:bM F h ds af) (e:Ext h ab):bM F ab ds af:=by
 induction H with
 | nil=>exact .nil
 | i t bc=>exact .i bc
 | b t bc=>exact .b bc
 | s ah t bc=>exact .s ah bc
 | l aD ah aU hu bk kids av t uZ td=>exact .l aD ah (aU.ext e) hu bk uZ av td
theorem bM.gy {dU:aM->Prop} (H:bM F h ds af) (w:∀b,F b->dU b):bM dU h ds af:=by
 induction H with
 | nil=>exact .nil
 | i t bc=>exact .i bc
 | b t bc=>exact .b bc
 | s ah t bc=>exact .s ah bc
 | l aD ah aU hu bk kids av t uZ td=>exact .l aD ah aU hu bk uZ (fun b q=>w b (av b q)) td
theorem bM.bL (H:bM F h ds af):bM (fun b=>F b/\Old h b) h ds af:=by
 induction H with
 | nil=>exact .nil
 | i t bc=>exact .i bc
 | b t bc=>exact .b bc
 | s ah t bc=>exact .s ah bc
 | l aD ah aU hu bk kids av t uZ td=>exact .l aD ah aU hu bk uZ (fun b q=>⟨av b q,aU.bL q⟩) td
theorem bM.e9 (H:bM F h ds af):e9 af=true:=by
 induction H with
 | nil=>rfl
 | i t bc=>simpa [Go.Proofs.YtgmhjhgoamjeeaaGreatDoor.aX.e9,V.one] using bc
 | b t bc=>simpa [Go.Proofs.YtgmhjhgoamjeeaaGreatDoor.aX.e9,V.one] using bc
 | s ah t bc=>simpa [Go.Proofs.YtgmhjhgoamjeeaaGreatDoor.aX.e9,V.one] using bc
 | l aD ah aU hu bk kids av t uZ td=>simp only [Go.Proofs.YtgmhjhgoamjeeaaGreatDoor.aX.e9,aU.one.1,td,Bool.and_self]
theorem bM.int {k:IntKind} {n:Int} (H:bM F h (.i k n::ds) af):∃us,af=.int k n::us/\bM F h ds us:=by
 cases H with
 | i t=>exact ⟨_,rfl,t⟩
theorem bM.bool {x:Bool} (H:bM F h (.b x::ds) af):∃us,af=.bool x::us/\bM F h ds us:=by
 cases H with
 | b t=>exact ⟨_,rfl,t⟩
theorem bM.str {x:List UInt8} (H:bM F h (.s x::ds) af):∃us,af=.str x::us/\x.length<=top/\bM F h ds us:=by
 cases H with
 | s ah t=>exact ⟨_,rfl,ah,t⟩
theorem bM.eW {size:Nat} {es:List (List D)} (H:bM F h (.l size es::ds) af):∃v us,af=v::us/\bY F h size es v/\bM F h ds us:=by
 cases H with
 | l aD ah aU hu bk kids av t=>exact ⟨_,_,rfl,⟨aD,ah,⟨_,aU,hu,bk,kids⟩,av⟩,t⟩
theorem bM.no (H:bM F h [] af):af=[]:=by cases H;rfl
end
theorem EP {size:Nat}:∀(us:List (List V)) (i:Nat) (u:List V),(∀u ∈ us,u.length=size)->us[i]? =some u->(us.flatten.drop (i * size)).take size=u
 | [],i,u,_,h=>by simp at h
 | w::us,0,u,ax,h=>by simp only [arG,arq] at h;subst h;rw [atu,asf,asG,atJ (ax _ (by simp))]
 | w::us,i+1,u,ax,h=>by rw [show (i+1) * size=size+i * size from by rw [atB,Nat.add_comm],<-asM,asG,List.drop_left' (ax _ (by simp))];exact EP us i u (fun u hu=>ax u (by simp [hu])) (by simpa using h)
theorem yw {size:Nat}:∀(us:List (List V)),(∀u ∈ us,u.length=size)->us.flatten.length=us.length * size
 | [],_=>by simp
 | w::us,ax=>by rw [asG,arE,ax w (by simp),yw us (fun u hu=>ax u (by simp [hu])),arA,atB,Nat.add_comm]
section
variable {F:aM->Prop} {h ab:ae} {size:Nat} {es:List (List D)} {v:V}
theorem bY.cons {ds:List D} {af:List V} (H:bY F h size es v) (t:bM F h ds af):bM F h (.l size es::ds) (v::af):=by obtain ⟨us,a,b,c,d⟩:=H.ex;exact .l H.room H.le a b c d H.Bp t
theorem bY.ext (H:bY F h size es v) (e:Ext h ab):bY F ab size es v:=by obtain ⟨us,a,b,c,d⟩:=H.ex;exact ⟨H.room,H.le,⟨us,a.ext e,b,c,fun i x u al ao=>(d i x u al ao).ext e⟩,H.Bp⟩
theorem bY.mod {dU M:aM->Prop} (m:Mod M h ab) (cN:∀b,F b->Old h b->¬M b/\dU b) (H:bY F h size es v):bY dU ab size es v:=by obtain ⟨us,a,b,c,d⟩:=H.ex;exact ⟨H.room,H.le,⟨us,a.mod m fun x q=>(cN x (H.Bp x q) (a.bL q)).1,b,c,fun i x u al ao=>(d i x u al ao).mod m cN⟩,fun x q=>(cN x (H.Bp x q) (a.bL q)).2⟩
theorem bY.gy {dU:aM->Prop} (H:bY F h size es v) (w:∀b,F b->dU b):bY dU h size es v:=by obtain ⟨us,a,b,c,d⟩:=H.ex;exact ⟨H.room,H.le,⟨us,a,b,c,fun i x u al ao=>(d i x u al ao).gy w⟩,fun b q=>w b (H.Bp b q)⟩
theorem bY.len (H:bY F h size es v):ht v=some (.int .i64 es.length):=by obtain ⟨us,a,_⟩:=H.ex;exact a.len
theorem bY.one (H:bY F h size es v):v.one=true/\v.cells=[v]/\v.eU=true:=by obtain ⟨us,a,_⟩:=H.ex;exact a.one
theorem bY.nil (F:aM->Prop) (h:ae) (size:Nat):bY F h size [] .bj:=⟨fun b o l c e=>(by cases e),asP _,⟨[],⟨by simp,rfl⟩,rfl,fun u hu=>(by cases hu),fun i e u q=>(by simp at q)⟩,fun b q=>q.elim⟩
theorem bY.at (H:bY F h size es v) {k:IntKind} {i:Nat} (aw:i<es.length):
 ∃b off u,fX size v (.int k i)=some (.ptr b (off+i * size))/\bM F h es[i] u/\u.length=size/\(∀ab,Ext h ab->mW size (ab.get b) (off+i * size)=some (.agg u))/\∀ab,Ext h ab->∀j,j<size->gq (ab.get b) (off+i * size+j)=u[j]? :=by
 obtain ⟨us,aa,ad,ax,aH⟩:=H.ex;have sW:i<us.length:=by omega
 have hu:=ars sW;obtain ⟨b,off,aJ,aR⟩:=aa.cd (k:=k) aw;have av:=EP us i _ ax hu;have jd:=yw us ax;have hle:i * size+size<=us.length * size:=by have:=asE size (show i+1<=us.length by omega);rw [atB] at this;exact this
 have To:us[i].length=size:=ax _ (arY sW);refine ⟨b,off,us[i],aJ,aH i _ _ (ars aw) hu,To,fun ab e=>?_,fun ab e j bp=>?_⟩
 . rw [(aR.ext e).fL (i:=i * size) (n:=size) (by omega),av]
 . rw [asC,(aR.ext e).dR (i:=i * size+j) (by omega)];have:((us.flatten.drop (i * size)).take size)[j]? =us[i][j]? :=by rw [av]
   rw [asw bp,asH] at this;rw [<-this,ars (by omega)]
end
def Any (_:aM):Prop:=True
theorem MU:∀{ms:List Nat},(∀(i k:Nat),ms[i]? =some k->1<=k)->ms.length<=ms.sum
 | [],_=>arv _
 | m::ms,h=>by have aY:=h 0 m rfl;have:=MU (ms:=ms) fun i k q=>h (i+1) k (by simpa using q);simp only [arA,atb];omega
theorem MT:∀{ms:List Nat} {i k:Nat},ms[i]? =some k->k<=ms.sum
 | [],_,_,h=>by simp at h
 | m::ms,0,k,h=>by simp only [arG,arq] at h;subst h;simp only [atb];omega
 | m::ms,i+1,k,h=>by have:=MT (ms:=ms) (i:=i) (k:=k) (by simpa using h);simp only [atb];omega
theorem Gs {α:Type} (enc:α->List D) {h:ae} {size len m:Nat} {v:V} {Q:Nat->List V->Prop} (H:x5 h size v len m Q) (hm:m<=1048576)
 (ay:∀k af,k<m->Q k af->∃x,bM Any h (enc x) af/\af.length=size):∃xs:List α,xs.length=len/\xs.length+1<=m/\bY Any h size (xs.map enc) v:=by
 obtain ⟨_,_,_,_,aD,us,aN,b3,b5,dW,fY⟩:=H;have agy:=MU fun i k q=>(fY i k q).1;obtain ⟨bo,g1,g2,g3⟩:=collect (α:=α × List V) Prod.snd size (fun p=>bM Any h (enc p.1) p.2/\p.2.length=size) len us b3.1 (fun i aw=>by obtain ⟨k,aB⟩:∃k,aN[i]? =some k:=⟨_,ars (by omega)⟩;have:=MT aB;obtain ⟨x,ak,ax⟩:=ay k _ (by omega) (fY i k aB).2;exact ⟨(x,_),rfl,ak,ax⟩);refine ⟨bo.map Prod.fst,by rw [arC];exact g1,by rw [arC];omega,aD,by rw [arC,arC];unfold top;omega,⟨bo.map Prod.snd,?_,by simp,?_,?_⟩,fun _ _=>trivial⟩
 . rw [arC,arC,g1,<-List.flatMap_def,<-g2];exact b3
 . intro u hu;obtain ⟨p,ag,rfl⟩:=atM.1 hu;exact (g3 p ag).2
 . intro i c u al ao;rw [ase] at al ao;rw [ase] at al;cases ag:bo[i]? with
   | none=>rw [ag] at al;cases al
   | some p=>
     rw [ag] at al ao;simp only [asD,arq] at al ao;subst al ao;exact (g3 p (arX ag)).1
structure Has (h:ae) (n:Nat) (l:List V):Prop where
 lt:n<h.next
 g:h.get (az n)=.bU l 0 false
theorem Has.ext {h ab:ae} {n:Nat} {l:List V} (B:Has h n l) (e:Ext h ab):Has ab n l:=⟨aty B.lt e.next,(e.get _ (hP B.lt)).trans B.g⟩
theorem fq (h:ae) (l:List V):∃H,h.new (.bU l 0 false)=H/\Ext h H/\Has H h.next l:=⟨_,rfl,(Ext.refl h).new _,by rw [gv];omega,rq _⟩
theorem fy (h:ae) (z l:List V):∃H,(h.new (.bU z 0 false)).set (az h.next) (.bU l 0 false)=H/\Ext h H/\Has H h.next l:=
 ⟨_,rfl,((Ext.refl h).new _).set (arv _) _,by rw [nP,gv];omega,by rw [ea,arz rfl]⟩
theorem Has.set {h:ae} {n m:Nat} {l:List V} (B:Has h n l) (hm:n≠m) (k:b6):Has (h.set (az m) k) n l:=⟨by rw [nP];exact B.lt,by rw [ea,arw (by rw [m_];exact fun q=>hm q.symm)];exact B.g⟩
theorem Has.put {h:ae} {n:Nat} {l:List V} (B:Has h n l) (eE:List V):Has (h.set (az n) (.bU eE 0 false)) n eE:=⟨by rw [nP];exact B.lt,by rw [ea,arz rfl]⟩
theorem bM.set {F:aM->Prop} {h:ae} {ds:List D} {af:List V} (H:bM F h ds af) {b:aM} (ah:¬F b) (k:b6):bM F (h.set b k) ds af:=
 H.mod ((Mod.refl (fun x=>x=b) h).set (fun _=>rfl) k) fun x q _=>⟨fun e=>ah (e ▸ q),q⟩
theorem bY.set {F:aM->Prop} {h:ae} {size:Nat} {es:List (List D)} {v:V} (H:bY F h size es v) {b:aM} (ah:¬F b) (k:b6):bY F (h.set b k) size es v:=
 H.mod ((Mod.refl (fun x=>x=b) h).set (fun _=>rfl) k) fun x q _=>⟨fun e=>ah (e ▸ q),q⟩
theorem bM.qC {F:aM->Prop} {h:ae} {ds:List D} {af:List V} (H:bM F h ds af):bM (Old h) h ds af:=H.bL.gy fun _ q=>q.2
theorem bY.qC {F:aM->Prop} {h:ae} {size:Nat} {es:List (List D)} {v:V} (H:bY F h size es v):bY (Old h) h size es v:=by obtain ⟨us,a,b,c,d⟩:=H.ex;exact ⟨H.room,H.le,⟨us,a,b,c,fun i x u al ao=>(d i x u al ao).qC⟩,fun b q=>a.bL q⟩
theorem zt {h:ae} {n:Nat} (aV:h.next<=n):¬Old h (az n):=fun q=>by unfold Old at q;rw [c7] at q;omega
theorem hj {i n:Nat} (h:i<n) (aV:n<=4611686018427387904):IntKind.i64.wrap ((i:Int)+1)=((i+1:Nat):Int):=by rw [wrap_i64 (by omega) (by omega)];rfl
def gB (i:Int):List D:=[.i .i64 i]
theorem bY.FV {F:aM->Prop} {h:ae} {l:List Int} {v:V} (H:bY F h 1 (l.map gB) v) {k:IntKind} {i:Nat} (aw:i<l.length):
 ∃b off,fX 1 v (.int k i)=some (.ptr b (off+i * 1))/\∀ab,Ext h ab->gq (ab.get b) (off+i * 1)=some (.int .i64 l[i]):=by
 obtain ⟨b,off,u,aJ,aR,bP,_,b4⟩:=H.at (k:=k) (i:=i) (by rw [arC];exact aw);rw [as8,gB] at aR;obtain ⟨us,rfl,dD⟩:=bM.int aR;obtain rfl:=dD.no;exact ⟨b,off,aJ,fun ab e=>by simpa using b4 ab e 0 (by omega)⟩
end
section
open Go Go.RowKit
variable [Lay]
def lh (n:Nat) (b:aM):aM:=az (n+b0 b)
mutual
def V.db (n:Nat):V->V
 | .ptr b o=>.ptr (lh n b) o
 | .slice b o l c=>.slice (lh n b) o l c
 | .ew b o l c=>.ew (lh n b) o l c
 | .g' b o l c=>.g' (lh n b) o l c
 | .map b=>.map (lh n b)
 | .func f cs=>.func f (lg n cs)
 | .me f cs=>.me f (lg n cs)
 | .iface t v=>.iface t (v.db n)
 | .agg cs=>.agg (lg n cs)
 | .tuple cs=>.tuple (lg n cs)
 | .bad=>.bad | .bool b=>.bool b | .int k i=>.int k i | .str s=>.str s | .kA=>.kA | .bj=>.bj | .j7=>.j7 | .k6=>.k6 | .nilIface=>.nilIface
def lg (n:Nat):List V->List V
 | []=>[]
 | v::af=>v.db n::lg n af
end
theorem Wt (n:Nat):∀l:List V,lg n l=l.map (V.db n)
 | []=>by simp [lg]
 | v::l=>by rw [lg,Wt n l,ast]
def b_.db (n:Nat) (m:b_):b_:=⟨m.k.db n,m.v.db n,m.born⟩
def b6.db (n:Nat):b6->b6
 | .cells m cs cL st=>.bU ((hK cs 0 m).map (V.db n)) cL st
 | .iter s pos=>.iter s pos
 | .mp es clock=>.mp (es.map (b_.db n)) clock
 | .hO es=>.hO (es.map (b_.db n))
 | _=>.dead
def ae.q' (h aq:ae):Nat->ae
 | 0=>h
 | k+1=>(h.q' aq k).new ((aq.get (az k)).db h.next)
theorem x' (h aq:ae):∀k,(h.q' aq k).next=h.next+k
 | 0=>rfl
 | k+1=>by rw [ae.q',gv,x' h aq k];omega
theorem Od (h aq:ae):∀k,Ext h (h.q' aq k)
 | 0=>Ext.refl h
 | k+1=>(Od h aq k).new _
theorem Ik (h aq:ae):∀(k i:Nat),i<k->(h.q' aq k).get (az (h.next+i))=(aq.get (az i)).db h.next
 | 0,i,aw=>absurd aw (by omega)
 | k+1,i,aw=>by
   rw [ae.q',ig,x'];by_cases e:i=k
   . subst e;rw [arz rfl]
   . rw [arw (fun q=>e (by have:=h5 q;omega)),Ik h aq k i (by omega)]
theorem Oe (h aq:ae) (b:aM):∀(k:Nat),(b0 b<h.next\/h.next+k<=b0 b)->(h.q' aq k).get b=h.get b
 | 0,_=>rfl
 | k+1,ah=>by rw [ae.q',ig,x',arw (fun q=>by subst q;rw [c7] at ah;omega)];exact Oe h aq b k (by omega)
def ae.app (h aq:ae):ae:=h.q' aq aq.next
def o8 (h aq:ae) (E bC:Env):Env:=fun b=>if h.next<=b0 b/\b0 b<h.next+aq.next then bC (az (b0 b-h.next)) else E b
section
variable {aA:Fr} {E bC:Env} {h aq:ae} {w bA:World}
theorem Ij (s:ba aA E h w):E.le (o8 h aq E bC):=fun b p q=>by
 unfold o8;rw [arw]
 . exact q
 . rintro ⟨aa,_⟩;have:=s.fresh (b0 b) aa;rw [vf] at this;rw [this] at q;cases q
theorem sx (s2:ba ⟨w,fun _=>none⟩ bC aq bA) {b:aM} {p:ju} (q:bC b=some p):o8 h aq E bC (lh h.next b)=some p:=by
 unfold o8 lh;have aS:b0 b<aq.next:=by
  rcases asO (b0 b) aq.next with ao | ao
  . exact ao
  . have:=s2.fresh _ ao;rw [vf,q] at this;cases this
 rw [c7,arz ⟨by omega,by omega⟩,show h.next+b0 b-h.next=b0 b from by omega,vf];exact q
mutual
theorem tA (s2:ba ⟨w,fun _=>none⟩ bC aq bA):∀(v:V) (x:Value),Rel bC v x->Rel (o8 h aq E bC) (v.db h.next) x
 | .bad,x,q=>by simp only [V.db,Rel]
 | .bool _,x,q=>by simpa only [V.db,Rel] using q
 | .int _ _,x,q=>by simpa only [V.db,Rel] using q
 | .str _,x,q=>by simpa only [V.db,Rel] using q
 | .kA,x,q=>by simpa only [V.db,Rel] using q
 | .bj,x,q=>by simpa only [V.db,Rel] using q
 | .j7,x,q=>by simpa only [V.db,Rel] using q
 | .k6,x,q=>by simpa only [V.db,Rel] using q
 | .nilIface,x,q=>by simpa only [V.db,Rel] using q
 | .ptr b o,x,q=>by simp only [V.db,Rel] at q ⊢;obtain ⟨p,al,ao⟩:=q;exact ⟨p,sx s2 al,ao⟩
 | .slice b o l c,x,q=>by simp only [V.db,Rel] at q ⊢;obtain ⟨p,al,ao⟩:=q;exact ⟨p,sx s2 al,ao⟩
 | .ew b o l c,x,q=>by simp only [V.db,Rel] at q ⊢;obtain ⟨p,al,ao⟩:=q;exact ⟨p,sx s2 al,ao⟩
 | .g' b o l c,x,q=>by simpa only [V.db,Rel] using q
 | .map b,x,q=>by simp only [V.db,Rel] at q ⊢;obtain ⟨p,al,ao⟩:=q;exact ⟨p,sx s2 al,ao⟩
 | .func f cs,x,q=>by
   simp only [V.db,Rel] at q ⊢;rcases q with ⟨al,a,ao,aK⟩ | ⟨al,b,p,rfl,aK,bG⟩
   . exact .inl ⟨al,a,ao,C1 s2 cs _ aK⟩
   . exact .inr ⟨al,lh h.next b,p,by simp only [lg,V.db],sx s2 aK,bG⟩
 | .me f cs,x,q=>by simp only [V.db,Rel] at q ⊢;obtain ⟨al,a,ao,aK⟩:=q;exact ⟨al,a,ao,C1 s2 cs _ aK⟩
 | .iface t v,x,q=>by simp only [V.db,Rel] at q ⊢;obtain ⟨y,al,ao⟩:=q;exact ⟨y,al,tA s2 v y ao⟩
 | .agg cs,x,q=>by simp only [V.db,Rel] at q ⊢;obtain ⟨a,al,ao⟩:=q;exact ⟨a,al,C1 s2 cs _ ao⟩
 | .tuple cs,x,q=>by simp only [V.db,Rel] at q ⊢;obtain ⟨a,al,ao⟩:=q;exact ⟨a,al,C1 s2 cs _ ao⟩
theorem C1 (s2:ba ⟨w,fun _=>none⟩ bC aq bA):∀(v:List V) (x:List Value),bh bC v x->bh (o8 h aq E bC) (lg h.next v) x
 | [],x,q=>by simpa only [lg,bh] using q
 | v::af,x,q=>by simp only [lg,bh] at q ⊢;obtain ⟨y,cx,al,ao,aK⟩:=q;exact ⟨y,cx,al,tA s2 v y ao,C1 s2 af cx aK⟩
end
theorem UJ (s2:ba ⟨w,fun _=>none⟩ bC aq bA):∀(v:List b_) (x:List MapEntry),dx bC v x->dx (o8 h aq E bC) (v.map (b_.db h.next)) x
 | [],x,q=>by simpa only [List.map_nil,dx] using q
 | v::af,x,q=>by simp only [ast,dx,b_.db] at q ⊢;obtain ⟨y,cx,al,ao,aK,bG,cK⟩:=q;exact ⟨y,cx,al,tA s2 _ _ ao,tA s2 _ _ aK,bG,UJ s2 af cx cK⟩
theorem Xh (s2:ba ⟨w,fun _=>none⟩ bC aq bA):∀(v:List b_) (x:List MapEntry),iP bC v x->iP (o8 h aq E bC) (v.map (b_.db h.next)) x
 | [],x,q=>by simpa only [List.map_nil,iP] using q
 | v::af,x,q=>by simp only [ast,iP,b_.db] at q ⊢;obtain ⟨y,cx,al,ao,aK,cK⟩:=q;exact ⟨y,cx,al,tA s2 _ _ ao,tA s2 _ _ aK,Xh s2 af cx cK⟩
theorem EY (cs:T V):∀(n off i:Nat),i<n->(hK cs off n)[i]? =some (T.get .bad (az (off+i)) cs)
 | 0,_,i,aw=>absurd aw (by omega)
 | n+1,off,0,_=>by simp [hK]
 | n+1,off,i+1,aw=>by rw [hK,ash,EY cs n (off+1) i (by omega)];congr 3;omega
theorem ZS (hw:aA.w.heap.size<=w.heap.size) (s2:ba ⟨w,fun _=>none⟩ bC aq bA) {b:aM} {k:b6} (H:fF w.heap.size bC bA b k):fF aA.w.heap.size (o8 h aq E bC) bA (lh h.next b) (k.db h.next):=by
 cases k with
 | cells n cs cL st=>
   obtain ⟨aV,p,c,el,b2,aa,ad,aH,bw,cM,gb,ij⟩:=H;have ax:((hK cs 0 n).map (V.db h.next)).length=n:=by rw [arC,wk]
   refine ⟨by rw [ax];exact aV,p,c,el,b2,sx s2 aa,asq hw ad,aH,bw,cM,gb,by rw [ax];exact ij.1,fun i y aw a6=>?_⟩;rw [ax] at aw;have:=EX ((hK cs 0 n).map (V.db h.next)) 0 i .e;rw [arV,arz (by rw [ax];exact aw),ase,EY cs n 0 i aw] at this;rw [this];simp only [asD,ar0,arV];exact tA s2 _ _ (ij.2 i y aw a6)
 | iter st pos=>
   obtain ⟨p,aa,ad,aH⟩:=H;exact ⟨p,sx s2 aa,asq hw ad,aH⟩
 | mp es clock=>
   obtain ⟨p,a,aa,ad,aH,bw⟩:=H;exact ⟨p,a,sx s2 aa,asq hw ad,aH,UJ s2 _ _ bw⟩
 | hO es=>
   obtain ⟨p,a,c,l,aa,ad,aH,bw,cM⟩:=H;exact ⟨p,a,c,l,sx s2 aa,asq hw ad,aH,Xh s2 _ _ bw,cM⟩
 | _=>trivial
theorem Gx {k:b6} {n:Nat} (H:(k.db n).own=true):k.own=true:=by cases k<;>simp_all [b6.db,b6.own]
theorem Vo {B:Nat} {b:aM} {k:b6} {p:ju} (H:fF B E w b k) (aW:k.own=true) (q:E b=some p):B<=p.aZ/\p.aZ<w.heap.size:=by
 have lt:∀{o:Obj},w.heap[p.aZ]? =some o->p.aZ<w.heap.size:=fun {o} q=>by
  rcases asO p.aZ w.heap.size with ao | ao
  . exact ao
  . rw [ate ao] at q;cases q
 cases k with
 | cells n cs cL st=>
   obtain ⟨_,p',c,el,b2,aa,ad,aH,_⟩:=H;rw [q] at aa;cases aa;exact ⟨ad,lt aH⟩
 | iter st pos=>
   obtain ⟨p',aa,ad,_,aH⟩:=H;rw [q] at aa;cases aa;exact ⟨ad,lt aH⟩
 | mp es clock=>
   obtain ⟨p',a,aa,ad,aH,_⟩:=H;rw [q] at aa;cases aa;exact ⟨ad,lt aH⟩
 | hO es=>
   obtain ⟨p',a,c,l,aa,ad,aH,_⟩:=H;rw [q] at aa;cases aa;exact ⟨ad,lt aH⟩
 | ft l=>
   obtain ⟨p',o,aa,ad,aH,_⟩:=H;rw [q] at aa;cases aa;exact ⟨ad,lt aH⟩
 | hH=>
   obtain ⟨p',aa,ad,aH⟩:=H;rw [q] at aa;cases aa;exact ⟨ad,lt aH⟩
 | gW src since seen last=>
   obtain ⟨p',m,a,aa,ad,_,aH,_⟩:=H;rw [q] at aa;cases aa;exact ⟨ad,lt aH⟩
 | dead=>cases aW
 | view n cs=>cases aW
theorem Wv (s:ba aA E h w) (s2:ba ⟨w,fun _=>none⟩ bC aq bA):ba aA (o8 h aq E bC) (h.app aq) bA:=by
 have Wp:=s.below s2.frame;have hw:aA.w.heap.size<=w.heap.size:=s.frame.size;have cs:∀b,(h.next<=b0 b/\b0 b<h.next+aq.next/\∃i,i<aq.next/\b=lh h.next (az i)/\(h.app aq).get b=(aq.get (az i)).db h.next/\o8 h aq E bC b=bC (az i))\/
  ((b0 b<h.next\/h.next+aq.next<=b0 b)/\(h.app aq).get b=h.get b/\o8 h aq E bC b=E b):=fun b=>by
  by_cases q:h.next<=b0 b/\b0 b<h.next+aq.next
  . refine .inl ⟨q.1,q.2,b0 b-h.next,by omega,?_,?_,arz q⟩
    . unfold lh;rw [c7,show h.next + (b0 b-h.next)=b0 b from by omega,vf]
    . have:=Ik h aq aq.next (b0 b-h.next) (by omega)
      rw [show h.next + (b0 b-h.next)=b0 b from by omega,vf] at this;exact this
  . exact .inr ⟨by omega,Oe h aq b _ (by omega),arw q⟩
 have U_:∀b p,(h.get b).own=true->E b=some p->p.aZ<w.heap.size:=fun b p aW q=>by have ah:fF aA.w.heap.size E w b (h.get b):=s.at q;exact (Vo ah aW q).2
 have UQ:∀i p,(aq.get (az i)).own=true->bC (az i)=some p->w.heap.size<=p.aZ:=fun i p aW q=>(Vo (s2.aZ _ rfl) aW q).1;refine ⟨fun b ah=>?_,fun b k aB=>?_,fun b bR p p' da cw aJ aR ag=>?_,fun i aw=>?_,Wp.frame,s.laid,fun b p n c st aF he=>?_⟩
 . rcases cs b with ⟨_,_,i,aw,rfl,aJ,aR⟩ | ⟨_,aJ,aR⟩
   . rw [aJ];exact ZS hw s2 (s2.aZ _ rfl)
   . rw [aJ];exact (Wp.aZ b ah).mono (Ij s)
 . obtain ⟨al,ao,i,aw,rfl⟩:=s.oP b k aB;rcases cs (az i) with ⟨bJ,_⟩ | ⟨_,aJ,aR⟩
   . rw [c7] at bJ;omega
   . refine ⟨aJ.trans al,aR.trans ao,i,?_,rfl⟩;show i < (h.q' aq aq.next).next
     rw [x'];omega
 . rcases cs b with ⟨_,_,i,aw,rfl,g1,g2⟩ | ⟨_,g1,g2⟩<;>rcases cs bR with ⟨_,_,j,bp,rfl,g3,g4⟩ | ⟨_,g3,g4⟩
   . rw [g1] at da;rw [g3] at cw;rw [g2] at aJ;rw [g4] at aR;rw [s2.inj _ _ _ _ (Gx da) (Gx cw) aJ aR ag]
   . rw [g1] at da;rw [g3] at cw;rw [g2] at aJ;rw [g4] at aR;have a:=UQ _ _ (Gx da) aJ;have b:=U_ _ _ cw aR;omega
   . rw [g1] at da;rw [g3] at cw;rw [g2] at aJ;rw [g4] at aR;have a:=UQ _ _ (Gx cw) aR;have b:=U_ _ _ da aJ;omega
   . rw [g1] at da;rw [g3] at cw;rw [g2] at aJ;rw [g4] at aR;exact s.inj _ _ _ _ da cw aJ aR ag
 . have aV:(h.app aq).next=h.next+aq.next:=x' h aq aq.next
   rw [aV] at aw;rcases cs (az i) with ⟨bJ,bO,_⟩ | ⟨_,aJ,aR⟩
   . rw [c7] at bO;omega
   . rw [aR];exact s.fresh i (by omega)
 . rcases cs b with ⟨_,_,i,aw,rfl,g1,g2⟩ | ⟨_,g1,g2⟩
   . rw [g2] at he;cases aB:aq.get (az i) with
     | cells gu fz apR jq=>
       rw [g1,aB] at aF;simp only [b6.db,b6.bU,b6.cells.injEq] at aF;obtain ⟨_,_,q,_⟩:=aF;subst q;exact s2.base _ _ _ _ _ aB he
     | _=>rw [g1,aB] at aF;simp [b6.db] at aF
   . rw [g1] at aF;rw [g2] at he;exact s.base _ _ _ _ _ aF he
end
theorem abF {C:Ctx} (cN:C.P.follows .mixedOrders=true) (bF:eg C.P) (gR:pT C) {n:Nat} {f:FuncId} {aq:ae} {v:V} (av:Nat.beq f dB=false) (ak:C.ext f=none) (ik:∃fn,C.P.funcs[f]? =some fn/\fn.body.isSome=true)
 (he:sE C n f [] ae.empty=.val v aq) (h:ae):e4 C.P f [] h (v.db h.next) (h.app aq):=by
 refine ⟨fun e=>by subst e;simp at av,.inl ⟨ik,fun aA E w xs ax s=>?_⟩⟩;simp only [bh] at ax;subst ax;obtain ⟨_,fQ⟩:=IM cN bF gR av ak he (aA:=⟨w,fun _=>none⟩) (E:=fun _=>none) (w:=w) (xs:=[]) rfl (G8 w (Lay.e1 s.laid s.frame));refine fQ.mono fun e w' ay=>?_;obtain ⟨au,x,rfl,_,ao,aK⟩:=ay;exact ⟨_,x,rfl,Ij s,tA aK _ _ ao,Wv s aK⟩
theorem Zl (h aq:ae):Ext h (h.app aq):=Od h aq _
theorem Of (h aq:ae) {i:Nat} (aw:i<aq.next):(h.app aq).get (az (h.next+i))=(aq.get (az i)).db h.next:=Ik h aq _ i aw
theorem Og (h aq:ae):(h.app aq).next=h.next+aq.next:=x' h aq _
end
end Go.Proofs.YtgmhjhgoamjeeaaGreatDoor.aX
