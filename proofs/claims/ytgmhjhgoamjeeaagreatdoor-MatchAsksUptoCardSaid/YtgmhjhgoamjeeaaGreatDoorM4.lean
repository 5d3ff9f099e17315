/- The abstract machine and its walks (a verified interpreter of the model's code: plain definitions and lemmas, no condition). Printed by a program from longer texts: names made short. -/
import Derived.Test.YtgmhjhgoamjeeaaGreatDoorM3
import Derived.IntWalk
import Derived.ChangeArms
import Derived.DataReads
import Derived.ChangeBears
import Derived.Carry
import Derived.OpenShut
import Derived.ChangeSame
import Derived.Handed
import Derived.HandedShaped
set_option linter.unusedSectionVars false
set_option linter.unusedSimpArgs false
set_option linter.unusedVariables false
set_option maxHeartbeats 64000000
noncomputable section
namespace Go.Proofs.YtgmhjhgoamjeeaaGreatDoor.aZ
section
open Go Go.RowKit
variable [Lay]
def eZ (P:Program) (f:FuncId) (args:List V) (h:ae) (v:V) (aa:ae):Prop:=
 f≠dv/\(((∃fn,P.funcs[f]? =some fn/\fn.body.isSome=true)/\∀(az:Fr) E w xs,bg E args xs->ba az E h w->
  Calls P f xs.toArray w fun e w'=>∃ay x,e=.returned x/\E.le ay/\Rel ay v x/\ba az ay aa w')\/
 ∀(az:Fr) E w xs,bg E args xs->ba az E h w->∃ay x w',(callFunc f xs.toArray).run P w=.ok (.value x) w'/\E.le ay/\Rel ay v x/\ba az ay aa w')
def M4 (P:Program) (args:List V) (b:aO) (h:ae) (v:V) (aa:ae):Prop:=
 ∀(az:Fr) E w xs p,bg E args xs->ba az E h w->E b=some p->
  ∃f tmps assign body,(Instr.yield p.aS xs.toArray).run P w=.ok (.round p.aS f tmps assign body) w/\
   RoundIn (cc none) 0 P p.aS f tmps assign body w fun e w'=>∃ay x,e=.returned x/\E.le ay/\Rel ay v x/\ba az ay aa w'
theorem eZ.calls {P:Program} (bK:ep P) {f:FuncId} {args:List V} {h aa:ae} {v:V} (H:eZ P f args h v aa) (ah:∃fn,P.funcs[f]? =some fn/\fn.body.isSome=true) (az:Fr) (E:Env) (w:World) (xs:List Value) (ao:bg E args xs) (s:ba az E h w):
 Calls P f xs.toArray w fun e w'=>∃ay x,e=.returned x/\E.le ay/\Rel ay v x/\ba az ay aa w':=by
 rcases H.2 with ⟨_,H⟩ | H
 . exact H az E w xs ao s
 . obtain ⟨ay,x,w',aD,_⟩:=H az E w xs ao s;obtain ⟨fn,U,ab⟩:=ah;rw [u4 bK U ab] at aD;cases aD
def cv (P:Program) (f:FuncId) (args:List V) (h:ae) (K:V->ae->Prop):Prop:=∃v aa,eZ P f args h v aa/\K v aa
def Xt (P:Program) (args:List V) (b:aO) (h:ae) (K:V->ae->Prop):Prop:=∃v aa,M4 P args b h v aa/\K v aa
def M5 (P:Program) (xs:List V) (h:ae) (K:V->ae->Prop):Prop:=∃cu b,xs=cu++[.ptr b 0]/\Xt P cu b h K
def CL (P:Program) (g:FuncId) (xs:List V) (h:ae) (K:V->ae->Prop):Prop:=if g=dv then M5 P xs h K else cv P g xs h K
def V.target (v:V) (args:List V):Option (FuncId × List V):=
 match v with
 | .func g cs=>some (g,args++cs)
 | .l1 g cs=>some (g,cs++args)
 | _=>none
theorem T8 {v:V} {args xs:List V} {g:FuncId} (h:v.target args=some (g,xs)) (F:FuncId->List V->a_):v.y9 args F=F g xs:=by
 cases v<;>simp only [V.target] at h<;>try (cases h;done)
 all_goals (simp only [apq,aqw] at h;obtain ⟨rfl,rfl⟩:=h;rfl)
theorem cv.mono {P:Program} {f:FuncId} {args:List V} {h:ae} {K nI:V->ae->Prop} (c:cv P f args h K) (aA:∀v aa,K v aa->nI v aa):cv P f args h nI:=by obtain ⟨v,aa,aj,an⟩:=c;exact ⟨v,aa,aj,aA v aa an⟩
def lx:dR:=fun _ _ _=>.fail
theorem Fv (P:Program):gJ P lx/\gV P lx:=
 ⟨⟨fun _ f args h v aa _ he=>by simp [lx] at he,fun _ f args h v aa _ he=>by simp [lx] at he,fun _ args b h v aa he=>by simp [lx] at he,fun args h v aa he=>by simp [lx] at he⟩,fun f args h v aa he=>by simp [lx] at he⟩
open Classical in
def ns (f:FuncId) (args:List V) (h:ae) (v:V) (aa:ae):dR:=
 fun f1 bJ U=>if f1=f/\bJ=args/\U=h then .val v aa else .fail
theorem Ud {P:Program} {f:FuncId} {args:List V} {h aa:ae} {v:V} (H:eZ P f args h v aa):gJ P (ns f args h v aa)/\gV P (ns f args h v aa):=by
 refine ⟨⟨fun az f1 bJ U v1 fv _ he=>?_,fun az f1 bJ U v1 fv _ he=>?_,fun az bJ b U v1 fv he=>?_,fun bJ U v1 fv he=>?_⟩,fun f1 bJ U v1 fv he=>?_⟩
 . unfold ns at he
   split at he
   . rename_i au;obtain ⟨rfl,rfl,rfl⟩:=au;simp only [a_.val.injEq] at he;obtain ⟨rfl,rfl⟩:=he;intro E w xs ao s;rcases H.2 with H | H
     . exact .inl ⟨H.1,H.2 az E w xs ao s⟩
     . exact .inr (H az E w xs ao s)
   . cases he
 . unfold ns at he
   split at he<;>cases he
 . unfold ns at he
   split at he
   . rename_i au;exact absurd au.1.symm H.1
   . cases he
 . unfold ns at he
   split at he<;>cases he
 . trivial
theorem al9 {xs cu:List V} {x y:V} (h:xs++[x]=cu++[y]):xs=cu/\x=y:=by have:=List.append_inj' h rfl;exact ⟨this.1,by simpa using this.2⟩
theorem akd {P:Program} {args:List V} {b:aO} {h aa:ae} {v:V} (H:M4 P args b h v aa):gJ P (ns dv (args++[.ptr b 0]) h v aa)/\gV P (ns dv (args++[.ptr b 0]) h v aa):=by
 refine ⟨⟨fun az f1 bJ U v1 fv cT he=>?_,fun az f1 bJ U v1 fv _ he=>?_,fun az bJ bR U v1 fv he=>?_,fun bJ U v1 fv he=>?_⟩,fun f1 bJ U v1 fv he=>?_⟩
 . unfold ns at he
   split at he
   . rename_i au;exact absurd au.1 cT
   . cases he
 . unfold ns at he
   split at he<;>cases he
 . unfold ns at he
   split at he
   . rename_i au;obtain ⟨_,au,rfl⟩:=au;obtain ⟨rfl,ah⟩:=al9 au;simp only [V.ptr.injEq,arG] at ah;subst ah;simp only [a_.val.injEq] at he;obtain ⟨rfl,rfl⟩:=he;exact fun E w xs p ao s ai=>H az E w xs p ao s ai
   . cases he
 . unfold ns at he
   split at he<;>cases he
 . trivial
theorem K7 {f:FuncId} {args:List V} {h aa:ae} {v:V}:ns f args h v aa f args h=.val v aa:=by unfold ns;rw [apB ⟨rfl,rfl,rfl⟩]
def bd.set (r:bd) (d:Option Nat) (v:V):bd:=
 match d with
 | none=>r
 | some d=>fun t=>if t=d then v else r t
def bd.trim (r:bd):List Nat->bd
 | [],_=>.bad
 | u::us,t=>if t=u then r t else bd.trim r us t
def bd.bT:List V->bd
 | [],_=>.bad
 | v::af,t=>if t=0 then v else bd.bT af (t-1)
def CA (r:bd):List Nat->bI
 | []=>.e
 | t::bx=>T.put .bad (r t) (aC t) (CA r bx)
theorem VU (r:bd):∀bx:List Nat,ed (CA r bx)=bd.trim r bx
 | []=>by funext t;simp [ed,CA,bd.trim]
 | u::bx=>by
   funext t;have bh:=congrFun (VU r bx) t;simp only [ed] at bh;simp only [ed,CA,bd.trim,T.ie];by_cases h:t=u
   . subst h;simp
   . rw [apu (fun e=>h (h7 e).symm),apu h];exact bh
theorem zC (cQ:bI):∀bx:List Nat,ed (dp cQ bx)=bd.trim (ed cQ) bx
 | []=>by funext t;simp [ed,dp,bd.trim]
 | u::bx=>by
   funext t;have bh:=congrFun (zC cQ bx) t;simp only [ed] at bh;simp only [ed,dp,bd.trim,T.ie];by_cases h:t=u
   . subst h;simp
   . rw [apu (fun e=>h (h7 e).symm),apu h];exact bh
theorem Ma {r:bd}:∀{bx:List Nat} {t:Nat},t ∈ bx->bd.trim r bx t=r t
 | [],t,h=>by simp at h
 | u::bx,t,h=>by
   simp only [bd.trim];by_cases hu:t=u
   . rw [apB hu]
   . rw [apu hu];simp only [apI] at h;exact Ma (h.resolve_left hu)
theorem VV {r:bd}:∀{bx:List Nat} {t:Nat},t ∉ bx->bd.trim r bx t=.bad
 | [],t,_=>rfl
 | u::bx,t,h=>by simp only [apI,not_or] at h;simp only [bd.trim];rw [apu h.1];exact VV h.2
theorem Lq (d:Option Nat) (cQ:bI) (v:V):ed ((fI d).run cQ v)=(ed cQ).set d v:=by
 cases d with
 | none=>rfl
 | some d=>
   funext t;simp only [ed,fI,bd.set,T.ie];by_cases h:t=d
   . subst h;simp
   . rw [apu (fun e=>h (h7 e).symm),apu h]
abbrev eK:Nat:=17179869185
def Out (aw:Nat) (r:bd):Prop:=∀t,aw<=t->t≠eK->r t=.bad
theorem x7 {aw:Nat} {r:bd} (aT:Out aw r):∃cQ,ed cQ=r:=by
 refine ⟨CA r (eK::List.range aw),?_⟩;rw [VU];funext t;by_cases h:t<aw
 . exact Ma (ap6 _ (aqX.2 h))
 . by_cases ab:t=eK
   . exact Ma (by rw [ab];exact aqo)
   . rw [VV (by simp only [apI,aqX,not_or];exact ⟨ab,h⟩),aT t (by omega) ab]
theorem Out.set {aw:Nat} {r:bd} (aT:Out aw r) {d:Option Nat} (aH:eV aw d=true) (v:V):Out aw (r.set d v):=by
 intro t aE aW;cases d with
 | none=>exact aT t aE aW
 | some d=>
   simp only [eV,apn,apQ] at aH;simp only [bd.set];rw [apu (by omega)];exact aT t aE aW
theorem Cv {aw:Nat} {r:bd} {d:Option Nat} (aH:eV aw d=true) (v:V):r.set d v eK=r eK:=by
 cases d with
 | none=>rfl
 | some d=>
   simp only [eV,apn,apQ,apF] at aH;simp only [bd.set];rw [apu (by have:=aH.2;unfold top at this;unfold eK;omega)]
structure hy (E:Env) (aw:Nat) (r:bd) (a:Act):Prop where
 size:a.tmps.size=aw
 defers:lE E (r eK) a.defers
 ak:∀t,t≠eK->Rel E (r t) (a.tmps.getD t undef)
theorem rH {t:Nat} (h:t<=top):t≠eK:=by unfold top at h;unfold eK;omega
theorem hy.mono {E ay:Env} (h:E.le ay) {aw:Nat} {r:bd} {a:Act} (k:hy E aw r a):hy ay aw r a:=
 ⟨k.size,k.defers.mono h,fun t aE=>Rel.mono h _ _ (k.ak t aE)⟩
theorem hy.put {E ay:Env} (h:E.le ay) {aw:Nat} {r:bd} {a:Act} (k:hy E aw r a) {d:Option Nat} (aH:eV aw d=true) {v:V} {x:Value} (ao:Rel ay v x):hy ay aw (r.set d v) (a.put d x):=by
 cases d with
 | none=>exact k.mono h
 | some d=>
   have aW:=Cv (r:=r) aH v;simp only [eV,apn,apQ] at aH;refine ⟨by simp [Act.put,k.size],by rw [aW];exact k.defers.mono h,fun t ff=>?_⟩;simp only [bd.set,Act.put];rw [apO,apJ];by_cases aE:t=d
   . subst aE;rw [apB rfl,apB rfl,apB (by rw [k.size];exact aH.1)];exact ao
   . rw [apu aE,apu (fun e=>aE e.symm),<-apO];exact Rel.mono h _ _ (k.ak t ff)
def G.wp (P:Program) (g:G) (r:bd) (h:ae) (K:V->ae->Prop):Prop:=
 match g with
 | .call f args=>cv P f (aU.fM r args) h K
 | .ma f args=>∃g xs,(f.aQ r).target (aU.fM r args)=some (g,xs)/\CL P g xs h K
 | g=>∃v aa,g.run P lx r h=.val v aa/\K v aa
theorem G.zH {P:Program} {g:G} {r:bd} {h:ae} {K:V->ae->Prop} (H:g.wp P r h K):∃call v aa,(gJ P call/\gV P call)/\g.run P call r h=.val v aa/\K v aa:=by
 cases g
 case call f args=>
  obtain ⟨v,aa,aj,an⟩:=H;exact ⟨_,v,aa,Ud aj,K7,an⟩
 case ma f args=>
  obtain ⟨g,xs,aB,H⟩:=H;unfold CL at H
  split at H
  rotate_left
  . obtain ⟨v,aa,aj,an⟩:=H;refine ⟨_,v,aa,Ud aj,?_,an⟩;simp only [G.run];rw [T8 aB];exact K7
  . rename_i aG;subst aG;obtain ⟨cu,b,rfl,v,aa,aj,an⟩:=H;refine ⟨_,v,aa,akd aj,?_,an⟩;simp only [G.run];rw [T8 aB];exact K7
 all_goals
  obtain ⟨v,aa,aj,an⟩:=H;exact ⟨lx,v,aa,Fv P,aj,an⟩
structure bs where
 dst:Option Nat
 g:G
 QS:Option (Nat × Bool)
 rs:List Nat
def bs.bad:bs:=⟨none,.bad,none,[]⟩
def gate (v:V) (want:Bool) (A B:Prop):Prop:=
 match v with
 | .bool b=>(b=want->A)/\(b=!want->B)
 | .tuple _=>B
 | _=>False
def bs.wp (P:Program) (o:bs) (r:bd) (h:ae) (K:bd->V->ae->Prop):Prop:=
 match o.QS with
 | none=>o.g.wp P (r.trim o.rs) h fun v aa=>K (r.set o.dst v) v aa
 | some (d,want)=>gate (r.trim o.rs d) want (o.g.wp P (r.trim o.rs) h fun v aa=>K (r.set o.dst v) v aa) (K (r.set o.dst (.tuple [])) (.tuple []) h)
def rR (P:Program) (aw:Nat) (all:Array Oper) (o:Oper):bs:=
 bif eV aw o.dst&&iW (b4 all o) then
  match o.guard with
  | none=>⟨o.dst,u2 P o.op,none,b4 all o⟩
  | some (j,want)=>match all[j]? with
    | some g=>match g.dst with
      | some d=>bif Nat.blt d aw&&Nat.ble d top then ⟨o.dst,u2 P o.op,some (d,want),b4 all o⟩ else bs.bad
      | none=>bs.bad
    | none=>bs.bad
 else bs.bad
def zk (P:Program) (aw:Nat) (all:Array Oper):List Oper->List bs
 | []=>[]
 | o::os=>rR P aw all o::zk P aw all os
theorem U5 (P:Program) (aw:Nat) (all:Array Oper):∀l:List Oper,zk P aw all l=l.map (rR P aw all)
 | []=>rfl
 | o::os=>by simp [zk,U5 P aw all os]
def aU.isNil:aU->Bool
 | .c .km=>true
 | _=>false
def qA (P:Program) (aw:Nat) (all:Array Oper) (o:Oper):bs:=
 match o.op,o.guard with
 | .binOp op t x y _,none=>match w5 P op t with
   | some neg=>bif !((rx x).isNil||(rx y).isNil)&&(eV aw o.dst&&iW (b4 all o)) then ⟨o.dst,.w2 neg (rx x) (rx y),none,b4 all o⟩ else rR P aw all o
   | none=>rR P aw all o
 | _,_=>rR P aw all o
def zl (P:Program) (aw:Nat) (all:Array Oper):List Oper->List bs
 | []=>[]
 | o::os=>qA P aw all o::zl P aw all os
theorem bs.Dw {P:Program} {r:bd} {h:ae} {K:bd->V->ae->Prop}:¬bs.bad.wp P r h K:=by rintro ⟨v,aa,q,_⟩;cases q
theorem bs.zH {P:Program} {aw:Nat} {all:Array Oper} {o:Oper} {r:bd} {h:ae} {K:bd->V->ae->Prop} (H:(rR P aw all o).wp P r h K):
 ∃call v aa,(gJ P call/\gV P call)/\eV aw o.dst=true/\K (r.set o.dst v) v aa/\∀cQ,ed cQ=r->(cB P aw all o).run call cQ h=.val v aa:=by
 unfold rR at H;cases au:(eV aw o.dst&&iW (b4 all o)) with
 | false=>rw [au] at H;exact absurd H bs.Dw
 | true=>
   have aH:eV aw o.dst=true:=by simp only [apn] at au;exact au.1
   rw [au] at H;simp only [apt] at H;cases aG:o.guard with
   | none=>
     rw [aG] at H;obtain ⟨call,v,aa,aj,an,aJ⟩:=G.zH H;refine ⟨call,v,aa,aj,aH,aJ,fun cQ dM=>?_⟩;unfold cB;rw [au];simp only [apt,aG,jb];refine U3 ?_;rw [zC,dM];exact an
   | some n'=>
     obtain ⟨j,want⟩:=n';rw [aG] at H;simp only at H;cases bC:all[j]? with
     | none=>rw [bC] at H;exact absurd H bs.Dw
     | some g=>
       rw [bC] at H;simp only at H;cases iN:g.dst with
       | none=>rw [iN] at H;exact absurd H bs.Dw
       | some d=>
         rw [iN] at H;simp only at H;cases ah:(Nat.blt d aw&&Nat.ble d top) with
         | false=>rw [ah] at H;exact absurd H bs.Dw
         | true=>
           rw [ah] at H;simp only [apt,bs.wp] at H;have key:cB P aw all o=⟨jb (some (oT (aC d),want)) (fp P o) (b4 all o)⟩:=by unfold cB;rw [au];simp only [apt,aG,bC,iN,ah]
           have A5:∀cQ,ed cQ=r->(oT (aC d)).run (dp cQ (b4 all o))=r.trim (b4 all o) d:=by intro cQ dM;rw [<-dM,<-zC];rfl
           cases bA:r.trim (b4 all o) d<;>rw [bA] at H<;>simp only [gate] at H
           case bool b=>
            by_cases Rl:b=want
            . obtain ⟨call,v,aa,aj,an,aJ⟩:=G.zH (H.1 Rl);refine ⟨call,v,aa,aj,aH,aJ,fun cQ dM=>?_⟩;rw [key];simp only [jb,A5 cQ dM,bA];rw [show (bif want then b else !b)=true from by subst Rl;cases b<;>rfl];simp only [apt];refine U3 ?_;rw [zC,dM];exact an
            . have Ri:b=!want:=by cases b<;>cases want<;>simp_all
              refine ⟨lx,.tuple [],h,Fv P,aH,H.2 Ri,fun cQ dM=>?_⟩;rw [key];simp only [jb,A5 cQ dM,bA];rw [show (bif want then b else !b)=false from by subst Ri;cases want<;>rfl];rfl
           case tuple af=>
            refine ⟨lx,.tuple [],h,Fv P,aH,H,fun cQ dM=>?_⟩;rw [key];simp only [jb,A5 cQ dM,bA]
def ow (P:Program):List bs->bd->ae->(bd->ae->Prop)->Prop
 | [],r,h,K=>K r h
 | o::os,r,h,K=>o.wp P r h fun bb _ aa=>ow P os bb aa K
structure fQ where
 r:bd
 h:ae
 v:V
def ks (P:Program):List bs->bd->ae->(List fQ->bd->ae->Prop)->Prop
 | [],r,h,K=>K [] r h
 | o::os,r,h,K=>o.wp P r h fun bb v aa=>ks P os bb aa fun es c0 aB=>K (⟨r,h,v⟩::es) c0 aB
def ym (es:List fQ) (aB:ae) (i:Nat):ae:=
 match es[i]? with
 | some e=>e.h
 | none=>aB
def sn (P:Program) (o:Option bs) (e:Option fQ) (es:List fQ) (aB:ae):List Nat->Prop
 | []=>True
 | s::bl=>(match o,e with
   | some o,some e=>o.wp P e.r (ym es aB s) fun _ b1 _=>b1=e.v
   | _,_=>False)/\sn P o e es aB bl
def pG (P:Program) (ops:List bs) (es:List fQ) (aB:ae):List (Nat × List Nat)->Prop
 | []=>True
 | (p,bl)::rest=>sn P ops[p]? es[p]? es aB bl/\pG P ops es aB rest
inductive aX where
 | bad
 | skip
 | ak (ops:List bs)
 | draw (ops:List bs) (asks:List (Nat × List Nat))
 | seq (a b:aX)
 | cond (c:aU) (a b:aX)
 | block (id:Nat) (b:aX)
 | loop (b:aX)
 | exit (id:Nat)
 | ret
 | range (f:aU) (bn:List Nat) (aw:Nat) (a b:aX)
def xO (P:Program) (ops:List Oper) (dX aF eC:List Nat):Nat->List Oper->List (Nat × List Nat)
 | _,[]=>[]
 | i,o::os=>bif looks o.op&&!e4 P o.op then
    (posOf aF i,eC.filter (s6 P dX ops aF i ((dX[i]?).getD 0)))::xO P ops dX aF eC (i+1) os
   else xO P ops dX aF eC (i+1) os
def F6 (P:Program) (aw:Nat) (ops:Array Oper) (order aF:List Nat):aX:=
 bif lA ops.size order aF&&vS P ops aF then
  .draw (zk P aw ops (hs ops order)) (bif sk P ops.toList then xO P ops.toList (eP [] ops.toList) aF (hL P aF 0 ops.toList) 0 ops.toList else [])
 else .bad
def eF (P:Program) (aw:Nat):Code->aX
 | .skip=>.skip
 | .label _=>.skip
 | .region _ ops draw=>bif draw then F6 P aw ops (uS P ops) (zd (uS P ops) 0 ops.toList) else .ak (zl P aw ops ops.toList)
 | .seq a b=>.seq (eF P aw a) (eF P aw b)
 | .cond c a b=>.cond (rx c) (eF P aw a) (eF P aw b)
 | .block id b=>.block id (eF P aw b)
 | .loop b=>.loop (eF P aw b)
 | .exit id=>.exit id
 | .ret=>.ret
 | .scope b=>eF P aw b
 | .rangeFunc f bn a b=>bif tf aw bn.toList&&(noMark a&&noMark b) then .range (rx f) bn.toList aw (eF P aw a) (eF P aw b) else .bad
 | _=>.bad
structure WV (P:Program) (l:z6) (aw:Nat) (r:bd) (bn:List Nat) (UR ak3:aX):Prop where
 aV:l.aw=aw
 aD:ed l.r=r
 ai:l.bn=bn
 bw:eF P aw l.assign=UR
 ah:eF P aw l.body=ak3
 m':tf aw bn=true
 aoJ:noMark l.assign=true
 dP:noMark l.body=true
 out:Out aw r
def cP.andThen:cP->Prop->Prop->Prop
 | .normal,A,_=>A
 | _,_,B=>B
def cP.leave (id:Nat):cP->cP
 | .exit i=>if i=id then .normal else .exit i
 | e=>e
def fm (P:Program):aX->bd->ae->(cP->bd->ae->Prop)->Prop
 | .bad,_,_,_=>False
 | .skip,r,h,Q=>Q .normal r h
 | .ak ops,r,h,Q=>ow P ops r h (Q .normal)
 | .draw ops asks,r,h,Q=>ks P ops r h fun es c0 aB=>pG P ops es aB asks/\Q .normal c0 aB
 | .seq a b,r,h,Q=>fm P a r h fun e bb aa=>e.andThen (fm P b bb aa Q) (Q e bb aa)
 | .cond c a b,r,h,Q=>match c.aQ r with
   | .bool t=>(t=true->fm P a r h Q)/\(t=false->fm P b r h Q)
   | _=>False
 | .block id b,r,h,Q=>fm P b r h fun e bb aa=>Q (e.leave id) bb aa
 | .loop b,r,h,Q=>∃(I:bd->ae->Prop) (μ:bd->ae->Nat),I r h/\∀r h,I r h->fm P b r h fun e bb aa=>e.andThen (I bb aa/\μ bb aa<μ r h) (Q e bb aa)
 | .exit id,r,h,Q=>Q (.exit id) r h
 | .ret,r,h,Q=>Q .ret r h
 | .range f bn aw a b,r,h,Q=>∃g cs,f.aQ r=.func g cs/\g≠dv/\(∃fn,P.funcs[g]? =some fn/\fn.body.isSome=true)/\∀l,WV P l aw r bn a b->l.st=0->l.ht=none->
    cv P g (.func dv [.ptr (aC (h.next+1)) 0]::cs) ((h.new .hC).new (.fz l)) fun _ aa=>
     ∃e',aa.get (aC (h.next+1))=.fz e'/\e'.st≠1/\Q (e'.ht.getD .normal) (r.set (some eK) (.tuple (.ptr (aC h.next) 0::(r eK).list))) (aa.set (aC (h.next+1)) .dead)
def aX.plain:aX->Bool
 | .seq a b=>a.plain&&b.plain
 | .cond _ a b=>a.plain&&b.plain
 | .block _ b=>b.plain
 | .loop b=>b.plain
 | .range _ _ _ _ _=>false
 | _=>true
def CN (P:Program) (aw:Nat) (c:Code) (r:bd) (h:ae) (e:cP) (bb:bd) (aa:ae):Prop:=
 ∀(rd:Option Nat) (az:Fr) E a w,(rd=none\/noMark c=true)->hy E aw r a->ba az E h w->∀Q:Exit->Act->World->Prop,
  (∀ay bk w',E.le ay->hy ay aw bb bk->ba az ay aa w'->Q (toExit e) bk w')->CH rd P c Q a w
section
variable {P:Program} {aw:Nat}
theorem U4 (P:Program) (aw:Nat) (all:Array Oper) (o:Oper):qA P aw all o=rR P aw all o\/∃op t x y u neg,o.op=.binOp op t x y u/\o.guard=none/\w5 P op t=some neg/\eV aw o.dst=true/\iW (b4 all o)=true/\qA P aw all o=⟨o.dst,.w2 neg (rx x) (rx y),none,b4 all o⟩:=by
 obtain ⟨dst,op,type,pos,after,guard⟩:=o;cases op<;>try (exact .inl rfl)
 rename_i op t x y u;cases guard with
 | some g=>exact .inl rfl
 | none=>
   simp only [qA];cases ai:w5 P op t with
   | none=>exact .inl rfl
   | some neg=>
     simp only;cases au:(!((rx x).isNil||(rx y).isNil)&&(eV aw dst&&iW (b4 all ⟨dst,.binOp op t x y u,type,pos,after,none⟩))) with
     | false=>exact .inl rfl
     | true=>
       simp only [apn] at au;exact .inr ⟨op,t,x,y,u,neg,by first | rfl | trivial,by first | rfl | trivial,ai,by first | exact au.2.1 | trivial,by first | exact au.2.2 | trivial,by first | rfl | trivial⟩
theorem bs.Wb (bK:ep P) {all:Array Oper} {o:Oper} {i:Nat} (ax:all[i]? =some o) {r:bd} {h:ae} {K:bd->V->ae->Prop} (aT:Out aw r) (H:(qA P aw all o).wp P r h K):
 ∃v aa,eV aw o.dst=true/\K (r.set o.dst v) v aa/\∀(rd:Option Nat) (az:Fr) E a w,hy E aw r a->ba az E h w->∀(Q:Exit->Act->World->Prop) (C:Act->World->Prop),
  (∀ay x w',E.le ay->Rel ay v x->ba az ay aa w'->C (a.put o.dst x) w')->wpOpIn (cc rd) 0 P all Q i C a w:=by
 obtain ⟨cQ,dM⟩:=x7 aT;rcases U4 P aw all o with e | ⟨op,t,x,y,u,neg,av,aK,bF,bZ,df,hg⟩
 . rw [e] at H;obtain ⟨call,v,U,au,aH,H1,cS⟩:=bs.zH H;refine ⟨v,U,aH,H1,fun rd az E a w k s Q C ye=>?_⟩;refine q7 bK au.1 au.2 ax (cS cQ dM) k.size (fun t aE=>?_) s ye;have:=congrFun dM t;simp only [ed] at this;rw [this];exact k.ak t (rH (ap4 (apP.1 (kB (cS cQ dM)).2 t aE)))
 . rw [hg] at H;simp only [bs.wp,G.wp,G.run] at H;obtain ⟨v,aa,bA,dL⟩:=H;unfold ze at bA;cases aq:jF h ((rx x).aQ (r.trim (b4 all o))) ((rx y).aQ (r.trim (b4 all o))) with
   | none=>rw [aq] at bA;cases bA
   | some b=>
     rw [aq] at bA;simp only [a_.of,a_.val.injEq] at bA;obtain ⟨rfl,rfl⟩:=bA;refine ⟨_,h,bZ,dL,fun rd az E a w k s Q C ye=>?_⟩
     have nj:RegRel0 E aw (dp cQ (b4 all o)) a:=⟨k.size,fun t aE=>by
      rw [Gw df aE];by_cases hm:t ∈ b4 all o
      . rw [apB hm];have:=congrFun dM t;simp only [ed] at this;rw [this];exact k.ak t (rH aE)
      . rw [apu hm];simp [Rel]⟩
     have ex:∀z:Operand,(bV z).run (dp cQ (b4 all o))=(rx z).aQ (r.trim (b4 all o)):=fun z=>by rw [eW,zC,dM]
     rw [<-ex,<-ex] at aq;obtain ⟨dst,aj4,type,pos,after,guard⟩:=o;subst av aK;obtain ⟨Z,e9,cR⟩:=UC (P:=P) (ji:=x) (jj:=y) s bF aq (dB nj x) (dB nj y);simp only [wpOpIn,ax,Region.wanted,ap0];exact gd rfl (c9.plain s e9 cR) fun ay v w' aj an aJ=>ye ay _ w' aj an aJ
theorem Wg (bK:ep P) {all:Array Oper}:∀(l:List Oper) (i:Nat),(∀j,l[j]? =all[i+j]?)->∀(r:bd) (h:ae) (K:bd->ae->Prop),Out aw r->ow P (zl P aw all l) r h K->
 ∃bb aa,K bb aa/\(Out aw bb/\bb eK=r eK)/\∀(rd:Option Nat) (az:Fr) E a w,hy E aw r a->ba az E h w->∀Q:Exit->Act->World->Prop,
  (∀ay bk w',E.le ay->hy ay aw bb bk->ba az ay aa w'->Q .normal bk w')->wpOpsIn (cc rd) 0 P all Q (List.range' i l.length) a w
 | [],i,_,r,h,K,aT,H=>by refine ⟨r,h,H,⟨aT,rfl⟩,fun rd az E a w k s Q cw=>?_⟩;simp only [ap5,List.range'_zero,wpOpsIn];exact cw E a w (Env.le.refl E) k s
 | o::os,i,ar,r,h,K,aT,H=>by
   have ax:all[i]? =some o:=by have:=ar 0;simpa using this.symm
   simp only [zl,ow] at H;obtain ⟨v,U,aH,H1,cS⟩:=bs.Wb bK ax aT H;obtain ⟨cG,ab,aj,an,aJ⟩:=Wg bK os (i+1) (fun j=>by have:=ar (j+1);simp only [aqq] at this;rw [this];congr 1;omega) _ U K (aT.set aH v) H1;refine ⟨cG,ab,aj,⟨an.1,an.2.trans (Cv aH v)⟩,fun rd az E a w k s Q cw=>?_⟩;rw [apz,List.range'_succ,wpOpsIn_cons];refine cS rd az E a w k s _ _ fun ay x w' cg ck ek=>?_;exact aJ rd az ay _ w' (k.put cg aH ck) ek Q fun bM a2 bH bU z2 z3=>cw bM a2 bH (cg.trans bU) z2 z3
def toF (e:e0):fQ:=⟨ed e.r,e.h,e.v⟩
theorem adt (es:List e0) (aB:ae) (i:Nat):ym (es.map toF) aB i=ch es aB i:=by unfold ym ch;rw [aqb];cases es[i]? <;>rfl
theorem Wf {all:Array Oper}:∀(l:List Oper) (mQ:bI) (h:ae) (K:List fQ->bd->ae->Prop),ks P (zk P aw all l) (ed mQ) h K->Out aw (ed mQ)->
 ∃es oH aB,K (es.map toF) (ed oH) aB/\(Out aw (ed oH)/\ed oH eK=ed mQ eK)/\es.length=l.length/\ch es aB 0=h/\ey es oH 0=mQ/\
  ∀j o,l[j]? =some o->∃e call,es[j]? =some e/\(gJ P call/\gV P call)/\(cB P aw all o).run call e.r e.h=.val e.v (ch es aB (j+1))/\ey es oH (j+1)=(fI o.dst).run e.r e.v
 | [],mQ,h,K,H,aT=>⟨[],mQ,h,H,⟨aT,rfl⟩,rfl,rfl,rfl,fun j o bC=>by simp at bC⟩
 | o::os,mQ,h,K,H,aT=>by
   simp only [zk,ks] at H;obtain ⟨call,v,U,au,aH,H1,cS⟩:=bs.zH H;rw [<-Lq] at H1;obtain ⟨es,oH,aB,aj,an,aJ,bE,cO,en⟩:=Wf os _ U _ H1 (by rw [Lq];exact aT.set aH v);refine ⟨⟨mQ,h,v⟩::es,oH,aB,aj,⟨an.1,an.2.trans (by rw [Lq];exact Cv aH v)⟩,by simp [aJ],by simp [ch],by simp [ey],fun j b_ bC=>?_⟩;cases j with
   | zero=>
     simp only [apH,apq] at bC;subst bC;exact ⟨⟨mQ,h,v⟩,call,rfl,au,by rw [yl,bE];exact cS mQ rfl,by rw [zi,cO]⟩
   | succ j=>
     obtain ⟨e,c,cg,ck,ek,ir⟩:=en j b_ (by simpa using bC);exact ⟨e,c,by simpa using cg,ck,by rw [yl];exact ek,by rw [zi];exact ir⟩
theorem Nf {o:Option bs} {e:Option fQ} {es:List fQ} {aB:ae}:∀{bl:List Nat},sn P o e es aB bl->∀s ∈ bl,∃b_ c6,o=some b_/\e=some c6/\b_.wp P c6.r (ym es aB s) fun _ b1 _=>b1=c6.v
 | [],_,s,h=>by simp at h
 | gy::bl,H,s,hm=>by
   simp only [sn] at H;simp only [apI] at hm;rcases hm with rfl | hm
   . cases o with
     | none=>exact H.1.elim
     | some o=>
       cases e with
       | none=>exact H.1.elim
       | some e=>exact ⟨o,e,rfl,rfl,H.1⟩
   . exact Nf H.2 s hm
theorem Nh {ops:List Oper} {dX aF eC:List Nat} {gs:List bs} {es:List fQ} {aB:ae}:∀{l:List Oper} {i:Nat},pG P gs es aB (xO P ops dX aF eC i l)->∀j o,l[j]? =some o->looks o.op=true->e4 P o.op=false->
 sn P gs[posOf aF (i+j)]? es[posOf aF (i+j)]? es aB (eC.filter (s6 P dX ops aF (i+j) ((dX[i+j]?).getD 0)))
 | [],i,_,j,o,h,_,_=>by simp at h
 | b_::os,i,H,j,o,h,U,ab=>by
   simp only [xO] at H;cases j with
   | zero=>
     simp only [apH,apq] at h;subst h;rw [U,ab] at H;simp only [Bool.not_false,aqn,apt,pG] at H;exact H.1
   | succ j=>
     have gm:pG P gs es aB (xO P ops dX aF eC (i+1) os):=by
      cases au:(looks b_.op&&!e4 P b_.op) with
      | true=>rw [au] at H;simp only [apt,pG] at H;exact H.2
      | false=>rw [au] at H;exact H
     have:=Nh gm j o (by simpa using h) U ab;rw [show i+1+j=i + (j+1) from by omega] at this;exact this
theorem aa5 (fr:aw<=top) (cJ:P.follows .mixedOrders=true) (bK:ep P) {id:Nat} {ops:Array Oper} {order aF:List Nat} {r:bd} {h:ae} {Q:cP->bd->ae->Prop} (aT:Out aw r)
 (H:fm P (F6 P aw ops order aF) r h Q):∃bb aa,Q .normal bb aa/\(Out aw bb/\bb eK=r eK)/\CN P aw (.region id ops true) r h .normal bb aa:=by
 unfold F6 at H;cases aB:(lA ops.size order aF&&vS P ops aF) with
 | false=>rw [aB] at H;exact H.elim
 | true=>
   rw [aB] at H;simp only [apt,fm] at H;simp only [apn] at aB;obtain ⟨hI,hi⟩:=aB;unfold lA at hI;simp only [apn,apT] at hI;obtain ⟨o4,yt,Bh,Bi⟩:=hI;have iu:∀k,k<ops.size->posOf aF k<ops.size/\order[posOf aF k]? =some k:=by
    intro k aA;have aG:aF[k]? =some (posOf aF k):=by unfold posOf;rw [apo (by omega)];rfl
    have:=uW Bh aG;rw [apX] at this;exact ⟨by have:=(apL.1 this).1;omega,this⟩
   have ly:∀p,p<ops.size->∃i,i<ops.size/\posOf aF i=p:=by intro p ai;have aG:order[p]? =some (order[p]'(by omega)):=apo (by omega);have:=uW Bi aG;rw [apX] at this;refine ⟨order[p]'(by omega),by have:=(apL.1 this).1;omega,?_⟩;unfold posOf;rw [this];rfl
   obtain ⟨mQ,Et⟩:=x7 aT;rw [<-Et] at H aT;obtain ⟨es,oH,a7,⟨AY,cw⟩,⟨qa,R8⟩,aj,an,aJ,bE⟩:=Wf _ mQ h _ H aT;refine ⟨_,a7,cw,⟨qa,by rw [<-Et];exact R8⟩,fun rd az E a w aD k s de IZ=>?_⟩;have step:∀i:Nat,∃call,(gJ P call/\gV P call)/\∀o,ops[i]? =some o->∃e,es[posOf aF i]? =some e/\(cB P aw ops o).run call e.r e.h=.val e.v (ch es a7 (posOf aF i+1))/\ey es oH (posOf aF i+1)=(fI o.dst).run e.r e.v:=by
    intro i;cases ax:ops[i]? with
    | none=>exact ⟨lx,Fv P,fun o h=>by cases h⟩
    | some o=>
      obtain ⟨e,call,cg,ck,ek,ir⟩:=bE _ o (nr (iu i (apr.1 ax).1).2 ax);exact ⟨call,ck,fun b_ hl=>by cases hl;exact ⟨e,cg,ek,ir⟩⟩
   obtain ⟨calls,yi⟩:=Classical.axiomOfChoice step;have ui:∀j o,ops[j]? =some o->looks o.op=true->e4 P o.op=false->∃e,es[posOf aF j]? =some e/\∀s ∈ hL P aF 0 ops.toList,
    s6 P (eP [] ops.toList) ops.toList aF j (((eP [] ops.toList)[j]?).getD 0) s=true->∃c aa,(gJ P c/\gV P c)/\(cB P aw ops o).run c e.r (ch es a7 s)=.val e.v aa:=by
    intro j o rp dZ ady;have bC:=(apr.1 rp).1;obtain ⟨e,cg,ck,ek⟩:=(yi j).2 o rp;refine ⟨e,cg,fun s aW hm=>?_⟩;cases ar:sk P ops.toList with
    | true=>
      rw [ar] at AY;simp only [apt] at AY;have:=Nh AY j o (by simpa using rp) dZ ady;rw [apX] at this;obtain ⟨b_,c6,bU,z2,z3⟩:=Nf this s (aq7.2 ⟨aW,hm⟩);rw [U5,aqb,nr (iu j bC).2 rp] at bU;simp only [aqO,apq] at bU;rw [aqb,cg] at z2;simp only [aqO,apq] at z2;subst bU;subst z2;rw [adt] at z3;obtain ⟨c,v,aa,eR,_,y3,y4⟩:=bs.zH z3;have Wj:=y4 e.r rfl;rw [show v=e.v from y3] at Wj;exact ⟨c,aa,eR,Wj⟩
    | false=>
      have none:∀(l:List Oper),sk P l=false->∀(j:Nat) (o:Oper),l[j]? =some o->e4 P o.op=false:=by
       intro l
       induction l with
       | nil=>intro _ j o h;simp at h
       | cons x l bh=>
         intro h j o aT;simp only [sk,aro] at h;cases j with
         | zero=>simp only [apH,apq] at aT;subst aT;exact h.1
         | succ j=>exact bh h.2 j o (by simpa using aT)
      have jA:s=ops.size:=by
       rcases uL aW with h | ⟨E8,b_,U,ab,aI⟩
       . simpa using h
       . have:=none _ ar E8 b_ U;unfold ej at ab;rw [this] at ab;cases ab
      have flat:∀d,d<=ops.size->ch es a7 d=ch es a7 0:=by
       intro d
       induction d with
       | zero=>intro _;rfl
       | succ d bh=>
         intro aH;obtain ⟨i,ur,nY⟩:=ly d (by omega);have cx:ops[i]? =some ops[i]:=apK ur;obtain ⟨abf,bP,bH,_⟩:=(yi i).2 ops[i] cx;rw [nY] at bP bH;have cT:e4 P ops[i].op=false:=none _ ar i _ (by simp);rw [(vR cT bH).1,<-bh (by omega)];simp [ch,bP]
      have RY:=(iu j bC).1;have:e.h=ch es a7 s:=by rw [jA,flat ops.size (aps _),<-flat (posOf aF j) (by omega)];simp [ch,cg]
      rw [<-this];exact ⟨_,_,(yi j).1,ck⟩
   have hlen:es.length=ops.size:=by rw [aj,qs,o4]
   have C:Cert P aw ops calls es mQ h oH a7 (hL P aF 0 ops.toList) order aF ops.size ops.size false:=
    ⟨hlen,aps _,aps _,iu,ly,an,aJ,fun i o cx _=>(yi i).2 o cx,
      fun i o cx=>by
       obtain ⟨cN,bU,z2,z3⟩:=P2 hi i o cx
       exact ⟨cN,bU,z2,fun _ k ok aA _=>by
        obtain ⟨mk,eR,hc,y3⟩:=z3 k ok aA
        exact ⟨mk,eR,hc,fun av aK bF=>.inl (y3 av aK bF)⟩⟩,
      by simpa using Fe (P:=P) (aF:=aF) (l:=ops.toList) (i:=0),
      fun j o U ab=>by simpa using yR (aF:=aF) (i:=0) (j:=j) (l:=ops.toList) (by simpa using U) ab,
      fun s aW=>by
       rcases uL aW with h | ⟨j,o,U,ab,aI⟩
       . exact .inl (.inl (by simpa using h))
       . exact .inr ⟨j,o,by simpa using U,ab,by simpa using aI⟩,
      fun j o U ab aI _=>ui j o U ab aI,fun h=>absurd h (aqP _),fun h=>absurd h (aqP _)⟩
   have aA:RegRel0 E aw mQ a:=⟨k.size,fun t aE=>by have:=congrFun Et t;simp only [ed] at this;rw [this];exact k.ak t (rH aE)⟩;have dC:∀k,¬(Array.replicate ops.size false).getD k false=true:=by
    intro k;rw [ud,Array.getElem?_replicate]
    split<;>simp
   have kc:Holds az az es a7 aF (j3 ops es a7 aF (Array.replicate ops.size false) 0):=
    ⟨rfl,fun _ _=>rfl,fun k aA=>(by obtain ⟨_,_,_,_,aY⟩:=aA;omega),fun k bp aA=>(by obtain ⟨_,_,_,_,aY⟩:=aA;omega)⟩
   obtain ⟨gy,dA,g1,g2,g3,g4,g5,g6⟩:=C.advance ops.size 0 (by omega) (fun k o _ _ _=>dC k) az kc (E:=E) (w:={w with drawn:=w.drawn}) (by rw [an];exact s.same rfl rfl rfl rfl);have gj:ed oH eK=r eK:=by rw [<-Et];exact R8
   have fin:∀ay bk w',E.le ay->RegRel0 ay aw oH bk->bk.defers=a.defers->ba az ay a7 w'->de .normal bk w':=by
    intro ay bk w' bU z2 anH z3;refine IZ ay bk w' bU ⟨z2.size,by rw [gj,anH];exact k.defers.mono bU,fun t ff=>?_⟩ z3;by_cases aE:t<=top
    . exact z2.ak t aE
    . have cn:=z2.size;rw [qa t (by omega) ff];simp [Rel]
   refine Wc cJ (P4 bK (fun i=>(yi i).1.1) (fun i=>(yi i).1.2) C (gz:=E) (D:=a.defers) (fun _=>fin)
    (fun _ _ _ _ _ _ _ h=>absurd h (aqP _)) (fun h=>absurd h (aqP _)) ops.size _ a _ ?_ ?_)
   . exact aqc ary (by simp)
   . refine ⟨by simp,aA.size,rfl,fun bp aA=>absurd aA (dC bp),fun bp o e aA=>absurd aA (dC bp),E,gy,dA,Env.le.refl E,g1,g3,fun bp o U ab=>⟨fun h=>absurd h (dC bp),fun h=>by have:=g4 bp o U ab (aqL _);omega⟩,
      fun bp o _ _ h=>absurd h (dC bp),g5,?_,fun t aE=>.inr ⟨fun bp o aA=>absurd aA (dC bp),aA.ak t aE⟩⟩
     exact g6.same rfl rfl rfl rfl
theorem abA {rd:Option Nat} {e:cP} {Q:Exit->Act->World->Prop} {a:Act} {w:World} (h:Q (toExit e) a w):(Iy e).wpIn (cc rd) 0 P Q a w:=by
 cases e with
 | normal=>exact wpIn_skip h
 | exit id=>exact wpIn_exit h
 | ret=>exact wpIn_ret h
theorem ak2 (fr:aw<=top) (cJ:P.follows .mixedOrders=true) (bK:ep P) {f:Operand} {bn:Array Tmp} {x y:Code} {r:bd} {h:ae} {Q:cP->bd->ae->Prop} (aT:Out aw r)
 (H:fm P (eF P aw (.rangeFunc f bn x y)) r h Q):∃e bb aa,Q e bb aa/\(Out aw bb/\((eF P aw (.rangeFunc f bn x y)).plain=true->bb eK=r eK))/\CN P aw (.rangeFunc f bn x y) r h e bb aa:=by
 simp only [eF] at H ⊢;cases hi:(tf aw bn.toList&&(noMark x&&noMark y)) with
 | false=>rw [hi] at H;exact H.elim
 | true=>
   rw [hi] at H;simp only [apt,fm] at H ⊢;simp only [apn] at hi;obtain ⟨g,cs,bA,aG,sI,H⟩:=H;obtain ⟨cQ,dM⟩:=x7 aT;obtain ⟨v,aa,cf,e',av,aK,cw⟩:=H ⟨0,none,aC h.next,aw,cQ,bn.toList,x,y⟩ ⟨rfl,dM,rfl,rfl,rfl,hi.1,hi.2.1,hi.2.2,aT⟩ rfl rfl;refine ⟨_,_,_,cw,⟨fun t U ab=>by simp only [bd.set];rw [apu ab];exact aT t U ab,fun z=>by cases z⟩,fun rd az E a w aD k s de IZ=>?_⟩;have aeB:rd=none:=aD.resolve_right (by simp [noMark]);subst aeB;have aB:Rel E (.func g cs) (a.eval f):=by
    rw [<-bA];cases f with
    | tmp t=>
      simp only [rx];cases ah:Nat.ble t top with
      | false=>simp [aU.aQ,Rel]
      | true=>
        simp only [apt,aU.aQ];exact k.ak t (rH (ap4 ah))
    | const v=>exact ta E v
    | func f=>
      simp only [rx];cases ah:Nat.beq f dv with
      | true=>simp [aU.aQ,Rel]
      | false=>
        simp only [apA,aU.aQ,Rel];exact .inl ⟨fun e=>by subst e;simp at ah,_,rfl,by simp [bg]⟩
    | global g=>simp [rx,aU.aQ,Rel]
   simp only [Rel] at aB;rcases aB with ⟨_,eT,dn,ar⟩ | ⟨Jm,_⟩
   case inr=>exact absurd Jm aG
   refine (wpIn_rangeFunc fun fn _=>?_:(Code.rangeFunc f bn x y).wpIn (cc none) 0 P de a w);have f0:=s.fresh h.next (aps _)
   obtain ⟨gK,wc⟩:∃gK,gK=E.put (aC h.next) ⟨w.heap.size,0,0⟩:=⟨_,rfl⟩;obtain ⟨bP,qg⟩:∃bP:World,bP={w with heap:=w.heap.push (.deferred (some []))}:=⟨_,rfl⟩;have Bn:gK (aC h.next)=some ⟨w.heap.size,0,0⟩:=by rw [wc];unfold Env.put;rw [apB rfl]
   have s1:ba az gK (h.new .hC) bP:=by rw [wc,qg];refine s.alloc 0 ⟨⟨w.heap.size,0,0⟩,by unfold Env.put;rw [apB rfl],s.frame.size,by simp⟩
   have pc:E.le gK:=by rw [wc];exact Env.mC f0
   have wK:bP.heap.size=w.heap.size+1:=by rw [qg];simp
   obtain ⟨o,hl⟩:∃o:Loop,o={state:=.ready,pending:=none,fn,tmps:=a.tmps,params:=bn,assign:=x,body:=y,defers:=w.heap.size}:=⟨_,rfl⟩;obtain ⟨bM,lh⟩:∃bM,bM=gK.put (aC (h.next+1)) ⟨bP.heap.size,0,0⟩:=⟨_,rfl⟩;obtain ⟨bH,ux⟩:∃bH:World,bH={bP with heap:=bP.heap.push (.loop o)}:=⟨_,rfl⟩;have f1:gK (aC (h.next+1))=none:=s1.fresh (h.next+1) (aps _);have lY:gK.le bM:=by rw [lh];exact Env.mC f1
   have Bo:bM (aC (h.next+1))=some ⟨bP.heap.size,0,0⟩:=by rw [lh];unfold Env.put;rw [apB rfl]
   have fz:vu bM ⟨0,none,aC h.next,aw,cQ,bn.toList,x,y⟩ o:=by subst hl;refine ⟨rfl,rfl,rfl,rfl,rfl,k.size,fun t aE=>?_,_,lY _ _ Bn,rfl⟩;have:=congrFun dM t;simp only [ed] at this;simp only [this];exact Rel.mono (pc.trans lY) _ _ (k.ak t (rH aE))
   have s2:ba az bM ((h.new .hC).new (.fz ⟨0,none,aC h.next,aw,cQ,bn.toList,x,y⟩)) bH:=by rw [lh,ux];refine s1.alloc 0 ⟨⟨bP.heap.size,0,0⟩,o,by show gK.put (aC (h.next+1)) _ (aC (h.next+1))=_;unfold Env.put;rw [apB rfl],by show az.w.heap.size<=bP.heap.size;rw [wK];have:=s.frame.size;omega,by simp,?_⟩;have:=fz;rw [lh] at this;exact this
   obtain ⟨h3,p7⟩:∃h3,h3=bP.heap.size:=⟨_,rfl⟩;have a8:Rel bM (.func dv [.ptr (aC (h.next+1)) 0]) (.func (.yield h3) #[] #[]):=by simp only [Rel];exact .inr ⟨trivial,_,_,rfl,Bo,by rw [p7]⟩
   have pW:bg bM (.func dv [.ptr (aC (h.next+1)) 0]::cs) (.func (.yield h3) #[] #[]::eT.toList):=by simp only [bg];exact ⟨_,_,rfl,a8,bg.mono (pc.trans lY) _ _ ar⟩
   have au:Calls P g (Value.func (Fn.yield h3) #[] #[]::eT.toList).toArray bH (rangePost (cc none) 0 P h3 de {a with defers:=[{target:=.collected w.heap.size,args:=#[]}]++a.defers}):=(cf.calls bK sI az bM bH _ pW s2).mono fun e w' aq=>by
    obtain ⟨ay,api,rfl,aj,_,aJ⟩:=aq;simp only [rangePost];have dj:=aj _ _ Bo;have ah:=aJ.at dj;rw [av] at ah;obtain ⟨p',b_,hn,cC,a7,rq⟩:=ah;rw [dj] at hn;cases hn;obtain ⟨t1,t2,t3,t4,t5,t6,t7,t8⟩:=rq;simp only at a7;rw [<-p7] at a7;have JI:(b_.state == LoopState.busy)=false:=by
     rw [t1]
     match jR:e'.st with
     | 0=>rfl
     | 1=>exact absurd jR aK
     | n+2=>rfl
    have kN:=(apr.1 a7).1
    let hR:World:={w' with heap:=w'.heap.setIfInBounds h3 (.loop {b_ with state:=.exhausted})}
    have gg:(Instr.endLoop h3).run P w'=.ok b_.pending hR:=by
     have qf:(setObj h3 (.loop {b_ with state:=.exhausted})).run P w'=.ok () hR:=by simp only [setObj,Sem.run,a7];rfl
     simp only [Instr.endLoop,Sem.run_bind,run_getLoop a7,Result.andThen_ok,JI,apG,ap2,qf,Sem.run_pure]
    have oo:ba az ay (aa.set (aC (h.next+1)) .dead) hR:=by refine aJ.gone (p:=⟨bP.heap.size,0,0⟩) (by rw [av];rfl) dj cC (by simp [hR]) (fun j bC=>?_) rfl rfl rfl;simp only at bC;simp only [hR,apJ];rw [apu (fun e=>bC (by rw [<-e,p7]))]
    have f_:hy ay aw (r.set (some eK) (.tuple (.ptr (aC h.next) 0::(r eK).list))) {a with defers:=[{target:=.collected w.heap.size,args:=#[]}]++a.defers}:=by
     refine ⟨k.size,?_,fun t aE=>?_⟩
     . simp only [bd.set,ap0,lE,nF,ap3,aql];exact ⟨_,_,rfl,⟨_,aj _ _ (lY _ _ Bn),rfl⟩,(k.defers.mono (pc.trans (lY.trans aj))).list⟩
     . simp only [bd.set];rw [apu aE];exact Rel.mono (pc.trans (lY.trans aj)) _ _ (k.ak t aE)
    refine ⟨b_.pending,hR,gg,?_⟩;rw [t2];have fin:=IZ ay _ hR (pc.trans (lY.trans aj)) f_ oo;cases iS:e'.ht with
    | none=>rw [iS] at fin;exact fin
    | some e=>rw [iS] at fin;exact abA fin
   obtain ⟨Ek,adJ,sI⟩:=sI;refine ⟨h3,[{target:=.collected w.heap.size,args:=#[]}],bH,{target:=.fn (.func g) eT,args:=#[]++#[.func (.yield h3) #[] #[]]},bH,g,_,bH,?_,?_,fun _ _=>trivial,?_,fun h=>by simp at h,sz.2 au⟩
   . subst hl ux qg;have he:=run_enterLoop_outer (P:=P) (w:=w) fn a.tmps bn x y;rw [World.alloc,World.alloc] at he;simp only [Array.size_push] at p7 ⊢;rw [p7];exact he
   . simp only [resolve,dn,Deferred.ofValue,Sem.run_pure];simp [Act.eval]
   . simp only [invoke];have e:(#[]++#[Value.func (.yield h3) #[] #[]]:Array Value)++eT=(Value.func (.yield h3) #[] #[]::eT.toList).toArray:=by apply arc;simp
     rw [e];exact u4 bK adJ sI _ bH
theorem Wd (fr:aw<=top) (cJ:P.follows .mixedOrders=true) (bK:ep P):∀(c:Code) (r:bd) (h:ae) (Q:cP->bd->ae->Prop),Out aw r->fm P (eF P aw c) r h Q->
 ∃e bb aa,Q e bb aa/\(Out aw bb/\((eF P aw c).plain=true->bb eK=r eK))/\CN P aw c r h e bb aa:=by
 intro c
 induction c with
 | skip=>
   intro r h Q aT H;exact ⟨.normal,r,h,H,⟨aT,fun _=>rfl⟩,fun rd az E a w aD k s de cw=>wpIn_skip (cw E a w (Env.le.refl E) k s)⟩
 | label l=>
   intro r h Q aT H;exact ⟨.normal,r,h,H,⟨aT,fun _=>rfl⟩,fun rd az E a w aD k s de cw=>wpIn_label (cw E a w (Env.le.refl E) k s)⟩
 | exit id=>
   intro r h Q aT H;exact ⟨.exit id,r,h,H,⟨aT,fun _=>rfl⟩,fun rd az E a w aD k s de cw=>wpIn_exit (cw E a w (Env.le.refl E) k s)⟩
 | ret=>
   intro r h Q aT H;exact ⟨.ret,r,h,H,⟨aT,fun _=>rfl⟩,fun rd az E a w aD k s de cw=>wpIn_ret (cw E a w (Env.le.refl E) k s)⟩
 | region id ops draw=>
   intro r h Q aT H;cases draw with
   | true=>
     simp only [eF,apt] at H;obtain ⟨bb,aa,aj,an,aJ⟩:=aa5 fr cJ bK (id:=id) aT H;exact ⟨.normal,bb,aa,aj,⟨an.1,fun _=>an.2⟩,aJ⟩
   | false=>
     simp only [eF,apA,fm] at H;obtain ⟨bb,aa,aj,an,aJ⟩:=Wg bK ops.toList 0 (fun j=>by simp) r h _ aT H;refine ⟨.normal,bb,aa,aj,⟨an.1,fun _=>an.2⟩,fun rd az E a w aD k s de cw=>?_⟩;refine wpIn_region ?_;have:=aJ rd az E a w k s de cw;rw [List.range_eq_range'];simpa using this
 | seq x y qh qi=>
   intro r h Q aT H;simp only [eF,fm] at H;obtain ⟨e,a',U,aj,an,aJ⟩:=qh r h _ aT H;cases e with
   | normal=>
     obtain ⟨e,cG,ab,cg,ck,ek⟩:=qi a' U Q an.1 aj;refine ⟨e,cG,ab,cg,⟨ck.1,fun z=>by simp only [eF,aX.plain,apn] at z;exact (ck.2 z.2).trans (an.2 z.1)⟩,fun rd az E a w aD k s de cw=>?_⟩;refine wpIn_seq (aJ rd az E a w (aD.imp (fun h=>h) fun h=>by simp only [noMark,apn] at h;exact h.1) k s _ fun ay bk w' bU z2 z3=>?_).wp;exact (ek rd az ay bk w' (aD.imp (fun h=>h) fun h=>by simp only [noMark,apn] at h;exact h.2) z2 z3 de fun bM a2 bH eR hc y3=>cw bM a2 bH (bU.trans eR) hc y3).wp
   | exit i=>
     refine ⟨.exit i,a',U,aj,⟨an.1,fun z=>by simp only [eF,aX.plain,apn] at z;exact an.2 z.1⟩,fun rd az E a w aD k s de cw=>?_⟩;refine wpIn_seq (aJ rd az E a w (aD.imp (fun h=>h) fun h=>by simp only [noMark,apn] at h;exact h.1) k s _ fun ay bk w' bU z2 z3=>?_).wp;exact cw ay bk w' bU z2 z3
   | ret=>
     refine ⟨.ret,a',U,aj,⟨an.1,fun z=>by simp only [eF,aX.plain,apn] at z;exact an.2 z.1⟩,fun rd az E a w aD k s de cw=>?_⟩;refine wpIn_seq (aJ rd az E a w (aD.imp (fun h=>h) fun h=>by simp only [noMark,apn] at h;exact h.1) k s _ fun ay bk w' bU z2 z3=>?_).wp;exact cw ay bk w' bU z2 z3
 | cond c x y qh qi=>
   intro r h Q aT H;simp only [eF,fm] at H;cases bA:(rx c).aQ r<;>rw [bA] at H<;>simp only at H<;>try (exact H.elim)
   rename_i t;have au:∀E a,hy E aw r a->a.eval c=.bool t:=by
    intro E a k;cases c with
    | tmp d=>
      simp only [rx] at bA;cases ah:Nat.ble d top with
      | false=>rw [ah] at bA;simp [aU.aQ] at bA
      | true=>
        rw [ah] at bA;simp only [apt,aU.aQ] at bA;have:=k.ak d (rH (ap4 ah));rw [bA] at this;simp only [Rel] at this;exact this
    | const v=>
      simp only [rx,aU.aQ] at bA;have:=ta E v;rw [bA] at this;simp only [Rel] at this;exact this
    | func f=>
      simp only [rx] at bA;cases ah:Nat.beq f dv<;>rw [ah] at bA<;>simp [aU.aQ] at bA
    | global g=>simp [rx,aU.aQ] at bA
   cases t with
   | true=>
     obtain ⟨e,a',U,aj,an,aJ⟩:=qh r h Q aT (H.1 rfl);exact ⟨e,a',U,aj,⟨an.1,fun z=>by simp only [eF,aX.plain,apn] at z;exact an.2 z.1⟩,fun rd az E a w aD k s de cw=>wpIn_cond_true (au E a k) (aJ rd az E a w (aD.imp (fun h=>h) fun h=>by simp only [noMark,apn] at h;exact h.1) k s de cw).wp⟩
   | false=>
     obtain ⟨e,a',U,aj,an,aJ⟩:=qi r h Q aT (H.2 rfl);exact ⟨e,a',U,aj,⟨an.1,fun z=>by simp only [eF,aX.plain,apn] at z;exact an.2 z.2⟩,fun rd az E a w aD k s de cw=>wpIn_cond_false (au E a k) (aJ rd az E a w (aD.imp (fun h=>h) fun h=>by simp only [noMark,apn] at h;exact h.2) k s de cw).wp⟩
 | block id x bh=>
   intro r h Q aT H;simp only [eF,fm] at H;obtain ⟨e,a',U,aj,an,aJ⟩:=bh r h _ aT H;refine ⟨e.leave id,a',U,aj,an,fun rd az E a w aD k s de cw=>?_⟩;refine wpIn_block (aJ rd az E a w (aD.imp (fun h=>h) fun h=>h) k s _ fun ay bk w' bU z2 z3=>?_).wp;cases e with
   | normal=>exact cw ay bk w' bU z2 z3
   | ret=>exact cw ay bk w' bU z2 z3
   | exit i=>
     have:=cw ay bk w' bU z2 z3;simp only [toExit,Exit.inBlock];simp only [cP.leave] at this;by_cases ax:i=id
     . rw [apB ax] at this ⊢;exact this
     . rw [apu ax] at this ⊢;exact this
 | loop x bh=>
   intro r h Q aT H;simp only [eF,fm] at H;obtain ⟨I,μ,nX,J1⟩:=H;have key:∀n r h,μ r h=n->I r h->Out aw r->∃e bb aa,Q e bb aa/\(Out aw bb/\((eF P aw (.loop x)).plain=true->bb eK=r eK))/\CN P aw (.loop x) r h e bb aa:=by
    intro n
    induction n using Nat.strongRecOn with
    | _ n Kf=>
      intro r h aV nX aT;obtain ⟨e,a',U,aj,an,aJ⟩:=bh r h _ aT (J1 r h nX);have body:∀(rd:Option Nat) (az:Fr) E a w,(rd=none\/noMark x=true)->hy E aw r a->ba az E h w->∀(b:Frame) (cY:List Item) (cs:List Frame),b.roundOf=rd->∃bk w' ay,E.le ay/\hy ay aw a' bk/\ba az ay U w'/\ArrivesIn (Machine.fenced P (cc rd)) P (lone (b.atR a (.code x::.inLoop x::cY)) cs w) b (.inLoop x::cY) cs (toExit e) bk w':=by intro rd az E a w aD k s b cY cs kf;have:=(aJ rd az E a w aD k s (fun c6 bk w'=>c6=toExit e/\∃ay,E.le ay/\hy ay aw a' bk/\ba az ay U w') (fun ay bk w' aj an aJ=>⟨rfl,ay,aj,an,aJ⟩)).wp b (.inLoop x::cY) cs kf trivial (F9 _);obtain ⟨aK,a2,bH,⟨rfl,bM,bU,z2,z3⟩,iA⟩:=this;exact ⟨a2,bH,bM,bU,z2,z3,iA⟩
      cases e with
      | normal=>
        obtain ⟨IV,aL⟩:=aj;obtain ⟨aK,cG,ab,cg,ck,ek⟩:=Kf (μ a' U) (aV ▸ aL) a' U rfl IV an.1;refine ⟨aK,cG,ab,cg,⟨ck.1,fun z=>(ck.2 z).trans (an.2 z)⟩,fun rd az E a w aD k s de cw b cY cs kf=>?_⟩;obtain ⟨a2,bH,bM,bU,z2,z3,iA⟩:=body rd az E a w (aD.imp (fun h=>h) fun h=>h) k s b cY cs kf;obtain ⟨bF,a3,k6,eR,hc⟩:=ek rd az bM a2 bH aD z2 z3 de (fun jK a4 hR t1 t2 t3=>cw jK a4 hR (bU.trans t1) t2 t3) b cY cs kf;exact ⟨bF,a3,k6,eR,.of_steps (StepsIn.trans iA (.one (pS _) stepR_inLoop)) hc⟩
      | exit i=>
        refine ⟨.exit i,a',U,aj,an,fun rd az E a w aD k s de cw b cY cs kf=>?_⟩;obtain ⟨a2,bH,bM,bU,z2,z3,iA⟩:=body rd az E a w (aD.imp (fun h=>h) fun h=>h) k s b cY cs kf;exact ⟨.exit i,a2,bH,cw bM a2 bH bU z2 z3,.pass (x:=.inLoop x) rfl (fun _ _=>.inl (by simp)) iA⟩
      | ret=>
        refine ⟨.ret,a',U,aj,an,fun rd az E a w aD k s de cw b cY cs kf=>?_⟩;obtain ⟨a2,bH,bM,bU,z2,z3,iA⟩:=body rd az E a w (aD.imp (fun h=>h) fun h=>h) k s b cY cs kf;exact ⟨.ret,a2,bH,cw bM a2 bH bU z2 z3,.pass (x:=.inLoop x) rfl (fun _ _=>.inl (by simp)) iA⟩
   exact key _ r h rfl nX aT
 | scope x bh=>
   intro r h Q aT H;obtain ⟨e,a',U,aj,an,aJ⟩:=bh r h Q aT H;refine ⟨e,a',U,aj,an,fun rd az E a w aD k s de cw=>?_⟩;refine LN (aJ rd az E a w (aD.imp (fun h=>h) fun h=>h) k s _ fun ay bk w' bU z2 z3=>?_).wp;have:=cw ay bk w' bU z2 z3;cases e<;>exact this
 | rangeFunc f bn x y _ _=>intro r h Q aT H;exact ak2 fr cJ bK aT H
 | goto l=>intro r h Q aT H;exact H.elim
 | refuse Wa=>intro r h Q aT H;exact H.elim
inductive tO where
 | t (n:Nat)
 | bQ (n:Nat)
 | pK (n size:Nat)
 | bad
def om (P:Program) (aw:Nat):List ResultVar->List tO
 | []=>[]
 | .tmp t::rs=>(bif Nat.ble t top&&Nat.blt t aw then .t t else .bad)::om P aw rs
 | .cell a t::rs=>(bif Nat.ble a top&&Nat.blt a aw then (match bc P t with
   | none=>.bad
   | some aP=>bif aP.agg then .pK a aP.size else bif Nat.beq aP.size 1 then .bQ a else .bad) else .bad)::om P aw rs
def lf (r:bd) (h:ae):List tO->Option (List V)
 | []=>some []
 | x::xs=>match (match x with
   | .t n=>some (r n)
   | .bQ n=>nn h (r n)
   | .pK n size=>nm size h (r n)
   | .bad=>none) with
   | none=>none
   | some v=>match lf r h xs with
     | none=>none
     | some af=>some (v::af)
theorem AN {r:bd} {h:ae} {cQ:bI} (dM:ed cQ=r):∀{l:List ResultVar} {af:List V},lf r h (om P aw l)=some af->(k2 P aw l).run cQ h=some af
 | [],af,he=>by simpa [lf,om,k2] using he
 | .tmp t::rs,af,he=>by
   simp only [om,lf] at he;unfold k2;cases au:(Nat.ble t top&&Nat.blt t aw) with
   | false=>rw [au] at he;simp at he
   | true=>
     rw [au] at he;simp only [apt] at he ⊢;cases aD:lf r h (om P aw rs) with
     | none=>rw [aD] at he;cases he
     | some xh=>
       rw [aD] at he;rw [AN dM aD];have:=congrFun dM t;simp only [ed] at this;rw [this];exact he
 | .cell a t::rs,af,he=>by
   simp only [om,lf] at he;unfold k2;cases au:(Nat.ble a top&&Nat.blt a aw) with
   | false=>rw [au] at he;simp at he
   | true=>
     rw [au] at he;simp only [apt] at he ⊢;have R3:=congrFun dM a;simp only [ed] at R3;rw [R3];unfold qp;cases aE:bc P t with
     | none=>rw [aE] at he;simp at he
     | some aP=>
       rw [aE] at he;simp only at he ⊢;cases Re:aP.agg with
       | true=>
         rw [Re] at he;simp only [apt] at he ⊢;cases ar:nm aP.size h (r a) with
         | none=>rw [ar] at he;cases he
         | some v=>
           rw [ar] at he;simp only at he ⊢;cases aD:lf r h (om P aw rs) with
           | none=>rw [aD] at he;cases he
           | some xh=>rw [aD] at he;rw [AN dM aD];exact he
       | false=>
         rw [Re] at he;simp only [apA] at he ⊢;cases aW:Nat.beq aP.size 1 with
         | false=>rw [aW] at he;simp at he
         | true=>
           rw [aW] at he;simp only [apt] at he ⊢;cases ar:nn h (r a) with
           | none=>rw [ar] at he;cases he
           | some v=>
             rw [ar] at he;simp only at he ⊢;cases aD:lf r h (om P aw rs) with
             | none=>rw [aD] at he;cases he
             | some xh=>rw [aD] at he;rw [AN dM aD];exact he
theorem wZ:∀(l:List V) (t:Nat),bd.bT l t=(l[t]?).getD .bad
 | [],t=>by simp [bd.bT]
 | v::af,t=>by
   simp only [bd.bT];cases t with
   | zero=>simp
   | succ t=>simp [wZ af t]
def cP.ends:cP->Prop
 | .exit _=>False
 | _=>True
def BP:List V->ae->Option ae
 | [],h=>some h
 | .ptr b _::ds,h=>(match h.get b with
   | .hC=>BP ds (h.set b .dead)
   | _=>none)
 | _::_,_=>none
theorem S8 {kA:vf}:∀{ds:List V} {h ab:ae},BP ds h=some ab->mD kA ds none h=.go none ab
 | [],h,ab,e=>by simp only [BP,apq] at e;subst e;rfl
 | d::ds,h,ab,e=>by
   cases d<;>simp only [BP] at e<;>try (cases e;done)
   rename_i b o;simp only [mD];cases aG:h.get b<;>rw [aG] at e<;>simp only at e<;>try (cases e;done)
   exact S8 e
theorem aaI (cJ:P.follows .mixedOrders=true) (bK:ep P) {f:FuncId} {fn:Func} {c:Code} {args:List V} {h:ae} {K:V->ae->Prop} (aB:P.funcs[f]? =some fn) (ah:fn.body=some c)
 (fr:Nat.ble fn.ntmps top=true) (a8:Nat.beq f dv=false) (lL:Nat.ble args.length fn.ntmps=true) {rc:aX} {eG:List tO} (Bp:eF P fn.ntmps c=rc) (wJ:om P fn.ntmps fn.results.toList=eG) {Q:cP->bd->ae->Prop} (H:fm P rc (bd.bT args) h Q)
 (cw:∀e r aa,(rc.plain=true->r eK=.bad)->Q e r aa->e.ends/\∃ab,BP (r eK).list aa=some ab/\∃af,lf r ab eG=some af/\K (oneOf af) ab):cv P f args h K:=by
 subst Bp wJ;rw [apF] at fr lL;have aT:Out fn.ntmps (bd.bT args):=by intro t aE _;rw [wZ,apS (by omega)];rfl
 have lR:(bd.bT args) eK=.bad:=by rw [wZ,apS (by unfold eK;unfold top at fr;omega)];rfl
 obtain ⟨e,bb,aa,aq,qa,I8⟩:=Wd fr cJ bK c _ h _ aT H;obtain ⟨gg,ab,wC,af,aeY,dL⟩:=cw e bb aa (fun z=>(qa.2 z).trans lR) aq;have hZ:f≠dv:=fun e=>by subst e;simp at a8
 refine ⟨oneOf af,ab,⟨hZ,.inl ⟨⟨fn,aB,by rw [ah];rfl⟩,fun az E w xs ao s=>?_⟩⟩,dL⟩;have hlen:=ao.length;have cn:xs.toArray.size<=fn.ntmps:=by simp;omega
 refine sz.1 (callsIn_of_wp_marks (F:=cc none) (n:=0) aB ah trivial ?_);have k:hy E fn.ntmps (bd.bT args) {tmps:=xs.toArray++Array.replicate (fn.ntmps-xs.toArray.size) undef,defers:=[]}:=by
  refine ⟨by simp;omega,by rw [lR];simp [lE],fun t _=>?_⟩;rw [wZ];cases aG:args[t]? with
  | none=>simp [Rel]
  | some v=>
    obtain ⟨y,a8,aD⟩:=ao.get t v aG;simp only [aqe];have o6:t<xs.length:=(apL.1 a8).1;rw [apO,ara (by simpa using o6)];simp only [List.getElem?_toArray,a8,aqe];exact aD
 have kI:zP P (fun _ _ _ _=>.fail):=fun f args u h e7 aa he=>by cases he
 have fin:∀ay bk w',E.le ay->hy ay fn.ntmps bb bk->ba az ay aa w'->LeavesInM (cc none) 0 P fn bk.tmps (fun e w'=>∃ay x,e=.returned x/\E.le ay/\Rel ay (oneOf af) x/\ba az ay ab w') bk.defers .returning w':=by
  intro ay bk w' aj an aJ;obtain ⟨cQ,dM⟩:=x7 qa.1;have aH:T.get .bad eU cQ=bb eK:=by have:=congrFun dM eK;simp only [ed] at this;exact this
  have aA:fo ay fn.ntmps cQ bk:=⟨⟨an.size,fun t aE=>by
   have:=congrFun dM t;simp only [ed] at this;rw [this]
   exact an.ak t (rH aE)⟩,by rw [aH];exact an.defers⟩
  refine D_ (C:=⟨P,fun _=>none,fun _=>none⟩) (u:=none) bK kI aA rfl aJ ?_;rw [aH,S8 wC];simp only [finish];rw [AN dM aeY];exact fun bM x bH cg ck ek=>⟨bM,x,rfl,aj.trans cg,ck,ek⟩
 refine (I8 none az E _ w (.inl rfl) k s _ fun ay bk w' aj an aJ=>?_).wp;have:=fin ay bk w' aj an aJ;cases e with
 | normal=>exact this
 | ret=>exact this
 | exit i=>exact gg.elim
theorem aaJ (cJ:P.follows .mixedOrders=true) (bK:ep P) {f:FuncId} {fn:Func} {c:Code} {args:List V} {h:ae} {K:V->ae->Prop} (aB:P.funcs[f]? =some fn) (ah:fn.body=some c)
 (fr:Nat.ble fn.ntmps top=true) (a8:Nat.beq f dv=false) (lL:Nat.ble args.length fn.ntmps=true) {rc:aX} {eG:List tO} (Bp:eF P fn.ntmps c=rc) (wJ:om P fn.ntmps fn.results.toList=eG) (dj:rc.plain=true)
 (H:fm P rc (bd.bT args) h fun e r aa=>e.ends/\∃af,lf r aa eG=some af/\K (oneOf af) aa):cv P f args h K:=by
 refine aaI cJ bK aB ah fr a8 lL Bp wJ H fun e r aa aW ⟨U,af,ab,aI⟩=>⟨U,aa,?_,af,ab,aI⟩;rw [aW dj];rfl
end
end
section
open Go Go.RowKit
variable [Lay]
theorem pg (i j:Nat):(aC i=aC j)=(i=j):=by apply propext;exact ⟨h7,fun h=>by rw [h]⟩
theorem akO (af:List V):∀(i off:Nat) (x:V) (t:T V),i<off->T.put .bad x (aC i) (fV t off af)=fV (T.put .bad x (aC i) t) off af:=by
 induction af with
 | nil=>intro i off x t _;rfl
 | cons v af bh=>
   intro i off x t h;simp only [fV];rw [bh i (off+1) x _ (by omega),T.put_comm _ _ _ _ _ _ (fun e=>by rw [pg] at e;omega)]
def hx (af:List V) (off:Nat) (ws:List V):List V:=af.take off++ws++af.drop (off+ws.length)
theorem UL:∀(af:List V) (base i:Nat) (x:V) (t:T V),i<af.length->T.put .bad x (aC (base+i)) (fV t base af)=fV t base (af.set i x)
 | [],_,i,_,_,h=>by simp at h
 | v::af,base,i,x,t,h=>by
   cases i with
   | zero=>
     simp only [fV,aqH,List.set];rw [akO af base (base+1) x _ (by omega),T.UK]
   | succ i=>
     simp only [fV,List.set];have:=UL af (base+1) i x (T.put .bad v (aC base) t) (by simpa using h);rw [show base + (i+1)=base+1+i from by omega];exact this
theorem Vs (af:List V) (off:Nat) (w:V) (ws:List V) (h:off<af.length):hx (af.set off w) (off+1) ws=hx af off (w::ws):=by
 unfold hx;have U:(af.set off w).take (off+1)=af.take off++[w]:=by rw [aqh (by simpa using h)];simp [List.take_set_of_le]
 have ab:(af.set off w).drop (off+1+ws.length)=af.drop (off + (w::ws).length):=by rw [List.drop_set_of_lt (by omega)];congr 1;simp;omega
 rw [U,ab];simp
theorem qF (af:List V) (off:Nat) (ws:List V) (h:off+ws.length<=af.length):(hx af off ws).length=af.length:=by unfold hx;simp;omega
theorem FO:∀(ws af:List V) (off:Nat),off+ws.length<=af.length->fV (fV .e 0 af) off ws=fV .e 0 (hx af off ws)
 | [],af,off,h=>by simp [fV,hx]
 | w::ws,af,off,h=>by simp only [apz] at h;simp only [fV];have U:=UL af 0 off w .e (by omega);rw [apX] at U;rw [U,FO ws (af.set off w) (off+1) (by simp;omega),Vs af off w ws (by omega)]
theorem Eg (af:List V):∀(off i:Nat) (t:T V),T.get .bad (aC (off+i)) (fV t off af)=if i<af.length then (af[i]?).getD .bad else T.get .bad (aC (off+i)) t:=by
 induction af with
 | nil=>intro off i t;simp [fV]
 | cons v af bh=>
   intro off i t;simp only [fV];cases i with
   | zero=>
     have:∀(ws:List V) (o:Nat) (s:T V),off<o->T.get .bad (aC off) (fV s o ws)=T.get .bad (aC off) s:=by
      intro ws
      induction ws with
      | nil=>intro o s _;rfl
      | cons w ws afi=>
        intro o s aT;simp only [fV];rw [afi (o+1) _ (by omega),T.ie,apu (fun e=>by rw [pg] at e;omega)]
     rw [aqH,this af (off+1) _ (by omega),T.ie];simp
   | succ i=>
     have:=bh (off+1) i (T.put .bad v (aC off) t);rw [show off+1+i=off + (i+1) from by omega] at this;rw [this,T.ie];have cT:¬aC off=aC (off + (i+1)):=fun e=>by rw [pg] at e;omega
     rw [apu cT];simp
theorem Ei (af:List V):∀(n i:Nat),i+n<=af.length->hF (fV .e 0 af) i n=(af.drop i).take n
 | 0,i,h=>by simp [hF]
 | n+1,i,h=>by simp only [hF];have U:=Eg af 0 i .e;rw [apX] at U;rw [U,apB (by omega),Ei af n (i+1) (by omega)];have aH:af.drop i=af[i]::af.drop (i+1):=apW (by omega);rw [aH,aqC];simp [apo (by omega:i<af.length)]
def b'.bT (af:List V) (ct:Nat) (st:Bool):b':=.cells af.length (fV .e 0 af) ct st
def b'.ro (af:List V):b':=.view af.length (fV .e 0 af)
def mP (h:ae) (b:aO) (af:List V):Prop:=h.get b=.ro af\/∃ct st,h.get b=.bT af ct st
def Own (h:ae) (b:aO) (af:List V) (ct:Nat) (st:Bool):Prop:=h.get b=.bT af ct st
theorem mP.pr {α:Type} {h:ae} {b:aO} {af:List V} (H:mP h b af) (d:α) (f:Nat->T V->α):(h.get b).pr d f=f af.length (fV .e 0 af):=by rcases H with H | ⟨_,_,H⟩<;>rw [H]<;>rfl
theorem Own.lay {h:ae} {b:aO} {af:List V} {ct:Nat} {st:Bool} (H:Own h b af ct st) {off:Nat} {ws:List V} (aT:off+ws.length<=af.length) (U:e5 ws=true):
 lay h b off ws=some (h.set b (.bT (hx af off ws) ct st)):=by
 unfold aZ.lay;rw [show h.get b=.cells af.length (fV .e 0 af) ct st from H];simp only [b'.on];rw [show Nat.ble (off+ws.length) af.length=true from by rw [apF];exact aT,U];simp only [aqn,apt,apq,b'.bT];rw [qF af off ws aT,FO ws af off aT]
theorem Own.store {h:ae} {b:aO} {af:List V} {ct:Nat} {st:Bool} (H:Own h b af ct st) {off n:Nat} {y:V} (aV:y.cells.length=n) (aT:off+n<=af.length) (U:e5 y.cells=true):
 rW n h (.ptr b off) y=some (h.set b (.bT (hx af off y.cells) ct st)):=by
 simp only [rW,V.iV];rw [show Nat.beq y.cells.length n=true from by rw [apT];exact aV];simp only [apt];exact H.lay (by rw [aV];exact aT) U
theorem TI {h:ae} {af:List V} (ar:af.length<=top):gk h af=some (h.new (.bT af 0 false)):=by unfold gk;rw [show Nat.ble af.length top=true from by rw [apF];exact ar];rfl
theorem B2 {h:ae} {af:List V} {ct:Nat} {st:Bool} (ar:af.length<=top) (he:1<=ct):lv h af ct st=some (h.new (.bT af ct st)):=by unfold lv;rw [show Nat.ble af.length top=true from by rw [apF];exact ar,show Nat.ble 1 ct=true from by rw [apF];exact he];rfl
theorem ga (h:ae) (k:b'):(h.new k).next=h.next+1:=rfl
theorem nq (h:ae) (b:aO) (k:b'):(h.set b k).next=h.next:=rfl
section
variable {P:Program} {r:bd} {h:ae}
theorem alR (r:bd) (d:Nat) (v:V) (t:Nat):bd.set r (some d) v t=if t=d then v else r t:=(rfl)
theorem alS (r:bd) (v:V):bd.set r none v=r:=(rfl)
theorem amP (r:bd) (u:Nat) (us:List Nat) (t:Nat):bd.trim r (u::us) t=if t=u then r t else bd.trim r us t:=(rfl)
theorem ajz (v:V) (af:List V):bd.bT (v::af) 0=v:=(rfl)
theorem ajA (v:V) (af:List V) (t:Nat):bd.bT (v::af) (t+1)=bd.bT af t:=by simp [bd.bT]
theorem aby (r:bd) (n:Nat):aU.aQ r (.t n)=r n:=(rfl)
theorem abx (r:bd) (v:V):aU.aQ r (.c v)=v:=(rfl)
theorem TW {d:Option Nat} {g:G} {rs:List Nat} {K:bd->V->ae->Prop}:bs.wp P ⟨d,g,none,rs⟩ r h K=g.wp P (r.trim rs) h fun v aa=>K (r.set d v) v aa:=(rfl)
theorem TU {d:Option Nat} {g:G} {j:Nat} {want:Bool} {rs:List Nat} {K:bd->V->ae->Prop}:bs.wp P ⟨d,g,some (j,want),rs⟩ r h K=
 gate (r.trim rs j) want (g.wp P (r.trim rs) h fun v aa=>K (r.set d v) v aa) (K (r.set d (.tuple [])) (.tuple []) h):=(rfl)
variable {K:V->ae->Prop}
theorem oR (k:IntKind):oQ k k=true:=by cases k<;>rfl
theorem pd (a b:Int):Int.leB a b=decide (a<=b):=pe a b
theorem DZ (a b:Int):Int.gM a b=decide (a=b):=by rw [mf];rfl
variable (k:IntKind) (a b:Int)
theorem afH:(e8.int .add).run P (.int k a) (.int k b)=some (.int k (k.wrap (a+b))):=by simp [e8.run,lT,o',V.ew,oR]
theorem agV:(e8.int .sub).run P (.int k a) (.int k b)=some (.int k (k.wrap (a-b))):=by simp [e8.run,lT,o',V.ew,oR]
theorem agA:(e8.int .mul).run P (.int k a) (.int k b)=some (.int k (k.wrap (a * b))):=by simp [e8.run,lT,o',V.ew,oR]
theorem af5:(e8.int .eql).run P (.int k a) (.int k b)=some (.bool (decide (a=b))):=by simp [e8.run,lT,ni,V.ew,oR,DZ]
theorem agD:(e8.int .neq).run P (.int k a) (.int k b)=some (.bool (!decide (a=b))):=by simp [e8.run,lT,ni,V.ew,oR,DZ]
theorem agu:(e8.int .lss).run P (.int k a) (.int k b)=some (.bool (decide (a<b))):=by simp [e8.run,lT,ni,V.ew,oR,pd];rw [aqg];simp
theorem agp:(e8.int .leq).run P (.int k a) (.int k b)=some (.bool (decide (a<=b))):=by simp [e8.run,lT,ni,V.ew,oR,pd]
theorem agc:(e8.int .gtr).run P (.int k a) (.int k b)=some (.bool (decide (b<a))):=by simp [e8.run,lT,ni,V.ew,oR,pd];rw [aqg];simp
theorem agb:(e8.int .geq).run P (.int k a) (.int k b)=some (.bool (decide (b<=a))):=by simp [e8.run,lT,ni,V.ew,oR,pd]
theorem afK (x y:Bool):(e8.x2 false).run P (.bool x) (.bool y)=some (.bool (x == y)):=by simp [e8.run,jw,AL,q9]
theorem afO (x y:Bool):(e8.x2 true).run P (.bool x) (.bool y)=some (.bool (!(x == y))):=by simp [e8.run,jw,AL,q9]
theorem am1 (x:Bool):rZ .not (.bool x)=some (.bool (!x)):=(rfl)
theorem am0:rZ .neg (.int k a)=some (.int k (k.wrap (0-a))):=(rfl)
theorem wrap_i64 {n:Int} (U:-9223372036854775808<=n) (ab:n<=9223372036854775807):IntKind.i64.wrap n=n:=by exact Go.IntWalk.i64_in n ⟨U,ab⟩
end
section
variable {P:Program} {r:bd} {h:ae} {Q:cP->bd->ae->Prop}
theorem ZQ {ops:List bs}:fm P (.ak ops) r h Q=ow P ops r h (Q .normal):=(rfl)
theorem ZR {a b:aX}:fm P (.seq a b) r h Q=fm P a r h fun e bb aa=>e.andThen (fm P b bb aa Q) (Q e bb aa):=(rfl)
theorem amI {A B:Prop}:cP.andThen .normal A B=A:=(rfl)
theorem amJ {A B:Prop}:cP.andThen .ret A B=B:=(rfl)
theorem amG {A B:Prop} {i:Nat}:cP.andThen (.exit i) A B=B:=(rfl)
theorem aii {id:Nat}:cP.leave id .normal=.normal:=(rfl)
theorem aij {id:Nat}:cP.leave id .ret=.ret:=(rfl)
theorem aih {id i:Nat}:cP.leave id (.exit i)=if i=id then .normal else .exit i:=(rfl)
end
def xi {α:Type} (o:Option α) (k:α->Prop):Prop:=
 match o with
 | some v=>k v
 | none=>False
@[congr] theorem apa {α:Type} {o b_:Option α} {k:α->Prop} (h:o=b_):xi o k=xi b_ k:=by rw [h]
def V.opt (c:Bool) (v:V):V:=bif c then v else .tuple []
theorem akb (v:V):V.opt true v=v:=(rfl)
theorem aj' (v:V):V.opt false v=.tuple []:=(rfl)
@[congr] theorem aoV {c gL:Bool} {v b1:V} (h:c=gL) (bA:gL=true->v=b1):V.opt c v=V.opt gL b1:=by
 subst h;cases c with
 | true=>rw [bA rfl]
 | false=>rfl
def V.bif (t:Bool) (a b:V):V:=bif t then a else b
theorem am9 (a b:V):V.bif true a b=a:=(rfl)
theorem am8 (a b:V):V.bif false a b=b:=(rfl)
theorem Yg (t a b:Bool):V.bif t (.bool a) (.bool b)=.bool (bif t then a else b):=by cases t<;>rfl
theorem Yh (t:Bool) (k:IntKind) (a b:Int):V.bif t (.int k a) (.int k b)=.int k (if t=true then a else b):=by cases t<;>rfl
theorem Yj (t x:Bool):(bif t then true else x)=(t||x):=by cases t<;>rfl
theorem Yf (t x:Bool):(bif t then x else false)=(t&&x):=by cases t<;>rfl
@[congr] theorem anY {t oq:Bool} {a bk b bO:V} (h:t=oq) (bw:oq=true->a=bk) (ah:oq=false->b=bO):V.bif t a b=V.bif oq bk bO:=by
 subst h;cases t with
 | true=>rw [V.bif,V.bif,bw rfl];rfl
 | false=>rw [V.bif,V.bif,ah rfl];rfl
def e1 (c:Bool) (A:Prop):Prop:=c=true->A
@[congr] theorem anQ {c gL:Bool} {A iY:Prop} (h:c=gL) (bw:gL=true->A=iY):e1 c A=e1 gL iY:=by subst h;exact propext ⟨fun q e=>(bw e) ▸ q e,fun q e=>(bw e) ▸ q e⟩
theorem WK (c:Bool):e1 c True=True:=propext ⟨fun _=>trivial,fun _ _=>trivial⟩
theorem WM (A:Prop):e1 true A=A:=propext ⟨fun q=>q rfl,fun q _=>q⟩
theorem WL (A:Prop):e1 false A=True:=propext ⟨fun _=>trivial,fun _ e=>by cases e⟩
def took (v:V) (want:Bool):Bool:=
 match v with
 | .bool b=>b == want
 | _=>false
theorem amM (b w:Bool):took (.bool b) w=(b == w):=(rfl)
theorem amO (af:List V) (w:Bool):took (.tuple af) w=false:=(rfl)
theorem amN (c:Bool) (v:V) (w:Bool):took (.opt c v) w=(c&&took v w):=by cases c<;>rfl
def fg (v:V):Prop:=
 match v with
 | .bool _=>True
 | .tuple _=>True
 | _=>False
theorem afw (b:Bool):fg (.bool b)=True:=(rfl)
theorem afy (af:List V):fg (.tuple af)=True:=(rfl)
theorem afx (c b:Bool):fg (.opt c (.bool b))=True:=by cases c<;>rfl
def G.o_:G->Bool
 | .cq _ | .pick .. | .build .. | .dS _ | .hJ .. | .s9 _ | .bin .. | .un .. | .fn .. | .B0 .. | .Ds .. | .sU .. | .rV .. | .d' .. | .er .. | .oW .. | .v7 .. | .bW .. | .uA .. | .mB .. | .jV .. | .look .. | .ext .. | .y0 _ | .ev _ | .xR _ | .yW .. | .looks .. | .w2 .. =>true
 | .cA (.int _) _=>true
 | .len .map _=>false
 | .len _ _=>true
 | _=>false
def V.tb {α:Type} (v:V) (d:α) (f:List V->α):α:=
 match v with
 | .agg cs=>f cs
 | _=>d
def V.B_ {α:Type} (v:V) (d:α) (f:List V->α):α:=
 match v with
 | .tuple cs=>f cs
 | _=>d
def Ci (c a b:V):Option V:=
 match c with
 | .bool t=>some (V.bif t a b)
 | _=>none
theorem akz (t:Bool) (a b:V):Ci (.bool t) a b=some (V.bif t a b):=(rfl)
def hP (n:Nat) (x:V) (br ax m3:Option V):Option V:=
 match x with
 | .bu=>zu br ax m3
 | .slice b off wS cap=>rU n b off wS cap br ax m3
 | .dW b off wS idx=>rT n b off wS idx br ax m3
 | .gb b off jE idx=>zv b off jE idx br ax m3
 | _=>none
def G.g_ (P:Program) (g:G) (r:bd) (h:ae):Option V:=
 match g with
 | .cq x=>some (x.aQ r)
 | .pick c a b=>Ci (c.aQ r) (a.aQ r) (b.aQ r)
 | .build z bn=>(match jc z (kD r bn) with
   | some cs=>some (.agg cs)
   | none=>none)
 | .dS x=>nn h (x.aQ r)
 | .hJ n x=>nm n h (x.aQ r)
 | .s9 x=>uR (x.aQ r)
 | .bin k x y=>k.run P (x.aQ r) (y.aQ r)
 | .un op x=>rZ op (x.aQ r)
 | .cA (.int k) x=>(x.aQ r).ew none fun _ n=>some (.int k (k.wrap n))
 | .fn f eT=>some (.func f (aU.fM r eT))
 | .B0 f first=>some (.l1 f (aU.fM r first))
 | .Ds t z ok x=>Ar t z ok (x.aQ r)
 | .sU t x=>some (.iface t (x.aQ r))
 | .rV x br ax m3=>mJ (x.aQ r) (aU.opt r br) (aU.opt r ax) (aU.opt r m3)
 | .d' n x br ax m3=>hP n (x.aQ r) (aU.opt r br) (aU.opt r ax) (aU.opt r m3)
 | .er off x=>(x.aQ r).iV none fun b o=>some (.ptr b (o+off))
 | .oW off x=>(x.aQ r).tb none fun cs=>cs[off]?
 | .v7 off n x=>(x.aQ r).tb none fun cs=>some (.agg ((cs.drop off).take n))
 | .bW n x i=>(uD n).run (x.aQ r) (i.aQ r)
 | .uA n s x i=>(sX n s).run (x.aQ r) (i.aQ r)
 | .mB x i=>sZ.run (x.aQ r) (i.aQ r)
 | .jV t x i=>(sY P t).run (x.aQ r) (i.aQ r)
 | .look k z ok x i=>g' k.eq z ok h (x.aQ r) (i.aQ r)
 | .ext x i=>(x.aQ r).B_ none fun af=>af[i]?
 | .len (.arr n) _=>some (.int .i64 n)
 | .len .str x=>(pf .string).run (x.aQ r)
 | .len .slice x=>(pf (.slice 0)).run (x.aQ r)
 | .y0 args=>kZ (fun b a=>!Int.leB a b) (aU.fM r args)
 | .ev args=>kZ (fun b a=>!Int.leB b a) (aU.fM r args)
 | .xR x=>tX (x.aQ r)
 | .yW z ok x i=>hq ⟨jF h⟩ z ok h (x.aQ r) (i.aQ r)
 | .looks k z ok x i=>bif lp P k (i.aQ r) then hq (structEq P k) z ok h (x.aQ r) (i.aQ r) else none
 | .w2 neg x y=>ze neg h (x.aQ r) (y.aQ r)
 | _=>none
section
variable {P:Program} {r:bd} {h:ae}
theorem pure_run {g:G} (ai:g.o_=true) (call:dR):g.run P call r h=a_.of h (g.g_ P r h):=by
 cases g<;>simp only [G.o_] at ai<;>try (cases ai;done)
 all_goals simp only [G.run,G.g_]
 case cq x=>rfl
 case pick c a b=>
  generalize c.aQ r=q;cases q<;>rfl
 case build z bn=>
  generalize jc z (kD r bn)=q;cases q<;>rfl
 case cA k x=>
  cases k<;>simp only at ai<;>try (cases ai;done)
  simp only [tD.run];generalize x.aQ r=q;cases q<;>rfl
 case fn f eT=>rfl
 case B0 f first=>rfl
 case sU t x=>rfl
 case d' n x br ax m3=>
  unfold hP;generalize x.aQ r=q;cases q<;>rfl
 case oW off x=>
  generalize x.aQ r=q;cases q<;>rfl
 case v7 off n x=>
  generalize x.aQ r=q;cases q<;>rfl
 case ext x i=>
  generalize x.aQ r=q;cases q<;>rfl
 case len k x=>
  cases k<;>simp only at ai<;>first | rfl | (cases ai;done)
theorem QP {g:G} (ai:g.o_=true) {K:V->ae->Prop}:g.wp P r h K=xi (g.g_ P r h) fun v=>K v h:=by
 have e:g.wp P r h K=∃v aa,g.run P lx r h=.val v aa/\K v aa:=by cases g<;>first | rfl | (simp [G.o_] at ai;done)
 rw [e,pure_run ai];apply propext;cases bA:g.g_ P r h with
 | none=>exact ⟨fun ⟨v,aa,q,_⟩=>(by cases q),fun q=>q.elim⟩
 | some v=>
   constructor
   . rintro ⟨v1,U,q,k⟩;simp only [a_.of,a_.val.injEq] at q;obtain ⟨rfl,rfl⟩:=q;exact k
   . intro k;exact ⟨v,h,rfl,k⟩
theorem TX {d:Option Nat} {g:G} {rs:List Nat} {K:bd->V->ae->Prop} (ai:g.o_=true):bs.wp P ⟨d,g,none,rs⟩ r h K=xi (g.g_ P (r.trim rs) h) fun v=>K (r.set d v) v h:=by rw [TW,QP ai]
theorem TV {d:Option Nat} {g:G} {j:Nat} {want:Bool} {rs:List Nat} {K:bd->V->ae->Prop} (ai:g.o_=true):bs.wp P ⟨d,g,some (j,want),rs⟩ r h K=
 (fg (r.trim rs j)/\e1 (took (r.trim rs j) want) ((g.g_ P (r.trim rs) h).isSome=true)/\
   K (r.set d (V.opt (took (r.trim rs j) want) ((g.g_ P (r.trim rs) h).getD .bad))) (V.opt (took (r.trim rs j) want) ((g.g_ P (r.trim rs) h).getD .bad)) h):=by
 rw [TU,QP ai];generalize r.trim rs j=q;generalize g.g_ P (r.trim rs) h=o;apply propext;cases q<;>simp only [gate,fg,took,arH,ari]
 case bool b=>
  cases b<;>cases want<;>cases o<;>simp [xi,e1,V.opt]
 case tuple af=>simp [e1,V.opt]
@[congr] theorem ape {os:List bs} {r bb:bd} {h aa:ae} {K:bd->ae->Prop} (av:r=bb) (aK:h=aa):ow P os r h K=ow P os bb aa K:=by rw [av,aK]
@[congr] theorem apc {os:List bs} {r bb:bd} {h aa:ae} {K:List fQ->bd->ae->Prop} (av:r=bb) (aK:h=aa):ks P os r h K=ks P os bb aa K:=by rw [av,aK]
@[congr] theorem anO {o:bs} {r bb:bd} {h aa:ae} {K:bd->V->ae->Prop} (av:r=bb) (aK:h=aa):o.wp P r h K=o.wp P bb aa K:=by rw [av,aK]
@[congr] theorem anP {g:G} {r bb:bd} {h aa:ae} {K:V->ae->Prop} (av:r=bb) (aK:h=aa):g.wp P r h K=g.wp P bb aa K:=by rw [av,aK]
@[congr] theorem apb {c:aX} {r bb:bd} {h aa:ae} {Q:cP->bd->ae->Prop} (av:r=bb) (aK:h=aa):fm P c r h Q=fm P c bb aa Q:=by rw [av,aK]
@[congr] theorem anM {f:FuncId} {a bk:List V} {h aa:ae} {K:V->ae->Prop} (av:a=bk) (aK:h=aa):cv P f a h K=cv P f bk aa K:=by rw [av,aK]
def fy (k:b') (off:Nat):Option V:=k.pr none fun n cs=>bif Nat.blt off n then some (T.get .bad (aC off) cs) else none
def lX (n:Nat) (k:b') (off:Nat):Option V:=k.pr none fun m cs=>bif Nat.ble (off+n) m then some (.agg (hF cs off n)) else none
theorem aiD (b:aO) (off:Nat):nn h (.ptr b off)=fy (h.get b) off:=(rfl)
theorem aiF (n:Nat) (b:aO) (off:Nat):nm n h (.ptr b off)=lX n (h.get b) off:=(rfl)
theorem S1 {af:List V} {off:Nat}:(bif Nat.blt off af.length then some (T.get .bad (aC off) (fV .e 0 af)) else none)=af[off]? :=by
 have:=Eg af 0 off .e;rw [apX] at this;rw [this];by_cases aT:off<af.length
 . rw [show Nat.blt off af.length=true from by rw [apQ];exact aT,apB aT];simp [apo aT]
 . rw [show Nat.blt off af.length=false from by rw [<-ap1,apQ];exact aT];rw [apS (by omega)];rfl
theorem SZ (af:List V) (ct:Nat) (st:Bool) (off:Nat):fy (.bT af ct st) off=af[off]? :=S1
theorem S0 (af:List V) (off:Nat):fy (.ro af) off=af[off]? :=S1
theorem S4 {af:List V} {off n:Nat}:(bif Nat.ble (off+n) af.length then some (V.agg (hF (fV .e 0 af) off n)) else none)=if off+n<=af.length then some (.agg ((af.drop off).take n)) else none:=by
 by_cases aT:off+n<=af.length
 . rw [show Nat.ble (off+n) af.length=true from by rw [apF];exact aT,apB aT,Ei af n off aT];rfl
 . rw [show Nat.ble (off+n) af.length=false from by rw [<-ap1,apF];exact aT,apu aT];rfl
theorem S2 (n:Nat) (af:List V) (ct:Nat) (st:Bool) (off:Nat):lX n (.bT af ct st) off=if off+n<=af.length then some (.agg ((af.drop off).take n)) else none:=S4
theorem S3 (n:Nat) (af:List V) (off:Nat):lX n (.ro af) off=if off+n<=af.length then some (.agg ((af.drop off).take n)) else none:=S4
theorem mP.dS {b:aO} {af:List V} (H:mP h b af) (off:Nat):fy (h.get b) off=af[off]? :=by
 rcases H with H | ⟨_,_,H⟩<;>rw [H]
 . exact S0 af off
 . exact SZ af _ _ off
theorem mP.hJ {b:aO} {af:List V} (H:mP h b af) (n off:Nat):lX n (h.get b) off=if off+n<=af.length then some (.agg ((af.drop off).take n)) else none:=by
 rcases H with H | ⟨_,_,H⟩<;>rw [H]
 . exact S3 n af off
 . exact S2 n af _ _ off
def over:List V->List V->List V
 | af,[]=>af
 | [],_::_=>[]
 | _::af,w::ws=>w::over af ws
def nx:List V->Nat->List V->List V
 | af,0,ws=>over af ws
 | [],_+1,_=>[]
 | v::af,n+1,ws=>v::nx af n ws
theorem Ug:∀(af ws:List V),ws.length<=af.length->over af ws=ws++af.drop ws.length
 | af,[],_=>by cases af<;>rfl
 | [],_::_,h=>by simp at h
 | v::af,w::ws,h=>by simp only [over,ap3,apz,aqU];rw [Ug af ws (by simpa using h)]
theorem zw:∀(af:List V) (off:Nat) (ws:List V),off+ws.length<=af.length->nx af off ws=hx af off ws
 | af,0,ws,h=>by cases af<;>simp only [nx,hx,arJ,aql,apX]<;>exact Ug _ ws (by omega)
 | [],n+1,ws,h=>by simp at h
 | v::af,n+1,ws,h=>by simp only [apz] at h;simp only [nx,hx];rw [zw af n ws (by omega)];simp only [hx,aqC,ap3];rw [show n+1+ws.length=n+ws.length+1 from by omega,aqU]
theorem LQ (af:List V) (off:Nat) (ws:List V) (h:off+ws.length<=af.length):(nx af off ws).length=af.length:=by rw [zw af off ws h,qF af off ws h]
def ql (n:Nat) (h:ae) (b:aO) (off:Nat) (y:V) (k:b'):Option ae:=
 bif Nat.beq y.cells.length n then k.on none fun m cs ct st=>
  bif Nat.ble (off+y.cells.length) m&&e5 y.cells then some (h.set b (.cells m (fV cs off y.cells) ct st)) else none else none
theorem amh (n:Nat) (b:aO) (off:Nat) (y:V):rW n h (.ptr b off) y=ql n h b off y (h.get b):=(rfl)
theorem Kv {n:Nat} {b:aO} {off:Nat} {y:V} {af:List V} {ct:Nat} {st:Bool} (U:y.cells.length=n) (ab:e5 y.cells=true) (aI:off+n<=af.length):
 ql n h b off y (.bT af ct st)=some (h.set b (.bT (nx af off y.cells) ct st)):=by
 unfold ql;rw [show Nat.beq y.cells.length n=true from by rw [apT];exact U];simp only [apt,b'.bT,b'.on];rw [show Nat.ble (off+y.cells.length) af.length=true from by rw [apF,U];exact aI,ab];simp only [aqn,apt,apq];rw [LQ af off _ (by rw [U];exact aI),zw af off _ (by rw [U];exact aI),FO _ af off (by rw [U];exact aI)]
theorem nU (k:b'):(h.new k).get (aC h.next)=k:=by rw [ae.iz,apB rfl]
theorem iz (b:aO) (k:b'):(h.new k).get b=if aC h.next=b then k else h.get b:=ae.iz h b k
theorem dV (b bO:aO) (k:b'):(h.set b k).get bO=if b=bO then k else h.get bO:=ae.dV h b bO k
def Old (h:ae) (b:aO):Prop:=b0 b<h.next
theorem uU:∀b:aO,aC (b0 b)=b:=by
 have key:∀(b:aO) (d:Nat),b0 b+1<2 ^ d->uT d (b0 b)=b:=by
  intro b
  induction b with
  | z=>intro d aH;cases d<;>rfl
  | l p bh=>
    intro d aH;cases d with
    | zero=>simp [b0] at aH
    | succ d=>
      have ab:2 ^ (d+1)=2 * 2 ^ d:=by rw [Nat.pow_succ];omega
      rw [ab] at aH;simp only [b0] at aH ⊢;simp only [uT,hB];rw [apu (by omega),apB (by omega),show (2 * b0 p+1) / 2=b0 p from by omega,bh d (by omega)]
  | r p bh=>
    intro d aH;cases d with
    | zero=>simp [b0] at aH
    | succ d=>
      have ab:2 ^ (d+1)=2 * 2 ^ d:=by rw [Nat.pow_succ];omega
      rw [ab] at aH;simp only [b0] at aH ⊢;simp only [uT,hB];rw [apu (by omega),apu (by omega),show (2 * b0 p+2) / 2-1=b0 p from by omega,bh d (by omega)]
 intro b;exact key b _ Nat.lt_log2_self
theorem K3 {b:aO} {i:Nat} (ah:Old h b) (ax:h.next<=i):(aC i=b)=False:=by
 apply propext;constructor
 . intro e;unfold Old at ah;rw [<-e,cV] at ah;omega
 . exact False.elim
theorem ajI {b:aO} {k:b'} (ah:Old h b):Old (h.new k) b:=Nat.lt_succ_of_lt ah
theorem T5 {k:b'}:Old (h.new k) (aC h.next):=by unfold Old;rw [cV];exact Nat.lt_succ_self _
def D5 (off:Nat) (x:V):Option V:=x.iV none fun b o=>some (.ptr b (o+off))
theorem abE (off:Nat) (b:aO) (o:Nat):D5 off (.ptr b o)=some (.ptr b (o+off)):=(rfl)
theorem ajL {α:Type} (af:List V) (d:α) (f:List V->α):V.B_ (.tuple af) d f=f af:=(rfl)
theorem ajK {α:Type} (af:List V) (d:α) (f:List V->α):V.tb (.agg af) d f=f af:=(rfl)
def hK (x:V):Option V:=(pf (.slice 0)).run x
theorem aiq (b:aO) (off n c:Nat):hK (.slice b off n c)=some (.int .i64 n):=(rfl)
theorem aio (b:aO) (off n c:Nat):hK (.dW b off n c)=some (.int .i64 n):=(rfl)
theorem air (b:aO) (off n c:Nat):hK (.gb b off n c)=some (.int .i64 0):=(rfl)
theorem aip:hK .bu=some (.int .i64 0):=(rfl)
def Fc (x:V):Option V:=(pf .string).run x
theorem ais (s:List UInt8):Fc (.str s)=some (.int .i64 s.length):=(rfl)
def f' (n:Nat) (x i:V):Option V:=(uD n).run x i
theorem BC (n:Nat) (b:aO) (off len cap:Nat) (k:IntKind) (i:Int):f' n (.slice b off len cap) (.int k i)=if 0<=i/\i<len then some (.ptr b (off+i.toNat * n)) else none:=by simp only [f',uD,V.ew,sW,pd];by_cases U:0<=i<;>by_cases ab:(len:Int)<=i<;>simp [U,ab]<;>omega
theorem BB (n:Nat) (b:aO) (off len cap:Nat) (k:IntKind) (i:Int):f' n (.dW b off len cap) (.int k i)=if 0<=i/\i<len then some (.ptr b (off+i.toNat * n)) else none:=by simp only [f',uD,V.ew,sW,pd];by_cases U:0<=i<;>by_cases ab:(len:Int)<=i<;>simp [U,ab]<;>omega
def DK (k:IntKind) (x:V):Option V:=x.ew none fun _ n=>some (.int k (k.wrap n))
theorem aaN (k bp:IntKind) (n:Int):DK k (.int bp n)=some (.int k (k.wrap n)):=(rfl)
end
structure iZ where
 all:List bs
 asks:List (Nat × List Nat)
 es:List fQ
def jG (D:Option iZ) (r:bd) (h:ae) (v:V):Option iZ:=
 match D with
 | none=>none
 | some d=>some ⟨d.all,d.asks,d.es++[⟨r,h,v⟩]⟩
inductive hS where
 | os (D:Option iZ) (os:List bs)
 | c (b:aX)
 | aS (id:Nat)
section
variable (P:Program)
def vH (D:Option iZ) (es:List fQ) (aB:ae):Prop:=
 match D with
 | none=>True
 | some d=>pG P d.all (d.es++es) aB d.asks
def bo:List hS->cP->bd->ae->(cP->bd->ae->Prop)->Prop
 | [],e,r,h,Q=>Q e r h
 | .os D os::aN,e,r,h,Q=>match e with
   | .normal=>ks P os r h fun es bb aa=>vH P D es aa/\bo aN .normal bb aa Q
   | e=>bo aN e r h Q
 | .c b::aN,e,r,h,Q=>match e with
   | .normal=>fm P b r h fun e bb aa=>bo aN e bb aa Q
   | e=>bo aN e r h Q
 | .aS id::aN,e,r,h,Q=>bo aN (e.leave id) r h Q
def dd (o:Option V) (d:Option Nat) (D:Option iZ) (os:List bs) (aN:List hS) (r:bd) (h:ae) (Q:cP->bd->ae->Prop):Prop:=
 xi o fun v=>bo P (.os (jG D r h v) os::aN) .normal (r.set d v) h Q
def hb (o:a_) (d:Option Nat) (D:Option iZ) (os:List bs) (aN:List hS) (r:bd) (aY:ae) (Q:cP->bd->ae->Prop):Prop:=
 match o with
 | .val v h=>bo P (.os (jG D r aY v) os::aN) .normal (r.set d v) h Q
 | _=>False
def fe (v:V) (want:Bool) (d:Option Nat) (g:G) (rs:List Nat) (D:Option iZ) (os:List bs) (aN:List hS) (r:bd) (h:ae) (Q:cP->bd->ae->Prop):Prop:=
 gate v want (bo P (.os D (⟨d,g,none,rs⟩::os)::aN) .normal r h Q) (bo P (.os (jG D r h (.tuple [])) os::aN) .normal (r.set d (.tuple [])) h Q)
def xS (v:V) (a b:aX) (aN:List hS) (r:bd) (h:ae) (Q:cP->bd->ae->Prop):Prop:=
 match v with
 | .bool t=>(t=true->bo P (.c a::aN) .normal r h Q)/\(t=false->bo P (.c b::aN) .normal r h Q)
 | _=>False
def q4 (f:FuncId) (args:List V) (d:Option Nat) (D:Option iZ) (os:List bs) (aN:List hS) (r:bd) (h:ae) (Q:cP->bd->ae->Prop):Prop:=
 cv P f args h fun v aa=>bo P (.os (jG D r h v) os::aN) .normal (r.set d v) aa Q
def Mo (xs:List V) (d:Option Nat) (D:Option iZ) (os:List bs) (aN:List hS) (r:bd) (h:ae) (Q:cP->bd->ae->Prop):Prop:=
 M5 P xs h fun v aa=>bo P (.os (jG D r h v) os::aN) .normal (r.set d v) aa Q
def H2 (g:FuncId) (xs:List V) (d:Option Nat) (D:Option iZ) (os:List bs) (aN:List hS) (r:bd) (h:ae) (Q:cP->bd->ae->Prop):Prop:=
 if g=4294967296 then Mo P xs d D os aN r h Q else q4 P g xs d D os aN r h Q
def xQ (f:V) (args:List V) (d:Option Nat) (D:Option iZ) (os:List bs) (aN:List hS) (r:bd) (h:ae) (Q:cP->bd->ae->Prop):Prop:=
 ∃g xs,f.target args=some (g,xs)/\H2 P g xs d D os aN r h Q
def BX (b:aX) (aN:List hS) (r:bd) (h:ae) (Q:cP->bd->ae->Prop):Prop:=fm P (.loop b) r h fun e bb aa=>bo P aN e bb aa Q
end
section
variable {P:Program} {r:bd} {h:ae} {Q:cP->bd->ae->Prop} {aN:List hS} {os:List bs} {D:Option iZ}
theorem akJ (r:bd) (h:ae) (v:V):jG none r h v=none:=(rfl)
theorem akK (all:List bs) (asks:List (Nat × List Nat)) (es:List fQ) (r:bd) (h:ae) (v:V):jG (some ⟨all,asks,es⟩) r h v=some ⟨all,asks,es++[⟨r,h,v⟩]⟩:=(rfl)
theorem cr {c:aX} (H:bo P [.c c] .normal r h Q):fm P c r h Q:=H
theorem agF {e:cP}:bo P [] e r h Q=Q e r h:=(rfl)
theorem afM {e:cP} {id:Nat}:bo P (.aS id::aN) e r h Q=bo P aN (e.leave id) r h Q:=(rfl)
theorem agQ {a b:aX}:bo P (.c (.seq a b)::aN) .normal r h Q=bo P (.c a::.c b::aN) .normal r h Q:=by simp only [bo];rw [ZR];congr 1;funext e bb aa;cases e<;>rfl
theorem afN {id:Nat} {b:aX}:bo P (.c (.block id b)::aN) .normal r h Q=bo P (.c b::.aS id::aN) .normal r h Q:=(rfl)
theorem We:∀(os:List bs) (r:bd) (h:ae) (K:bd->ae->Prop),ks P os r h (fun _ r h=>K r h)=ow P os r h K
 | [],_,_,_=>rfl
 | o::os,r,h,K=>by simp only [ks,ow];congr 1;funext bb v aa;exact We os bb aa K
theorem agM {ops:List bs}:bo P (.c (.ak ops)::aN) .normal r h Q=bo P (.os none ops::aN) .normal r h Q:=by simp only [bo,vH,ari];rw [We,ZQ]
theorem agR:bo P (.c .skip::aN) .normal r h Q=bo P aN .normal r h Q:=(rfl)
theorem agN:bo P (.c .ret::aN) .normal r h Q=bo P aN .ret r h Q:=(rfl)
theorem af7 {i:Nat}:bo P (.c (.exit i)::aN) .normal r h Q=bo P aN (.exit i) r h Q:=(rfl)
theorem afX {b:aX}:bo P (.c b::aN) .ret r h Q=bo P aN .ret r h Q:=(rfl)
theorem afU {b:aX} {i:Nat}:bo P (.c b::aN) (.exit i) r h Q=bo P aN (.exit i) r h Q:=(rfl)
theorem afV {c:aU} {a b:aX}:bo P (.c (.cond c a b)::aN) .normal r h Q=xS P (c.aQ r) a b aN r h Q:=by simp only [bo,fm];cases c.aQ r<;>rfl
theorem agt {b:aX}:bo P (.c (.loop b)::aN) .normal r h Q=BX P b aN r h Q:=(rfl)
theorem af3 {ops:List bs} {asks:List (Nat × List Nat)}:bo P (.c (.draw ops asks)::aN) .normal r h Q=bo P (.os (some ⟨ops,asks,[]⟩) ops::aN) .normal r h Q:=(rfl)
theorem agJ:bo P (.os none []::aN) .normal r h Q=bo P aN .normal r h Q:=by simp only [bo,ks,vH,ari]
theorem af2 {all:List bs} {asks:List (Nat × List Nat)} {es:List fQ}:bo P (.os (some ⟨all,asks,es⟩) []::aN) .normal r h Q=(pG P all es h asks/\bo P aN .normal r h Q):=by simp only [bo,ks,vH,aqB]
theorem xN (D:Option iZ) (r:bd) (h:ae) (v:V) (es:List fQ) (aB:ae):vH P (jG D r h v) es aB=vH P D (⟨r,h,v⟩::es) aB:=by
 cases D with
 | none=>rfl
 | some d=>simp only [jG,vH,ap8,ap3,aql]
theorem gF {d:Option Nat} {g:G} {rs:List Nat} (ai:g.o_=true):bo P (.os D (⟨d,g,none,rs⟩::os)::aN) .normal r h Q=dd P (g.g_ P (r.trim rs) h) d D os aN r h Q:=by simp only [bo,ks,dd];rw [TX ai];simp only [xN]
theorem gE {d:Option Nat} {g:G} {j:Nat} {want:Bool} {rs:List Nat} (ai:g.o_=true):bo P (.os D (⟨d,g,some (j,want),rs⟩::os)::aN) .normal r h Q=
 (fg (r.trim rs j)/\e1 (took (r.trim rs j) want) ((g.g_ P (r.trim rs) h).isSome=true)/\
   dd P (some (V.opt (took (r.trim rs j) want) ((g.g_ P (r.trim rs) h).getD .bad))) d D os aN r h Q):=by
 simp only [bo,ks,dd,xi];rw [TV ai];simp only [xN]
def G.SB:G->Bool
 | .call .. | .ma .. =>true
 | _=>false
theorem iE {d:Option Nat} {g:G} {rs:List Nat} (ai:g.o_=false) (au:g.SB=false):bo P (.os D (⟨d,g,none,rs⟩::os)::aN) .normal r h Q=hb P (g.run P lx (r.trim rs) h) d D os aN r h Q:=by
 simp only [bo,ks];rw [TW];have e:∀K:V->ae->Prop,g.wp P (r.trim rs) h K=∃v aa,g.run P lx (r.trim rs) h=.val v aa/\K v aa:=by intro K;cases g<;>first | rfl | (simp [G.SB] at au;done)
 rw [e];unfold hb;simp only [bo,xN];cases g.run P lx (r.trim rs) h with
 | fail=>exact propext ⟨fun ⟨v,aa,q,_⟩=>(by cases q),fun q=>q.elim⟩
 | cI v1 U=>exact propext ⟨fun ⟨v,aa,q,_⟩=>(by cases q),fun q=>q.elim⟩
 | val v1 U=>
   apply propext;constructor
   . rintro ⟨v,aa,q,k⟩;simp only [a_.val.injEq] at q;obtain ⟨rfl,rfl⟩:=q;exact k
   . intro k;exact ⟨_,_,rfl,k⟩
theorem h0 {d:Option Nat} {g:G} {j:Nat} {want:Bool} {rs:List Nat} (ai:g.o_=false):bo P (.os D (⟨d,g,some (j,want),rs⟩::os)::aN) .normal r h Q=fe P (r.trim rs j) want d g rs D os aN r h Q:=by simp only [fe,bo,ks,xN];rw [TU];rfl
theorem SH {d:Option Nat} {f:FuncId} {args:List aU} {rs:List Nat}:bo P (.os D (⟨d,.call f args,none,rs⟩::os)::aN) .normal r h Q=q4 P f (aU.fM (r.trim rs) args) d D os aN r h Q:=by simp only [q4,bo,ks,xN];rfl
theorem afS {d:Option Nat} {f:aU} {args:List aU} {rs:List Nat}:bo P (.os D (⟨d,.ma f args,none,rs⟩::os)::aN) .normal r h Q=xQ P (f.aQ (r.trim rs)) (aU.fM (r.trim rs) args) d D os aN r h Q:=by simp only [xQ,H2,Mo,q4,bo,ks,xN];rfl
theorem ZW {f:V} {g:FuncId} {xs args:List V} {d:Option Nat} (aB:f.target args=some (g,xs)):xQ P f args d D os aN r h Q=H2 P g xs d D os aN r h Q:=by
 apply propext;constructor
 . rintro ⟨c_,aph,q,k⟩;rw [aB] at q;simp only [apq,aqw] at q;obtain ⟨rfl,rfl⟩:=q;exact k
 . intro k;exact ⟨_,_,aB,k⟩
theorem ZV {g:FuncId} {cs args:List V} {d:Option Nat}:xQ P (.func g cs) args d D os aN r h Q=if g=4294967296 then Mo P (args++cs) d D os aN r h Q else q4 P g (args++cs) d D os aN r h Q:=ZW rfl
@[congr] theorem ao6 {o b_:Option V} {d:Option Nat} (e:o=b_):dd P o d D os aN r h Q=dd P b_ d D os aN r h Q:=by rw [e]
@[congr] theorem ao5 {o b_:a_} {d:Option Nat} (e:o=b_):hb P o d D os aN r h Q=hb P b_ d D os aN r h Q:=by rw [e]
@[congr] theorem an5 {v b1:V} {a b:aX} (e:v=b1):xS P v a b aN r h Q=xS P b1 a b aN r h Q:=by rw [e]
@[congr] theorem aoe {v b1:V} {want:Bool} {d:Option Nat} {g:G} {rs:List Nat} (e:v=b1):fe P v want d g rs D os aN r h Q=fe P b1 want d g rs D os aN r h Q:=by rw [e]
@[congr] theorem an3 {f Iz:V} {args Ao:List V} {d:Option Nat} (av:f=Iz) (aK:args=Ao):xQ P f args d D os aN r h Q=xQ P Iz Ao d D os aN r h Q:=by rw [av,aK]
@[congr] theorem an2 {f:FuncId} {args Ao:List V} {d:Option Nat} (aK:args=Ao):q4 P f args d D os aN r h Q=q4 P f Ao d D os aN r h Q:=by rw [aK]
@[congr] theorem apd {e c6:cP} {bb:bd} {aa:ae} (c4:e=c6) (av:r=bb) (aK:h=aa):bo P aN e r h Q=bo P aN c6 bb aa Q:=by rw [c4,av,aK]
@[congr] theorem aoG {b:aX} {bb:bd} {aa:ae} (av:r=bb) (aK:h=aa):BX P b aN r h Q=BX P b aN bb aa Q:=by rw [av,aK]
theorem amq {v:V} {d:Option Nat}:dd P (some v) d D os aN r h Q=bo P (.os (jG D r h v) os::aN) .normal (r.set d v) h Q:=(rfl)
theorem al' {v:V} {aa:ae} {d:Option Nat}:hb P (.val v aa) d D os aN r h Q=bo P (.os (jG D r h v) os::aN) .normal (r.set d v) aa Q:=(rfl)
theorem PF {t:Bool} {a b:aX}:xS P (.bool t) a b aN r h Q=((t=true->bo P (.c a::aN) .normal r h Q)/\(t=false->bo P (.c b::aN) .normal r h Q)):=(rfl)
theorem QR {b:Bool} {d:Option Nat} {g:G} {rs:List Nat}:fe P (.bool b) true d g rs D os aN r h Q=((b=true->bo P (.os D (⟨d,g,none,rs⟩::os)::aN) .normal r h Q)/\(b=false->bo P (.os (jG D r h (.tuple [])) os::aN) .normal (r.set d (.tuple [])) h Q)):=(rfl)
theorem QQ {b:Bool} {d:Option Nat} {g:G} {rs:List Nat}:fe P (.bool b) false d g rs D os aN r h Q=((b=false->bo P (.os D (⟨d,g,none,rs⟩::os)::aN) .normal r h Q)/\(b=true->bo P (.os (jG D r h (.tuple [])) os::aN) .normal (r.set d (.tuple [])) h Q)):=(rfl)
theorem ace {af:List V} {want:Bool} {d:Option Nat} {g:G} {rs:List Nat}:fe P (.tuple af) want d g rs D os aN r h Q=bo P (.os (jG D r h (.tuple [])) os::aN) .normal (r.set d (.tuple [])) h Q:=(rfl)
theorem ab9 {c b:Bool} {want:Bool} {d:Option Nat} {f:FuncId} {args:List aU} {rs:List Nat} (v:V)
 (bA:(c&&(b == want))=true->eZ P f (aU.fM (r.trim rs) args) h v h)
 (H:bo P (.os (jG D r h (V.opt (c&&(b == want)) v)) os::aN) .normal (r.set d (V.opt (c&&(b == want)) v)) h Q):fe P (V.opt c (.bool b)) want d (.call f args) rs D os aN r h Q:=by
 unfold fe;rw [SH];cases c with
 | false=>exact H
 | true=>
   simp only [V.opt,apt,aqm] at bA H ⊢;cases b<;>cases want<;>simp only [gate]
   . exact ⟨fun _=>⟨v,h,bA rfl,H⟩,fun e=>by cases e⟩
   . exact ⟨fun e=>(by cases e),fun _=>H⟩
   . exact ⟨fun e=>(by cases e),fun _=>H⟩
   . exact ⟨fun _=>⟨v,h,bA rfl,H⟩,fun e=>by cases e⟩
def qt (v:V) (o:Option ae):a_:=gT v o
theorem akc (v:V) (aa:ae):qt v (some aa)=.val v aa:=(rfl)
def Nw (b:Bool) (o:a_):a_:=bif b then o else .fail
theorem Yr (o:a_):Nw true o=o:=(rfl)
def Dz (n:Nat) (h:ae) (o:Option (List V)):a_:=
 match o with
 | some cs=>qt (.slice (aC h.next) 0 n n) (gk h cs)
 | none=>.fail
theorem Ys (n:Nat) (cs:List V):Dz n h (some cs)=qt (.slice (aC h.next) 0 n n) (gk h cs):=(rfl)
theorem alE {n size:Nat} {z:List V} {bn:List (Nat × Nat × aU)}:(G.gq n size z bn).run P lx r h=Dz n h (jc (iH z n) (kD r bn)):=by
 simp only [G.run];cases jc (iH z n) (kD r bn) with
 | none=>rfl
 | some cs=>
   simp only [Dz,qt,gT];cases gk h cs<;>rfl
theorem abJ (cells:List V):jc cells []=some cells:=(rfl)
theorem abH {cells:List V} {off size:Nat} {v:V} {rest:List (Nat × Nat × V)} (U:v.fu=true) (ab:v.cells.length=size) (aI:off+size<=cells.length):
 jc cells ((off,size,v)::rest)=jc (nx cells off v.cells) rest:=by
 simp only [jc];rw [U,show Nat.beq v.cells.length size=true from by rw [apT];exact ab,show Nat.ble (off+v.cells.length) cells.length=true from by rw [apF,ab];exact aI];simp only [aqn,apt];congr 1;have er:∀(ws cs:List V) (o:Nat),o+ws.length<=cs.length->sD cs o ws=hx cs o ws:=by
  intro ws
  induction ws with
  | nil=>intro cs o _;simp [sD,hx]
  | cons w ws bh=>
    intro cs o aT;simp only [apz] at aT;simp only [sD];rw [bh (cs.set o w) (o+1) (by simp;omega),Vs cs o w ws (by omega)]
 rw [er _ _ _ (by rw [ab];exact aI),zw _ _ _ (by rw [ab];exact aI)]
def DB (o:Option (List V)):Option V:=
 match o with
 | some cs=>some (.agg cs)
 | none=>none
theorem Yu (cs:List V):DB (some cs)=some (.agg cs):=(rfl)
theorem abw:kD r []=[]:=(rfl)
theorem abv {o s:Nat} {x:aU} {bn:List (Nat × Nat × aU)}:kD r ((o,s,x)::bn)=(o,s,x.aQ r)::kD r bn:=(rfl)
def pF (P:Program) (o:bs) (e:fQ) (H:ae):Prop:=o.wp P e.r H fun _ b1 _=>b1=e.v
theorem X4 {ops:List bs} {es:List fQ} {aB:ae}:pG P ops es aB []=True:=(rfl)
theorem X1 {ops:List bs} {es:List fQ} {aB:ae} {p:Nat} {bl:List Nat} {rest:List (Nat × List Nat)}:pG P ops es aB ((p,bl)::rest)=(sn P ops[p]? es[p]? es aB bl/\pG P ops es aB rest):=(rfl)
theorem XY {o:Option bs} {e:Option fQ} {es:List fQ} {aB:ae}:sn P o e es aB []=True:=(rfl)
theorem XU {o:bs} {e:fQ} {es:List fQ} {aB:ae} {s:Nat} {bl:List Nat}:sn P (some o) (some e) es aB (s::bl)=(pF P o e (ym es aB s)/\sn P (some o) (some e) es aB bl):=(rfl)
def Jd (o:Option fQ) (aB:ae):ae:=
 match o with
 | some e=>e.h
 | none=>aB
theorem adu (es:List fQ) (aB:ae) (s:Nat):ym es aB s=Jd es[s]? aB:=(rfl)
theorem adw (e:fQ) (aB:ae):Jd (some e) aB=e.h:=(rfl)
theorem adv (aB:ae):Jd none aB=aB:=(rfl)
theorem Dr {d:Option Nat} {g:G} {rs:List Nat} {e:fQ} {H:ae} (ai:g.o_=true):pF P ⟨d,g,none,rs⟩ e H=(g.g_ P (e.r.trim rs) H=some e.v):=by
 unfold pF;rw [TX ai];apply propext;cases g.g_ P (e.r.trim rs) H with
 | none=>exact ⟨fun q=>q.elim,fun q=>(by cases q)⟩
 | some v=>exact ⟨fun q=>by rw [show v=e.v from q],fun q=>by cases q;rfl⟩
theorem Ng {d:Option Nat} {g:G} {j:Nat} {want:Bool} {rs:List Nat} {e:fQ} {H:ae} (ai:g.o_=true):pF P ⟨d,g,some (j,want),rs⟩ e H=
 (fg (e.r.trim rs j)/\e1 (took (e.r.trim rs j) want) ((g.g_ P (e.r.trim rs) H).isSome=true)/\V.opt (took (e.r.trim rs j) want) ((g.g_ P (e.r.trim rs) H).getD .bad)=e.v):=by
 unfold pF;rw [TV ai]
theorem XV {d:Option Nat} {x:aU} {rs:List Nat} {e:fQ} {H:ae}:pF P ⟨d,.dS x,none,rs⟩ e H=(nn H (x.aQ (e.r.trim rs))=some e.v):=Dr rfl
theorem XW {d:Option Nat} {n:Nat} {x:aU} {rs:List Nat} {e:fQ} {H:ae}:pF P ⟨d,.hJ n x,none,rs⟩ e H=(nm n H (x.aQ (e.r.trim rs))=some e.v):=Dr rfl
theorem tU {d:Option Nat} {k:jL} {z:V} {ok:Bool} {x i:aU} {rs:List Nat} {e:fQ} {H:ae}:pF P ⟨d,.look k z ok x i,none,rs⟩ e H=(g' k.eq z ok H (x.aQ (e.r.trim rs)) (i.aQ (e.r.trim rs))=some e.v):=Dr rfl
theorem XZ {d:Option Nat} {x:aU} {j:Nat} {want:Bool} {rs:List Nat} {e:fQ} {H:ae}:pF P ⟨d,.dS x,some (j,want),rs⟩ e H=
 (fg (e.r.trim rs j)/\e1 (took (e.r.trim rs j) want) ((nn H (x.aQ (e.r.trim rs))).isSome=true)/\V.opt (took (e.r.trim rs j) want) ((nn H (x.aQ (e.r.trim rs))).getD .bad)=e.v):=Ng rfl
theorem X0 {d:Option Nat} {n:Nat} {x:aU} {j:Nat} {want:Bool} {rs:List Nat} {e:fQ} {H:ae}:pF P ⟨d,.hJ n x,some (j,want),rs⟩ e H=
 (fg (e.r.trim rs j)/\e1 (took (e.r.trim rs j) want) ((nm n H (x.aQ (e.r.trim rs))).isSome=true)/\V.opt (took (e.r.trim rs j) want) ((nm n H (x.aQ (e.r.trim rs))).getD .bad)=e.v):=Ng rfl
end
def F8 (x:V) (h:ae):a_:=
 match x with
 | .str s=>.val (.ptr (aC h.next) 0) (h.new (.iter s 0))
 | _=>.fail
theorem aln (s:List UInt8) (h:ae):F8 (.str s) h=.val (.ptr (aC h.next) 0) (h.new (.iter s 0)):=(rfl)
section
variable {P:Program} {r:bd} {h:ae} {Q:cP->bd->ae->Prop} {aN:List hS} {os:List bs} {D:Option iZ} {d:Option Nat} {rs:List Nat}
theorem agB {x:aU}:bo P (.os D (⟨d,(.cq x),none,rs⟩::os)::aN) .normal r h Q=dd P (some (x.aQ (r.trim rs))) d D os aN r h Q:=gF rfl
theorem ahC {x:aU} {j:Nat} {want:Bool}:bo P (.os D (⟨d,(.cq x),some (j,want),rs⟩::os)::aN) .normal r h Q=(fg (r.trim rs j)/\e1 (took (r.trim rs j) want) ((some (x.aQ (r.trim rs))).isSome=true)/\dd P (some (V.opt (took (r.trim rs j) want) ((some (x.aQ (r.trim rs))).getD .bad))) d D os aN r h Q):=gE rfl
theorem agL {c a b:aU}:bo P (.os D (⟨d,(.pick c a b),none,rs⟩::os)::aN) .normal r h Q=dd P (Ci (c.aQ (r.trim rs)) (a.aQ (r.trim rs)) (b.aQ (r.trim rs))) d D os aN r h Q:=gF rfl
theorem ahJ {c a b:aU} {j:Nat} {want:Bool}:bo P (.os D (⟨d,(.pick c a b),some (j,want),rs⟩::os)::aN) .normal r h Q=(fg (r.trim rs j)/\e1 (took (r.trim rs j) want) ((Ci (c.aQ (r.trim rs)) (a.aQ (r.trim rs)) (b.aQ (r.trim rs))).isSome=true)/\dd P (some (V.opt (took (r.trim rs j) want) ((Ci (c.aQ (r.trim rs)) (a.aQ (r.trim rs)) (b.aQ (r.trim rs))).getD .bad))) d D os aN r h Q):=gE rfl
theorem afR {z:List V} {bn:List (Nat × Nat × aU)}:bo P (.os D (⟨d,(.build z bn),none,rs⟩::os)::aN) .normal r h Q=dd P (DB (jc z (kD (r.trim rs) bn))) d D os aN r h Q:=gF rfl
theorem ag5 {z:List V} {bn:List (Nat × Nat × aU)} {j:Nat} {want:Bool}:bo P (.os D (⟨d,(.build z bn),some (j,want),rs⟩::os)::aN) .normal r h Q=(fg (r.trim rs j)/\e1 (took (r.trim rs j) want) ((DB (jc z (kD (r.trim rs) bn))).isSome=true)/\dd P (some (V.opt (took (r.trim rs j) want) ((DB (jc z (kD (r.trim rs) bn))).getD .bad))) d D os aN r h Q):=gE rfl
theorem agj {x:aU}:bo P (.os D (⟨d,(.dS x),none,rs⟩::os)::aN) .normal r h Q=dd P (nn h (x.aQ (r.trim rs))) d D os aN r h Q:=gF rfl
theorem aho {x:aU} {j:Nat} {want:Bool}:bo P (.os D (⟨d,(.dS x),some (j,want),rs⟩::os)::aN) .normal r h Q=(fg (r.trim rs j)/\e1 (took (r.trim rs j) want) ((nn h (x.aQ (r.trim rs))).isSome=true)/\dd P (some (V.opt (took (r.trim rs j) want) ((nn h (x.aQ (r.trim rs))).getD .bad))) d D os aN r h Q):=gE rfl
theorem agk {n:Nat} {x:aU}:bo P (.os D (⟨d,(.hJ n x),none,rs⟩::os)::aN) .normal r h Q=dd P (nm n h (x.aQ (r.trim rs))) d D os aN r h Q:=gF rfl
theorem ahp {n:Nat} {x:aU} {j:Nat} {want:Bool}:bo P (.os D (⟨d,(.hJ n x),some (j,want),rs⟩::os)::aN) .normal r h Q=(fg (r.trim rs j)/\e1 (took (r.trim rs j) want) ((nm n h (x.aQ (r.trim rs))).isSome=true)/\dd P (some (V.opt (took (r.trim rs j) want) ((nm n h (x.aQ (r.trim rs))).getD .bad))) d D os aN r h Q):=gE rfl
theorem agG {x:aU}:bo P (.os D (⟨d,(.s9 x),none,rs⟩::os)::aN) .normal r h Q=dd P (uR (x.aQ (r.trim rs))) d D os aN r h Q:=gF rfl
theorem ahF {x:aU} {j:Nat} {want:Bool}:bo P (.os D (⟨d,(.s9 x),some (j,want),rs⟩::os)::aN) .normal r h Q=(fg (r.trim rs j)/\e1 (took (r.trim rs j) want) ((uR (x.aQ (r.trim rs))).isSome=true)/\dd P (some (V.opt (took (r.trim rs j) want) ((uR (x.aQ (r.trim rs))).getD .bad))) d D os aN r h Q):=gE rfl
theorem afL {k:e8} {x y:aU}:bo P (.os D (⟨d,(.bin k x y),none,rs⟩::os)::aN) .normal r h Q=dd P (k.run P (x.aQ (r.trim rs)) (y.aQ (r.trim rs))) d D os aN r h Q:=gF rfl
theorem ag2 {k:e8} {x y:aU} {j:Nat} {want:Bool}:bo P (.os D (⟨d,(.bin k x y),some (j,want),rs⟩::os)::aN) .normal r h Q=(fg (r.trim rs j)/\e1 (took (r.trim rs j) want) ((k.run P (x.aQ (r.trim rs)) (y.aQ (r.trim rs))).isSome=true)/\dd P (some (V.opt (took (r.trim rs j) want) ((k.run P (x.aQ (r.trim rs)) (y.aQ (r.trim rs))).getD .bad))) d D os aN r h Q):=gE rfl
theorem agW {o:UnOp} {x:aU}:bo P (.os D (⟨d,(.un o x),none,rs⟩::os)::aN) .normal r h Q=dd P (rZ o (x.aQ (r.trim rs))) d D os aN r h Q:=gF rfl
theorem ahP {o:UnOp} {x:aU} {j:Nat} {want:Bool}:bo P (.os D (⟨d,(.un o x),some (j,want),rs⟩::os)::aN) .normal r h Q=(fg (r.trim rs j)/\e1 (took (r.trim rs j) want) ((rZ o (x.aQ (r.trim rs))).isSome=true)/\dd P (some (V.opt (took (r.trim rs j) want) ((rZ o (x.aQ (r.trim rs))).getD .bad))) d D os aN r h Q):=gE rfl
theorem aga {f:FuncId} {cs:List aU}:bo P (.os D (⟨d,(.fn f cs),none,rs⟩::os)::aN) .normal r h Q=dd P (some (V.func f (aU.fM (r.trim rs) cs))) d D os aN r h Q:=gF rfl
theorem ahi {f:FuncId} {cs:List aU} {j:Nat} {want:Bool}:bo P (.os D (⟨d,(.fn f cs),some (j,want),rs⟩::os)::aN) .normal r h Q=(fg (r.trim rs j)/\e1 (took (r.trim rs j) want) ((some (V.func f (aU.fM (r.trim rs) cs))).isSome=true)/\dd P (some (V.opt (took (r.trim rs j) want) ((some (V.func f (aU.fM (r.trim rs) cs))).getD .bad))) d D os aN r h Q):=gE rfl
theorem agf {t:TypeId} {x:aU}:bo P (.os D (⟨d,(.sU t x),none,rs⟩::os)::aN) .normal r h Q=dd P (some (V.iface t (x.aQ (r.trim rs)))) d D os aN r h Q:=gF rfl
theorem ahl {t:TypeId} {x:aU} {j:Nat} {want:Bool}:bo P (.os D (⟨d,(.sU t x),some (j,want),rs⟩::os)::aN) .normal r h Q=(fg (r.trim rs j)/\e1 (took (r.trim rs j) want) ((some (V.iface t (x.aQ (r.trim rs)))).isSome=true)/\dd P (some (V.opt (took (r.trim rs j) want) ((some (V.iface t (x.aQ (r.trim rs)))).getD .bad))) d D os aN r h Q):=gE rfl
theorem agT {x:aU} {br ax m3:Option aU}:bo P (.os D (⟨d,(.rV x br ax m3),none,rs⟩::os)::aN) .normal r h Q=dd P (mJ (x.aQ (r.trim rs)) (aU.opt (r.trim rs) br) (aU.opt (r.trim rs) ax) (aU.opt (r.trim rs) m3)) d D os aN r h Q:=gF rfl
theorem ahN {x:aU} {br ax m3:Option aU} {j:Nat} {want:Bool}:bo P (.os D (⟨d,(.rV x br ax m3),some (j,want),rs⟩::os)::aN) .normal r h Q=(fg (r.trim rs j)/\e1 (took (r.trim rs j) want) ((mJ (x.aQ (r.trim rs)) (aU.opt (r.trim rs) br) (aU.opt (r.trim rs) ax) (aU.opt (r.trim rs) m3)).isSome=true)/\dd P (some (V.opt (took (r.trim rs j) want) ((mJ (x.aQ (r.trim rs)) (aU.opt (r.trim rs) br) (aU.opt (r.trim rs) ax) (aU.opt (r.trim rs) m3)).getD .bad))) d D os aN r h Q):=gE rfl
theorem agS {n:Nat} {x:aU} {br ax m3:Option aU}:bo P (.os D (⟨d,(.d' n x br ax m3),none,rs⟩::os)::aN) .normal r h Q=dd P (hP n (x.aQ (r.trim rs)) (aU.opt (r.trim rs) br) (aU.opt (r.trim rs) ax) (aU.opt (r.trim rs) m3)) d D os aN r h Q:=gF rfl
theorem ahM {n:Nat} {x:aU} {br ax m3:Option aU} {j:Nat} {want:Bool}:bo P (.os D (⟨d,(.d' n x br ax m3),some (j,want),rs⟩::os)::aN) .normal r h Q=(fg (r.trim rs j)/\e1 (took (r.trim rs j) want) ((hP n (x.aQ (r.trim rs)) (aU.opt (r.trim rs) br) (aU.opt (r.trim rs) ax) (aU.opt (r.trim rs) m3)).isSome=true)/\dd P (some (V.opt (took (r.trim rs j) want) ((hP n (x.aQ (r.trim rs)) (aU.opt (r.trim rs) br) (aU.opt (r.trim rs) ax) (aU.opt (r.trim rs) m3)).getD .bad))) d D os aN r h Q):=gE rfl
theorem af9 {o:Nat} {x:aU}:bo P (.os D (⟨d,(.er o x),none,rs⟩::os)::aN) .normal r h Q=dd P (D5 o (x.aQ (r.trim rs))) d D os aN r h Q:=gF rfl
theorem ahf {o:Nat} {x:aU} {j:Nat} {want:Bool}:bo P (.os D (⟨d,(.er o x),some (j,want),rs⟩::os)::aN) .normal r h Q=(fg (r.trim rs j)/\e1 (took (r.trim rs j) want) ((D5 o (x.aQ (r.trim rs))).isSome=true)/\dd P (some (V.opt (took (r.trim rs j) want) ((D5 o (x.aQ (r.trim rs))).getD .bad))) d D os aN r h Q):=gE rfl
theorem af' {o:Nat} {x:aU}:bo P (.os D (⟨d,(.oW o x),none,rs⟩::os)::aN) .normal r h Q=dd P ((x.aQ (r.trim rs)).tb none fun cs=>cs[o]?) d D os aN r h Q:=gF rfl
theorem ahg {o:Nat} {x:aU} {j:Nat} {want:Bool}:bo P (.os D (⟨d,(.oW o x),some (j,want),rs⟩::os)::aN) .normal r h Q=(fg (r.trim rs j)/\e1 (took (r.trim rs j) want) (((x.aQ (r.trim rs)).tb none fun cs=>cs[o]?).isSome=true)/\dd P (some (V.opt (took (r.trim rs j) want) (((x.aQ (r.trim rs)).tb none fun cs=>cs[o]?).getD .bad))) d D os aN r h Q):=gE rfl
theorem af_ {o n:Nat} {x:aU}:bo P (.os D (⟨d,(.v7 o n x),none,rs⟩::os)::aN) .normal r h Q=dd P ((x.aQ (r.trim rs)).tb none fun cs=>some (V.agg ((cs.drop o).take n))) d D os aN r h Q:=gF rfl
theorem ahh {o n:Nat} {x:aU} {j:Nat} {want:Bool}:bo P (.os D (⟨d,(.v7 o n x),some (j,want),rs⟩::os)::aN) .normal r h Q=(fg (r.trim rs j)/\e1 (took (r.trim rs j) want) (((x.aQ (r.trim rs)).tb none fun cs=>some (V.agg ((cs.drop o).take n))).isSome=true)/\dd P (some (V.opt (took (r.trim rs j) want) (((x.aQ (r.trim rs)).tb none fun cs=>some (V.agg ((cs.drop o).take n))).getD .bad))) d D os aN r h Q):=gE rfl
theorem agd {n:Nat} {x i:aU}:bo P (.os D (⟨d,(.bW n x i),none,rs⟩::os)::aN) .normal r h Q=dd P (f' n (x.aQ (r.trim rs)) (i.aQ (r.trim rs))) d D os aN r h Q:=gF rfl
theorem ahj {n:Nat} {x i:aU} {j:Nat} {want:Bool}:bo P (.os D (⟨d,(.bW n x i),some (j,want),rs⟩::os)::aN) .normal r h Q=(fg (r.trim rs j)/\e1 (took (r.trim rs j) want) ((f' n (x.aQ (r.trim rs)) (i.aQ (r.trim rs))).isSome=true)/\dd P (some (V.opt (took (r.trim rs j) want) ((f' n (x.aQ (r.trim rs)) (i.aQ (r.trim rs))).getD .bad))) d D os aN r h Q):=gE rfl
theorem age {m n:Nat} {x i:aU}:bo P (.os D (⟨d,(.uA m n x i),none,rs⟩::os)::aN) .normal r h Q=dd P ((sX m n).run (x.aQ (r.trim rs)) (i.aQ (r.trim rs))) d D os aN r h Q:=gF rfl
theorem ahk {m n:Nat} {x i:aU} {j:Nat} {want:Bool}:bo P (.os D (⟨d,(.uA m n x i),some (j,want),rs⟩::os)::aN) .normal r h Q=(fg (r.trim rs j)/\e1 (took (r.trim rs j) want) (((sX m n).run (x.aQ (r.trim rs)) (i.aQ (r.trim rs))).isSome=true)/\dd P (some (V.opt (took (r.trim rs j) want) (((sX m n).run (x.aQ (r.trim rs)) (i.aQ (r.trim rs))).getD .bad))) d D os aN r h Q):=gE rfl
theorem agi {x i:aU}:bo P (.os D (⟨d,(.mB x i),none,rs⟩::os)::aN) .normal r h Q=dd P (sZ.run (x.aQ (r.trim rs)) (i.aQ (r.trim rs))) d D os aN r h Q:=gF rfl
theorem ahn {x i:aU} {j:Nat} {want:Bool}:bo P (.os D (⟨d,(.mB x i),some (j,want),rs⟩::os)::aN) .normal r h Q=(fg (r.trim rs j)/\e1 (took (r.trim rs j) want) ((sZ.run (x.aQ (r.trim rs)) (i.aQ (r.trim rs))).isSome=true)/\dd P (some (V.opt (took (r.trim rs j) want) ((sZ.run (x.aQ (r.trim rs)) (i.aQ (r.trim rs))).getD .bad))) d D os aN r h Q):=gE rfl
theorem agh {t:TypeId} {x i:aU}:bo P (.os D (⟨d,(.jV t x i),none,rs⟩::os)::aN) .normal r h Q=dd P ((sY P t).run (x.aQ (r.trim rs)) (i.aQ (r.trim rs))) d D os aN r h Q:=gF rfl
theorem ahm {t:TypeId} {x i:aU} {j:Nat} {want:Bool}:bo P (.os D (⟨d,(.jV t x i),some (j,want),rs⟩::os)::aN) .normal r h Q=(fg (r.trim rs j)/\e1 (took (r.trim rs j) want) (((sY P t).run (x.aQ (r.trim rs)) (i.aQ (r.trim rs))).isSome=true)/\dd P (some (V.opt (took (r.trim rs j) want) (((sY P t).run (x.aQ (r.trim rs)) (i.aQ (r.trim rs))).getD .bad))) d D os aN r h Q):=gE rfl
theorem agq {k:jL} {z:V} {ok:Bool} {x i:aU}:bo P (.os D (⟨d,(.look k z ok x i),none,rs⟩::os)::aN) .normal r h Q=dd P (g' k.eq z ok h (x.aQ (r.trim rs)) (i.aQ (r.trim rs))) d D os aN r h Q:=gF rfl
theorem ahu {k:jL} {z:V} {ok:Bool} {x i:aU} {j:Nat} {want:Bool}:bo P (.os D (⟨d,(.look k z ok x i),some (j,want),rs⟩::os)::aN) .normal r h Q=(fg (r.trim rs j)/\e1 (took (r.trim rs j) want) ((g' k.eq z ok h (x.aQ (r.trim rs)) (i.aQ (r.trim rs))).isSome=true)/\dd P (some (V.opt (took (r.trim rs j) want) ((g' k.eq z ok h (x.aQ (r.trim rs)) (i.aQ (r.trim rs))).getD .bad))) d D os aN r h Q):=gE rfl
theorem af8 {x:aU} {i:Nat}:bo P (.os D (⟨d,(.ext x i),none,rs⟩::os)::aN) .normal r h Q=dd P ((x.aQ (r.trim rs)).B_ none fun af=>af[i]?) d D os aN r h Q:=gF rfl
theorem ahe {x:aU} {i:Nat} {j:Nat} {want:Bool}:bo P (.os D (⟨d,(.ext x i),some (j,want),rs⟩::os)::aN) .normal r h Q=(fg (r.trim rs j)/\e1 (took (r.trim rs j) want) (((x.aQ (r.trim rs)).B_ none fun af=>af[i]?).isSome=true)/\dd P (some (V.opt (took (r.trim rs j) want) (((x.aQ (r.trim rs)).B_ none fun af=>af[i]?).getD .bad))) d D os aN r h Q):=gE rfl
theorem agz {args:List aU}:bo P (.os D (⟨d,(.y0 args),none,rs⟩::os)::aN) .normal r h Q=dd P (kZ (fun b a=>!Int.leB a b) (aU.fM (r.trim rs) args)) d D os aN r h Q:=gF rfl
theorem ahB {args:List aU} {j:Nat} {want:Bool}:bo P (.os D (⟨d,(.y0 args),some (j,want),rs⟩::os)::aN) .normal r h Q=(fg (r.trim rs j)/\e1 (took (r.trim rs j) want) ((kZ (fun b a=>!Int.leB a b) (aU.fM (r.trim rs) args)).isSome=true)/\dd P (some (V.opt (took (r.trim rs j) want) ((kZ (fun b a=>!Int.leB a b) (aU.fM (r.trim rs) args)).getD .bad))) d D os aN r h Q):=gE rfl
theorem agC {args:List aU}:bo P (.os D (⟨d,(.ev args),none,rs⟩::os)::aN) .normal r h Q=dd P (kZ (fun b a=>!Int.leB b a) (aU.fM (r.trim rs) args)) d D os aN r h Q:=gF rfl
theorem ahD {args:List aU} {j:Nat} {want:Bool}:bo P (.os D (⟨d,(.ev args),some (j,want),rs⟩::os)::aN) .normal r h Q=(fg (r.trim rs j)/\e1 (took (r.trim rs j) want) ((kZ (fun b a=>!Int.leB b a) (aU.fM (r.trim rs) args)).isSome=true)/\dd P (some (V.opt (took (r.trim rs j) want) ((kZ (fun b a=>!Int.leB b a) (aU.fM (r.trim rs) args)).getD .bad))) d D os aN r h Q):=gE rfl
theorem afZ {k:IntKind} {x:aU}:bo P (.os D (⟨d,(.cA (.int k) x),none,rs⟩::os)::aN) .normal r h Q=dd P (DK k (x.aQ (r.trim rs))) d D os aN r h Q:=gF rfl
theorem ag_ {k:IntKind} {x:aU} {j:Nat} {want:Bool}:bo P (.os D (⟨d,(.cA (.int k) x),some (j,want),rs⟩::os)::aN) .normal r h Q=(fg (r.trim rs j)/\e1 (took (r.trim rs j) want) ((DK k (x.aQ (r.trim rs))).isSome=true)/\dd P (some (V.opt (took (r.trim rs j) want) ((DK k (x.aQ (r.trim rs))).getD .bad))) d D os aN r h Q):=gE rfl
theorem agn {x:aU}:bo P (.os D (⟨d,(.len .slice x),none,rs⟩::os)::aN) .normal r h Q=dd P (hK (x.aQ (r.trim rs))) d D os aN r h Q:=gF rfl
theorem ahs {x:aU} {j:Nat} {want:Bool}:bo P (.os D (⟨d,(.len .slice x),some (j,want),rs⟩::os)::aN) .normal r h Q=(fg (r.trim rs j)/\e1 (took (r.trim rs j) want) ((hK (x.aQ (r.trim rs))).isSome=true)/\dd P (some (V.opt (took (r.trim rs j) want) ((hK (x.aQ (r.trim rs))).getD .bad))) d D os aN r h Q):=gE rfl
theorem ago {x:aU}:bo P (.os D (⟨d,(.len .str x),none,rs⟩::os)::aN) .normal r h Q=dd P (Fc (x.aQ (r.trim rs))) d D os aN r h Q:=gF rfl
theorem aht {x:aU} {j:Nat} {want:Bool}:bo P (.os D (⟨d,(.len .str x),some (j,want),rs⟩::os)::aN) .normal r h Q=(fg (r.trim rs j)/\e1 (took (r.trim rs j) want) ((Fc (x.aQ (r.trim rs))).isSome=true)/\dd P (some (V.opt (took (r.trim rs j) want) ((Fc (x.aQ (r.trim rs))).getD .bad))) d D os aN r h Q):=gE rfl
theorem agl {n:Nat} {x:aU}:bo P (.os D (⟨d,(.len (.arr n) x),none,rs⟩::os)::aN) .normal r h Q=dd P (some (V.int .i64 n)) d D os aN r h Q:=gF rfl
theorem ahq {n:Nat} {x:aU} {j:Nat} {want:Bool}:bo P (.os D (⟨d,(.len (.arr n) x),some (j,want),rs⟩::os)::aN) .normal r h Q=(fg (r.trim rs j)/\e1 (took (r.trim rs j) want) ((some (V.int .i64 n)).isSome=true)/\dd P (some (V.opt (took (r.trim rs j) want) ((some (V.int .i64 n)).getD .bad))) d D os aN r h Q):=gE rfl
theorem agE {z:List V}:bo P (.os D (⟨d,(.new z),none,rs⟩::os)::aN) .normal r h Q=hb P (qt (.ptr (aC h.next) 0) (gk h z)) d D os aN r h Q:=iE rfl rfl
theorem ahE {z:List V} {j:Nat} {want:Bool}:bo P (.os D (⟨d,(.new z),some (j,want),rs⟩::os)::aN) .normal r h Q=fe P (r.trim rs j) want d (.new z) rs D os aN r h Q:=h0 rfl
theorem afP {x:aU}:bo P (.os D (⟨d,(.box x),none,rs⟩::os)::aN) .normal r h Q=hb P (Nw (x.aQ (r.trim rs)).fu (qt (.ptr (aC h.next) 0) (gk h (x.aQ (r.trim rs)).cells))) d D os aN r h Q:=iE rfl rfl
theorem ag3 {x:aU} {j:Nat} {want:Bool}:bo P (.os D (⟨d,(.box x),some (j,want),rs⟩::os)::aN) .normal r h Q=fe P (r.trim rs j) want d (.box x) rs D os aN r h Q:=h0 rfl
theorem afQ {n m:Nat} {z:List V} {bn:List (Nat × Nat × aU)}:bo P (.os D (⟨d,(.gq n m z bn),none,rs⟩::os)::aN) .normal r h Q=hb P (Dz n h (jc (iH z n) (kD (r.trim rs) bn))) d D os aN r h Q:=by rw [iE rfl rfl,alE]
theorem ag4 {n m:Nat} {z:List V} {bn:List (Nat × Nat × aU)} {j:Nat} {want:Bool}:bo P (.os D (⟨d,(.gq n m z bn),some (j,want),rs⟩::os)::aN) .normal r h Q=fe P (r.trim rs j) want d (.gq n m z bn) rs D os aN r h Q:=h0 rfl
theorem agU {n:Nat} {x y:aU}:bo P (.os D (⟨d,(.st n x y),none,rs⟩::os)::aN) .normal r h Q=hb P (qt .bad (rW n h (x.aQ (r.trim rs)) (y.aQ (r.trim rs)))) d D os aN r h Q:=iE rfl rfl
theorem ahO {n:Nat} {x y:aU} {j:Nat} {want:Bool}:bo P (.os D (⟨d,(.st n x y),some (j,want),rs⟩::os)::aN) .normal r h Q=fe P (r.trim rs j) want d (.st n x y) rs D os aN r h Q:=h0 rfl
theorem agy {n:Nat} {z:List V} {l c:aU}:bo P (.os D (⟨d,(.yZ n z l c),none,rs⟩::os)::aN) .normal r h Q=hb P (uM n z (l.aQ (r.trim rs)) (c.aQ (r.trim rs)) h) d D os aN r h Q:=iE rfl rfl
theorem ahA {n:Nat} {z:List V} {l c:aU} {j:Nat} {want:Bool}:bo P (.os D (⟨d,(.yZ n z l c),some (j,want),rs⟩::os)::aN) .normal r h Q=fe P (r.trim rs j) want d (.yZ n z l c) rs D os aN r h Q:=h0 rfl
theorem agX {k:jL} {m i x:aU}:bo P (.os D (⟨d,(.pt k m i x),none,rs⟩::os)::aN) .normal r h Q=hb P (qt .bad (j2 k.eq h (m.aQ (r.trim rs)) (i.aQ (r.trim rs)) (x.aQ (r.trim rs)))) d D os aN r h Q:=iE rfl rfl
theorem ahQ {k:jL} {m i x:aU} {j:Nat} {want:Bool}:bo P (.os D (⟨d,(.pt k m i x),some (j,want),rs⟩::os)::aN) .normal r h Q=fe P (r.trim rs j) want d (.pt k m i x) rs D os aN r h Q:=h0 rfl
theorem agx {x:Option aU}:bo P (.os D (⟨d,(.s7 x),none,rs⟩::os)::aN) .normal r h Q=hb P (rG (aU.opt (r.trim rs) x) h) d D os aN r h Q:=iE rfl rfl
theorem ahz {x:Option aU} {j:Nat} {want:Bool}:bo P (.os D (⟨d,(.s7 x),some (j,want),rs⟩::os)::aN) .normal r h Q=fe P (r.trim rs j) want d (.s7 x) rs D os aN r h Q:=h0 rfl
theorem agP {x:aU}:bo P (.os D (⟨d,(.zn x),none,rs⟩::os)::aN) .normal r h Q=hb P (F8 (x.aQ (r.trim rs)) h) d D os aN r h Q:=(iE rfl rfl).trans (by first | rfl | (unfold F8;simp only [G.run];cases x.aQ (r.trim rs)<;>rfl) | (unfold F8;cases x.aQ (r.trim rs)<;>rfl))
theorem ahL {x:aU} {j:Nat} {want:Bool}:bo P (.os D (⟨d,(.zn x),some (j,want),rs⟩::os)::aN) .normal r h Q=fe P (r.trim rs j) want d (.zn x) rs D os aN r h Q:=h0 rfl
theorem agH {x:aU}:bo P (.os D (⟨d,(.wY x),none,rs⟩::os)::aN) .normal r h Q=hb P (wX (x.aQ (r.trim rs)) h) d D os aN r h Q:=iE rfl rfl
theorem ahG {x:aU} {j:Nat} {want:Bool}:bo P (.os D (⟨d,(.wY x),some (j,want),rs⟩::os)::aN) .normal r h Q=fe P (r.trim rs j) want d (.wY x) rs D os aN r h Q:=h0 rfl
theorem afI {n:Nat} {s x:aU}:bo P (.os D (⟨d,(.app n s x),none,rs⟩::os)::aN) .normal r h Q=hb P (jM n (s.aQ (r.trim rs)) (x.aQ (r.trim rs)) h) d D os aN r h Q:=iE rfl rfl
theorem ag0 {n:Nat} {s x:aU} {j:Nat} {want:Bool}:bo P (.os D (⟨d,(.app n s x),some (j,want),rs⟩::os)::aN) .normal r h Q=fe P (r.trim rs j) want d (.app n s x) rs D os aN r h Q:=h0 rfl
theorem afW {n:Nat} {me s:aU}:bo P (.os D (⟨d,(.copy n me s),none,rs⟩::os)::aN) .normal r h Q=hb P (copyV n (me.aQ (r.trim rs)) (s.aQ (r.trim rs)) h) d D os aN r h Q:=iE rfl rfl
theorem ag9 {n:Nat} {me s:aU} {j:Nat} {want:Bool}:bo P (.os D (⟨d,(.copy n me s),some (j,want),rs⟩::os)::aN) .normal r h Q=fe P (r.trim rs j) want d (.copy n me s) rs D os aN r h Q:=h0 rfl
theorem agm {x:aU}:bo P (.os D (⟨d,(.len .map x),none,rs⟩::os)::aN) .normal r h Q=hb P (BR [x.aQ (r.trim rs)] h) d D os aN r h Q:=iE rfl rfl
theorem ahr {x:aU} {j:Nat} {want:Bool}:bo P (.os D (⟨d,(.len .map x),some (j,want),rs⟩::os)::aN) .normal r h Q=fe P (r.trim rs j) want d (.len .map x) rs D os aN r h Q:=h0 rfl
theorem afY {x:aU}:bo P (.os D (⟨d,(.cA .bytes x),none,rs⟩::os)::aN) .normal r h Q=hb P (AH.run (x.aQ (r.trim rs)) h) d D os aN r h Q:=iE rfl rfl
theorem ag' {x:aU} {j:Nat} {want:Bool}:bo P (.os D (⟨d,(.cA .bytes x),some (j,want),rs⟩::os)::aN) .normal r h Q=fe P (r.trim rs j) want d (.cA .bytes x) rs D os aN r h Q:=h0 rfl
theorem af1 {x:aU}:bo P (.os D (⟨d,(.cA .str x),none,rs⟩::os)::aN) .normal r h Q=hb P (tY.run (x.aQ (r.trim rs)) h) d D os aN r h Q:=iE rfl rfl
theorem ahb {x:aU} {j:Nat} {want:Bool}:bo P (.os D (⟨d,(.cA .str x),some (j,want),rs⟩::os)::aN) .normal r h Q=fe P (r.trim rs j) want d (.cA .str x) rs D os aN r h Q:=h0 rfl
theorem af0 {s me:TypeId} {x:aU}:bo P (.os D (⟨d,(.cA (.other s me) x),none,rs⟩::os)::aN) .normal r h Q=hb P ((q6 P s me).run (x.aQ (r.trim rs)) h) d D os aN r h Q:=iE rfl rfl
theorem aha {s me:TypeId} {x:aU} {j:Nat} {want:Bool}:bo P (.os D (⟨d,(.cA (.other s me) x),some (j,want),rs⟩::os)::aN) .normal r h Q=fe P (r.trim rs j) want d (.cA (.other s me) x) rs D os aN r h Q:=h0 rfl
theorem ag6 {f:FuncId} {args:List aU} {j:Nat} {want:Bool}:bo P (.os D (⟨d,(.call f args),some (j,want),rs⟩::os)::aN) .normal r h Q=fe P (r.trim rs j) want d (.call f args) rs D os aN r h Q:=h0 rfl
theorem ag7 {f:aU} {args:List aU} {j:Nat} {want:Bool}:bo P (.os D (⟨d,(.ma f args),some (j,want),rs⟩::os)::aN) .normal r h Q=fe P (r.trim rs j) want d (.ma f args) rs D os aN r h Q:=h0 rfl
theorem afT {x:aU}:bo P (.os D (⟨d,(.xR x),none,rs⟩::os)::aN) .normal r h Q=dd P (tX (x.aQ (r.trim rs))) d D os aN r h Q:=gF rfl
theorem ag8 {x:aU} {j:Nat} {want:Bool}:bo P (.os D (⟨d,(.xR x),some (j,want),rs⟩::os)::aN) .normal r h Q=(fg (r.trim rs j)/\e1 (took (r.trim rs j) want) ((tX (x.aQ (r.trim rs))).isSome=true)/\dd P (some (V.opt (took (r.trim rs j) want) ((tX (x.aQ (r.trim rs))).getD .bad))) d D os aN r h Q):=gE rfl
theorem agr {z:V} {ok:Bool} {x i:aU}:bo P (.os D (⟨d,(.yW z ok x i),none,rs⟩::os)::aN) .normal r h Q=dd P (hq ⟨jF h⟩ z ok h (x.aQ (r.trim rs)) (i.aQ (r.trim rs))) d D os aN r h Q:=gF rfl
theorem ahv {z:V} {ok:Bool} {x i:aU} {j:Nat} {want:Bool}:bo P (.os D (⟨d,(.yW z ok x i),some (j,want),rs⟩::os)::aN) .normal r h Q=(fg (r.trim rs j)/\e1 (took (r.trim rs j) want) ((hq ⟨jF h⟩ z ok h (x.aQ (r.trim rs)) (i.aQ (r.trim rs))).isSome=true)/\dd P (some (V.opt (took (r.trim rs j) want) ((hq ⟨jF h⟩ z ok h (x.aQ (r.trim rs)) (i.aQ (r.trim rs))).getD .bad))) d D os aN r h Q):=gE rfl
theorem ags {k:TypeId} {z:V} {ok:Bool} {x i:aU}:bo P (.os D (⟨d,(.looks k z ok x i),none,rs⟩::os)::aN) .normal r h Q=dd P (bif lp P k (i.aQ (r.trim rs)) then hq (structEq P k) z ok h (x.aQ (r.trim rs)) (i.aQ (r.trim rs)) else none) d D os aN r h Q:=gF rfl
theorem ahw {k:TypeId} {z:V} {ok:Bool} {x i:aU} {j:Nat} {want:Bool}:bo P (.os D (⟨d,(.looks k z ok x i),some (j,want),rs⟩::os)::aN) .normal r h Q=(fg (r.trim rs j)/\e1 (took (r.trim rs j) want) ((bif lp P k (i.aQ (r.trim rs)) then hq (structEq P k) z ok h (x.aQ (r.trim rs)) (i.aQ (r.trim rs)) else none).isSome=true)/\dd P (some (V.opt (took (r.trim rs j) want) ((bif lp P k (i.aQ (r.trim rs)) then hq (structEq P k) z ok h (x.aQ (r.trim rs)) (i.aQ (r.trim rs)) else none).getD .bad))) d D os aN r h Q):=gE rfl
theorem agK {neg:Bool} {x y:aU}:bo P (.os D (⟨d,(.w2 neg x y),none,rs⟩::os)::aN) .normal r h Q=dd P (ze neg h (x.aQ (r.trim rs)) (y.aQ (r.trim rs))) d D os aN r h Q:=gF rfl
theorem ahI {neg:Bool} {x y:aU} {j:Nat} {want:Bool}:bo P (.os D (⟨d,(.w2 neg x y),some (j,want),rs⟩::os)::aN) .normal r h Q=(fg (r.trim rs j)/\e1 (took (r.trim rs j) want) ((ze neg h (x.aQ (r.trim rs)) (y.aQ (r.trim rs))).isSome=true)/\dd P (some (V.opt (took (r.trim rs j) want) ((ze neg h (x.aQ (r.trim rs)) (y.aQ (r.trim rs))).getD .bad))) d D os aN r h Q):=gE rfl
theorem afJ {n:Nat} {z:List V} {s x:aU}:bo P (.os D (⟨d,(.An n z s x),none,rs⟩::os)::aN) .normal r h Q=hb P (Dp n z (s.aQ (r.trim rs)) (x.aQ (r.trim rs)) h) d D os aN r h Q:=iE rfl rfl
theorem ag1 {n:Nat} {z:List V} {s x:aU} {j:Nat} {want:Bool}:bo P (.os D (⟨d,(.An n z s x),some (j,want),rs⟩::os)::aN) .normal r h Q=fe P (r.trim rs j) want d (.An n z s x) rs D os aN r h Q:=h0 rfl
theorem agY {m i x:aU}:bo P (.os D (⟨d,(.CB m i x),none,rs⟩::os)::aN) .normal r h Q=hb P (qt .bad (j2 ⟨jF h⟩ h (m.aQ (r.trim rs)) (i.aQ (r.trim rs)) (x.aQ (r.trim rs)))) d D os aN r h Q:=iE rfl rfl
theorem ahR {m i x:aU} {j:Nat} {want:Bool}:bo P (.os D (⟨d,(.CB m i x),some (j,want),rs⟩::os)::aN) .normal r h Q=fe P (r.trim rs j) want d (.CB m i x) rs D os aN r h Q:=h0 rfl
theorem agZ {k:TypeId} {m i x:aU}:bo P (.os D (⟨d,(.zD k m i x),none,rs⟩::os)::aN) .normal r h Q=hb P (qt .bad (bif lp P k (i.aQ (r.trim rs)) then j2 (structEq P k) h (m.aQ (r.trim rs)) (i.aQ (r.trim rs)) (x.aQ (r.trim rs)) else none)) d D os aN r h Q:=iE rfl rfl
theorem ahS {k:TypeId} {m i x:aU} {j:Nat} {want:Bool}:bo P (.os D (⟨d,(.zD k m i x),some (j,want),rs⟩::os)::aN) .normal r h Q=fe P (r.trim rs j) want d (.zD k m i x) rs D os aN r h Q:=h0 rfl
theorem agv {z:V} {m i:aU}:bo P (.os D (⟨d,(.BZ z m i),none,rs⟩::os)::aN) .normal r h Q=hb P (DY z (m.aQ (r.trim rs)) (i.aQ (r.trim rs)) h) d D os aN r h Q:=iE rfl rfl
theorem ahx {z:V} {m i:aU} {j:Nat} {want:Bool}:bo P (.os D (⟨d,(.BZ z m i),some (j,want),rs⟩::os)::aN) .normal r h Q=fe P (r.trim rs j) want d (.BZ z m i) rs D os aN r h Q:=h0 rfl
theorem agw {k:TypeId} {z:V} {m i:aU}:bo P (.os D (⟨d,(.yY k z m i),none,rs⟩::os)::aN) .normal r h Q=hb P (xY P k z (m.aQ (r.trim rs)) (i.aQ (r.trim rs)) h) d D os aN r h Q:=iE rfl rfl
theorem ahy {k:TypeId} {z:V} {m i:aU} {j:Nat} {want:Bool}:bo P (.os D (⟨d,(.yY k z m i),some (j,want),rs⟩::os)::aN) .normal r h Q=fe P (r.trim rs j) want d (.yY k z m i) rs D os aN r h Q:=h0 rfl
theorem af6 {m s x:aU}:bo P (.os D (⟨d,(.x5 m s x),none,rs⟩::os)::aN) .normal r h Q=hb P (qt .bad (q8 h (m.aQ (r.trim rs)) (s.aQ (r.trim rs)) (x.aQ (r.trim rs)))) d D os aN r h Q:=iE rfl rfl
theorem ahd {m s x:aU} {j:Nat} {want:Bool}:bo P (.os D (⟨d,(.x5 m s x),some (j,want),rs⟩::os)::aN) .normal r h Q=fe P (r.trim rs j) want d (.x5 m s x) rs D os aN r h Q:=h0 rfl
theorem agO {x:aU}:bo P (.os D (⟨d,(.zm x),none,rs⟩::os)::aN) .normal r h Q=hb P (rangeMap (x.aQ (r.trim rs)) h) d D os aN r h Q:=iE rfl rfl
theorem ahK {x:aU} {j:Nat} {want:Bool}:bo P (.os D (⟨d,(.zm x),some (j,want),rs⟩::os)::aN) .normal r h Q=fe P (r.trim rs j) want d (.zm x) rs D os aN r h Q:=h0 rfl
theorem agI {x:aU}:bo P (.os D (⟨d,(.mG x),none,rs⟩::os)::aN) .normal r h Q=hb P (gG (x.aQ (r.trim rs)) h) d D os aN r h Q:=iE rfl rfl
theorem ahH {x:aU} {j:Nat} {want:Bool}:bo P (.os D (⟨d,(.mG x),some (j,want),rs⟩::os)::aN) .normal r h Q=fe P (r.trim rs j) want d (.mG x) rs D os aN r h Q:=h0 rfl
theorem af4 {x:aU}:bo P (.os D (⟨d,(.xZ x),none,rs⟩::os)::aN) .normal r h Q=hb P (t_ (x.aQ (r.trim rs)) h) d D os aN r h Q:=iE rfl rfl
theorem ahc {x:aU} {j:Nat} {want:Bool}:bo P (.os D (⟨d,(.xZ x),some (j,want),rs⟩::os)::aN) .normal r h Q=fe P (r.trim rs j) want d (.xZ x) rs D os aN r h Q:=h0 rfl
set_option linter.defProp false in
def r1:=And.intro @afT<|And.intro @ag8<|And.intro @agr<|And.intro @ahv<|And.intro @ags<|And.intro @ahw<|And.intro @agK<|And.intro @ahI<|And.intro @afJ<|And.intro @ag1<|And.intro @agY<|And.intro @ahR<|And.intro @agZ<|And.intro @ahS<|And.intro @agv<|And.intro @ahx<|And.intro @agw<|And.intro @ahy<|And.intro @af6<|And.intro @ahd<|And.intro @agO<|And.intro @ahK<|And.intro @agI<|And.intro @ahH<|And.intro @af4 @ahc
end
theorem ajb (h:ae) (af:List V):gk h af=if af.length<=top then some (h.new (.bT af 0 false)) else none:=by
 by_cases ar:af.length<=top
 . rw [apB ar,TI ar]
 . rw [apu ar];unfold gk;rw [show Nat.ble af.length top=false from by rw [<-ap1,apF];exact ar];rfl
theorem ahY (h:ae) (n:Nat) (b:aO) (off:Nat) (y:V) (af:List V) (ct:Nat) (st:Bool):
 ql n h b off y (.bT af ct st)=if y.cells.length=n/\e5 y.cells=true/\off+n<=af.length then some (h.set b (.bT (nx af off y.cells) ct st)) else none:=by
 by_cases au:y.cells.length=n/\e5 y.cells=true/\off+n<=af.length
 . rw [apB au,Kv au.1 au.2.1 au.2.2]
 . rw [apu au];unfold ql;by_cases U:y.cells.length=n
   . rw [show Nat.beq y.cells.length n=true from by rw [apT];exact U];simp only [apt,b'.bT,b'.on];by_cases ab:e5 y.cells=true
     . have aI:¬off+y.cells.length<=af.length:=fun q=>au ⟨U,ab,by omega⟩;rw [show Nat.ble (off+y.cells.length) af.length=false from by rw [<-ap1,apF];exact aI];rfl
     . rw [show e5 y.cells=false from by simpa using ab,aqG];rfl
   . rw [show Nat.beq y.cells.length n=false from by rw [<-ap1,apT];exact U];rfl
theorem abI (cells:List V) (off size:Nat) (v:V) (rest:List (Nat × Nat × V)):
 jc cells ((off,size,v)::rest)=if v.fu=true/\v.cells.length=size/\off+size<=cells.length then jc (nx cells off v.cells) rest else none:=by
 by_cases au:v.fu=true/\v.cells.length=size/\off+size<=cells.length
 . rw [apB au,abH au.1 au.2.1 au.2.2]
 . rw [apu au];simp only [jc];cases ah:(v.fu&&(Nat.beq v.cells.length size&&Nat.ble (off+v.cells.length) cells.length)) with
   | false=>rfl
   | true=>
     simp only [apn,apT,apF] at ah;exact absurd ⟨ah.1,ah.2.1,by omega⟩ au
theorem Z0 (b:Bool):V.cells (.bool b:V)=[.bool b]:=rfl
theorem ajN (b:Bool):V.one (.bool b:V)=true:=rfl
theorem aci (b:Bool):V.fu (.bool b:V)=true:=rfl
theorem Z4 (k:IntKind) (n:Int):V.cells (.int k n:V)=[.int k n]:=rfl
theorem ajR (k:IntKind) (n:Int):V.one (.int k n:V)=true:=rfl
theorem acn (k:IntKind) (n:Int):V.fu (.int k n:V)=true:=rfl
theorem aad (s:List UInt8):V.cells (.str s:V)=[.str s]:=rfl
theorem aj1 (s:List UInt8):V.one (.str s:V)=true:=rfl
theorem acx (s:List UInt8):V.fu (.str s:V)=true:=rfl
theorem Z9:V.cells (.km:V)=[.km]:=rfl
theorem ajX:V.one (.km:V)=true:=rfl
theorem acs:V.fu (.km:V)=true:=rfl
theorem aaa (b:aO) (o:Nat):V.cells (.ptr b o:V)=[.ptr b o]:=rfl
theorem ajZ (b:aO) (o:Nat):V.one (.ptr b o:V)=true:=rfl
theorem acv (b:aO) (o:Nat):V.fu (.ptr b o:V)=true:=rfl
theorem aac (b:aO) (o l c:Nat):V.cells (.slice b o l c:V)=[.slice b o l c]:=rfl
theorem aj0 (b:aO) (o l c:Nat):V.one (.slice b o l c:V)=true:=rfl
theorem acw (b:aO) (o l c:Nat):V.fu (.slice b o l c:V)=true:=rfl
theorem Z2 (b:aO) (o l c:Nat):V.cells (.dW b o l c:V)=[.dW b o l c]:=rfl
theorem ajP (b:aO) (o l c:Nat):V.one (.dW b o l c:V)=true:=rfl
theorem ack (b:aO) (o l c:Nat):V.fu (.dW b o l c:V)=true:=rfl
theorem aae (b:aO) (o l c:Nat):V.cells (.gb b o l c:V)=[.gb b o l c]:=rfl
theorem aj2 (b:aO) (o l c:Nat):V.one (.gb b o l c:V)=true:=rfl
theorem acy (b:aO) (o l c:Nat):V.fu (.gb b o l c:V)=true:=rfl
theorem Z':V.cells (.bu:V)=[.bu]:=rfl
theorem ajY:V.one (.bu:V)=true:=rfl
theorem acu:V.fu (.bu:V)=true:=rfl
theorem Z8:V.cells (.jW:V)=[.jW]:=rfl
theorem ajW:V.one (.jW:V)=true:=rfl
theorem acr:V.fu (.jW:V)=true:=rfl
theorem Z5 (b:aO):V.cells (.map b:V)=[.map b]:=rfl
theorem ajS (b:aO):V.one (.map b:V)=true:=rfl
theorem aco (b:aO):V.fu (.map b:V)=true:=rfl
theorem Z1 (f:FuncId) (cs:List V):V.cells (.func f cs:V)=[.func f cs]:=rfl
theorem ajO (f:FuncId) (cs:List V):V.one (.func f cs:V)=true:=rfl
theorem acj (f:FuncId) (cs:List V):V.fu (.func f cs:V)=true:=rfl
theorem Z7:V.cells (.jB:V)=[.jB]:=rfl
theorem ajV:V.one (.jB:V)=true:=rfl
theorem acq:V.fu (.jB:V)=true:=rfl
theorem Z3 (t:TypeId) (v:V):V.cells (.iface t v:V)=[.iface t v]:=rfl
theorem ajQ (t:TypeId) (v:V):V.one (.iface t v:V)=true:=rfl
theorem acm (t:TypeId) (v:V):V.fu (.iface t v:V)=true:=rfl
theorem Z6:V.cells (.nilIface:V)=[.nilIface]:=rfl
theorem ajU:V.one (.nilIface:V)=true:=rfl
theorem acp:V.fu (.nilIface:V)=true:=rfl
theorem ZZ (cs:List V):V.cells (.agg cs)=cs:=rfl
theorem ach (cs:List V):V.fu (.agg cs)=true:=rfl
theorem acz (cs:List V):V.fu (.tuple cs)=true:=rfl
theorem Xw (n:Nat):n+1+1=n+2:=rfl
theorem XC (n:Nat):n+2+1=n+3:=rfl
theorem XD (n:Nat):n+3+1=n+4:=rfl
theorem XE (n:Nat):n+4+1=n+5:=rfl
theorem XF (n:Nat):n+5+1=n+6:=rfl
theorem XG (n:Nat):n+6+1=n+7:=rfl
theorem XH (n:Nat):n+7+1=n+8:=rfl
theorem XI (n:Nat):n+8+1=n+9:=rfl
theorem XJ (n:Nat):n+9+1=n+10:=rfl
theorem Xv (n:Nat):n+10+1=n+11:=rfl
theorem Xx (n:Nat):n+11+1=n+12:=rfl
theorem Xy (n:Nat):n+12+1=n+13:=rfl
theorem Xz (n:Nat):n+13+1=n+14:=rfl
theorem XA (n:Nat):n+14+1=n+15:=rfl
theorem XB (n:Nat):n+15+1=n+16:=rfl
theorem TT (n:Nat):(n+1=n)=False:=apx (by omega)
theorem anw (n:Nat):(n=n+1)=False:=apx (by omega)
theorem B5 (n:Nat):(n+2=n)=False:=apx (by omega)
theorem anx (n:Nat):(n=n+2)=False:=apx (by omega)
theorem ajr (n:Nat):(n+3=n)=False:=apx (by omega)
theorem anz (n:Nat):(n=n+3)=False:=apx (by omega)
theorem ajs (n:Nat):(n+4=n)=False:=apx (by omega)
theorem anA (n:Nat):(n=n+4)=False:=apx (by omega)
theorem ajt (n:Nat):(n+5=n)=False:=apx (by omega)
theorem anB (n:Nat):(n=n+5)=False:=apx (by omega)
theorem aju (n:Nat):(n+6=n)=False:=apx (by omega)
theorem anC (n:Nat):(n=n+6)=False:=apx (by omega)
theorem ajv (n:Nat):(n+7=n)=False:=apx (by omega)
theorem anD (n:Nat):(n=n+7)=False:=apx (by omega)
theorem ajw (n:Nat):(n+8=n)=False:=apx (by omega)
theorem anE (n:Nat):(n=n+8)=False:=apx (by omega)
theorem acd {P:Program} {r:bd} {h:ae} {Q:cP->bd->ae->Prop} {aN:List hS} {os:List bs} {D:Option iZ} {d:Option Nat} {g:G} {rs:List Nat}:fe P (.bool true) true d g rs D os aN r h Q=bo P (.os D (⟨d,g,none,rs⟩::os)::aN) .normal r h Q:=by rw [QR];simp
theorem ab_ {P:Program} {r:bd} {h:ae} {Q:cP->bd->ae->Prop} {aN:List hS} {os:List bs} {D:Option iZ} {d:Option Nat} {g:G} {rs:List Nat}:fe P (.bool false) false d g rs D os aN r h Q=bo P (.os D (⟨d,g,none,rs⟩::os)::aN) .normal r h Q:=by rw [QQ];simp
theorem acb {P:Program} {r:bd} {h:ae} {Q:cP->bd->ae->Prop} {aN:List hS} {os:List bs} {D:Option iZ} {d:Option Nat} {g:G} {rs:List Nat}:fe P (.bool true) false d g rs D os aN r h Q=bo P (.os (jG D r h (.tuple [])) os::aN) .normal (r.set d (.tuple [])) h Q:=by rw [QQ];simp
theorem aca {P:Program} {r:bd} {h:ae} {Q:cP->bd->ae->Prop} {aN:List hS} {os:List bs} {D:Option iZ} {d:Option Nat} {g:G} {rs:List Nat}:fe P (.bool false) true d g rs D os aN r h Q=bo P (.os (jG D r h (.tuple [])) os::aN) .normal (r.set d (.tuple [])) h Q:=by rw [QR];simp
theorem Yi (c:Bool) (a b:V):V.bif (!c) a (V.opt c b)=V.bif (!c) a b:=by cases c<;>rfl
theorem afk (A:Prop):(True->A)=A:=propext ⟨fun q=>q trivial,fun q _=>q⟩
theorem afj (A:Prop):(False->A)=True:=propext ⟨fun _=>trivial,fun _ q=>q.elim⟩
section
variable {P:Program}
theorem eO {b:aX} {aN:List hS} {r:bd} {h:ae} {Q:cP->bd->ae->Prop} (I:bd->ae->Prop) (μ:bd->ae->Nat) (aY:I r h)
 (step:∀r h,I r h->bo P [.c b] .normal r h fun e bb aa=>e.andThen (I bb aa/\μ bb aa<μ r h) (bo P aN e bb aa Q)):BX P b aN r h Q:=
 ⟨I,μ,aY,step⟩
theorem ab' {b want:Bool} {d:Option Nat} {f:FuncId} {args:List aU} {rs:List Nat} {os:List bs} {D:Option iZ} {aN:List hS} {r:bd} {h:ae} {Q:cP->bd->ae->Prop} (v:V)
 (bA:(b == want)=true->eZ P f (aU.fM (r.trim rs) args) h v h)
 (H:bo P (.os (jG D r h (V.opt (b == want) v)) os::aN) .normal (r.set d (V.opt (b == want) v)) h Q):fe P (.bool b) want d (.call f args) rs D os aN r h Q:=by
 have:=ab9 (P:=P) (c:=true) (b:=b) (want:=want) (d:=d) (f:=f) (args:=args) (rs:=rs) (D:=D) (os:=os) (aN:=aN) (r:=r) (h:=h) (Q:=Q) v;simp only [V.opt,apt,aqm] at this;exact this bA H
theorem Ef {b:Bool} {d:Option Nat} {f:FuncId} {args:List aU} {rs:List Nat} {os:List bs} {D:Option iZ} {aN:List hS} {r:bd} {h:ae} {Q:cP->bd->ae->Prop} (v:V)
 (bA:(!b)=true->eZ P f (aU.fM (r.trim rs) args) h v h)
 (H:bo P (.os (jG D r h (V.opt (!b) v)) os::aN) .normal (r.set d (V.opt (!b) v)) h Q):fe P (.bool b) false d (.call f args) rs D os aN r h Q:=by
 refine ab' v ?_ ?_<;>rw [beq_false]<;>assumption
def V.toN:V->Nat
 | .int _ n=>n.toNat
 | _=>0
theorem amL (k:IntKind) (n:Int):V.toN (.int k n)=n.toNat:=rfl
theorem fZ {f:FuncId} {args:List V} {d:Option Nat} {os:List bs} {D:Option iZ} {aN:List hS} {r:bd} {h:ae} {Q:cP->bd->ae->Prop} {v:V}
 (c:eZ P f args h v h) (H:bo P (.os (jG D r h v) os::aN) .normal (r.set d v) h Q):q4 P f args d D os aN r h Q:=⟨v,h,c,H⟩
theorem bS {f:FuncId} {args:List V} {d:Option Nat} {os:List bs} {D:Option iZ} {aN:List hS} {r:bd} {h:ae} {Q:cP->bd->ae->Prop} {K:V->ae->Prop}
 (c:cv P f args h K) (H:∀v aa,K v aa->bo P (.os (jG D r h v) os::aN) .normal (r.set d v) aa Q):q4 P f args d D os aN r h Q:=c.mono H
structure Ext (h aa:ae):Prop where
 next:h.next<=aa.next
 get:∀b,Old h b->aa.get b=h.get b
theorem Ext.refl (h:ae):Ext h h:=⟨aps _,fun _ _=>rfl⟩
theorem Ext.bG {h aa:ae} (e:Ext h aa) {b:aO} (ah:Old h b):Old aa b:=Nat.lt_of_lt_of_le ah e.next
theorem Ext.trans {h aa oX:ae} (e:Ext h aa) (c6:Ext aa oX):Ext h oX:=
 ⟨aqc e.next c6.next,fun b ah=>(c6.get b (e.bG ah)).trans (e.get b ah)⟩
theorem Ext.new {h aa:ae} (e:Ext h aa) (k:b'):Ext h (aa.new k):=
 ⟨Nat.le_succ_of_le e.next,fun b ah=>by rw [iz,apu (fun q=>(K3 (h:=h) ah e.next) ▸ q)];exact e.get b ah⟩
theorem Ext.set {h aa:ae} (e:Ext h aa) {i:Nat} (ax:h.next<=i) (k:b'):Ext h (aa.set (aC i) k):=
 ⟨e.next,fun b ah=>by rw [dV,apu (fun q=>(K3 (h:=h) ah ax) ▸ q)];exact e.get b ah⟩
theorem Ext.rd {h aa:ae} (e:Ext h aa) {b:aO} (ah:Old h b) {af:List V} (H:mP h b af):mP aa b af:=by unfold mP at H ⊢;rw [e.get b ah];exact H
def h' (h:ae) (b:aO) (off:Nat) (af:List V):Prop:=Old h b/\∃us,mP h b us/\off+af.length<=us.length/\(us.drop off).take af.length=af
theorem h'.ext {h aa:ae} (e:Ext h aa) {b:aO} {off:Nat} {af:List V} (H:h' h b off af):h' aa b off af:=by obtain ⟨aY,us,U,ab,aI⟩:=H;exact ⟨e.bG aY,us,e.rd aY U,ab,aI⟩
theorem h'.dS {h:ae} {b:aO} {off:Nat} {af:List V} (H:h' h b off af) {i:Nat} (ax:i<af.length):fy (h.get b) (off+i)=some af[i]:=by
 obtain ⟨_,us,U,ab,aI⟩:=H;rw [U.dS,apo (by omega)];congr 1;have:((us.drop off).take af.length)[i]? =af[i]? :=by rw [aI]
 rw [aqk ax,aqA,apo (by omega),apo ax] at this;simpa using this
theorem h'.hJ {h:ae} {b:aO} {off:Nat} {af:List V} (H:h' h b off af) {i n:Nat} (ax:i+n<=af.length):lX n (h.get b) (off+i)=some (.agg ((af.drop i).take n)):=by
 obtain ⟨_,us,U,ab,aI⟩:=H;rw [U.hJ,apB (by omega)];congr 2;have:(((us.drop off).take af.length).drop i).take n=(af.drop i).take n:=by rw [aI]
 rw [<-this,List.drop_take,aqE,List.take_take];congr 1;omega
def e2 (h:ae) (size:Nat) (v:V) (n:Nat) (af:List V):Prop:=
 af.length=n * size/\match v with
  | .bu=>n=0
  | .slice b off len _=>len=n/\h' h b off af
  | .dW b off len _=>len=n/\h' h b off af
  | .gb _ _ _ _=>n=0
  | _=>False
theorem e2.ext {h aa:ae} (e:Ext h aa) {size:Nat} {v:V} {n:Nat} {af:List V} (H:e2 h size v n af):e2 aa size v n af:=by refine ⟨H.1,?_⟩;have cE:=H.2;cases v<;>simp only at cE ⊢<;>first | exact cE | exact ⟨cE.1,cE.2.ext e⟩
theorem e2.len {h:ae} {size:Nat} {v:V} {n:Nat} {af:List V} (H:e2 h size v n af):hK v=some (.int .i64 n):=by
 have cE:=H.2;cases v<;>simp only at cE<;>first
  | (rw [<-cE.1];rfl)
  | (subst cE;rfl)
  | (exact cE.elim)
theorem e2.bW {h:ae} {size:Nat} {v:V} {n:Nat} {af:List V} (H:e2 h size v n af) {k:IntKind} {i:Nat} (ax:i<n):
 ∃b off,f' size v (.int k i)=some (.ptr b (off+i * size))/\h' h b off af:=by
 have cE:=H.2;cases v<;>simp only at cE<;>first
  | omega
  | (exact cE.elim)
  | skip
 . rename_i b off len cap;obtain ⟨rfl,U⟩:=cE;refine ⟨b,off,?_,U⟩;rw [BC,apB (by omega)];simp
 . rename_i b off len cap;obtain ⟨rfl,U⟩:=cE;refine ⟨b,off,?_,U⟩;rw [BB,apB (by omega)];simp
end
structure Mod (M:aO->Prop) (h aa:ae):Prop where
 next:h.next<=aa.next
 get:∀b,Old h b->¬M b->aa.get b=h.get b
theorem Mod.refl (M:aO->Prop) (h:ae):Mod M h h:=⟨aps _,fun _ _ _=>rfl⟩
theorem Mod.bG {M:aO->Prop} {h aa:ae} (e:Mod M h aa) {b:aO} (ah:Old h b):Old aa b:=Nat.lt_of_lt_of_le ah e.next
theorem Mod.trans {M:aO->Prop} {h aa oX:ae} (e:Mod M h aa) (c6:Mod M aa oX):Mod M h oX:=
 ⟨aqc e.next c6.next,fun b ah hm=>(c6.get b (e.bG ah) hm).trans (e.get b ah hm)⟩
theorem Mod.mono {M z7:aO->Prop} {h aa:ae} (e:Mod M h aa) (hm:∀b,Old h b->M b->z7 b):Mod z7 h aa:=
 ⟨e.next,fun b ah aV=>e.get b ah fun q=>aV (hm b ah q)⟩
theorem Mod.new {M:aO->Prop} {h aa:ae} (e:Mod M h aa) (k:b'):Mod M h (aa.new k):=
 ⟨Nat.le_succ_of_le e.next,fun b ah hm=>by rw [iz,apu (fun q=>(K3 (h:=h) ah e.next) ▸ q)];exact e.get b ah hm⟩
theorem Mod.set {M:aO->Prop} {h aa:ae} (e:Mod M h aa) {b:aO} (ah:Old h b->M b) (k:b'):Mod M h (aa.set b k):=
 ⟨e.next,fun bO hh hm=>by
   rw [dV];by_cases q:b=bO
   . subst q;exact absurd (ah hh) hm
   . rw [apu q];exact e.get bO hh hm⟩
theorem Ext.mod {h aa:ae} (e:Ext h aa) (M:aO->Prop):Mod M h aa:=⟨e.next,fun b ah _=>e.get b ah⟩
theorem Ext.iq {h aa oX:ae} (e:Ext h aa) {M:aO->Prop} (m:Mod M aa oX) (hm:∀b,M b->h.next<=b0 b):Ext h oX:=
 ⟨aqc e.next m.next,fun b ah=>by
   have iQ:¬M b:=fun q=>by have:=hm b q;unfold Old at ah;omega
   exact (m.get b (e.bG ah) iQ).trans (e.get b ah)⟩
theorem Mod.at {M:aO->Prop} {h aa:ae} (e:Mod M h aa) {b:aO} {off:Nat} {af:List V} (H:h' h b off af) (hm:¬M b):h' aa b off af:=by obtain ⟨aY,us,U,ab,aI⟩:=H;refine ⟨e.bG aY,us,?_,ab,aI⟩;unfold mP at U ⊢;rw [e.get b aY hm];exact U
theorem h5 {h:ae} {i:Nat} (ax:i<h.next):Old h (aC i):=by unfold Old;rw [cV];exact ax
theorem B3 {h:ae} {b:aO} {i:Nat} (ah:Old h b) (ax:h.next<=i):(b=aC i)=False:=by apply apx;intro e;unfold Old at ah;rw [e,cV] at ah;omega
def V.aS:V->aO->Prop
 | .slice b _ _ _,bO=>bO=b
 | .dW b _ _ _,bO=>bO=b
 | _,_=>False
theorem e2.kP {h:ae} {size:Nat} {v:V} {n:Nat} {af:List V} (H:e2 h size v n af) {k:IntKind} {i:Nat} (ax:i<n):
 ∃b off,f' size v (.int k i)=some (.ptr b (off+i * size))/\h' h b off af/\v.aS b:=by
 have cE:=H.2;cases v<;>simp only at cE<;>first
  | omega
  | (exact cE.elim)
  | skip
 . rename_i b off len cap;obtain ⟨rfl,U⟩:=cE;refine ⟨b,off,?_,U,rfl⟩;rw [BC,apB (by omega)];simp
 . rename_i b off len cap;obtain ⟨rfl,U⟩:=cE;refine ⟨b,off,?_,U,rfl⟩;rw [BB,apB (by omega)];simp
theorem e2.one {h:ae} {size:Nat} {v:V} {n:Nat} {af:List V} (H:e2 h size v n af):v.one=true/\v.cells=[v]/\v.fu=true:=by have q:=H.2;cases v<;>simp only at q<;>first | exact ⟨rfl,rfl,rfl⟩ | exact q.elim
theorem e2.mod {M:aO->Prop} {h aa:ae} (e:Mod M h aa) {size:Nat} {v:V} {n:Nat} {af:List V} (H:e2 h size v n af) (hm:∀b,v.aS b->¬M b):e2 aa size v n af:=by refine ⟨H.1,?_⟩;have cE:=H.2;cases v<;>simp only at cE ⊢<;>first | exact cE | exact ⟨cE.1,e.at cE.2 (hm _ rfl)⟩
theorem e2.bG {h:ae} {size:Nat} {v:V} {n:Nat} {af:List V} (H:e2 h size v n af) {b:aO} (ah:v.aS b):Old h b:=by have cE:=H.2;cases v<;>simp only [V.aS] at cE ah<;>first | (exact ah.elim) | (subst ah;exact cE.2.1)
def dc (B:Nat) (h:ae) (size:Nat) (v:V) (n:Nat) (af:List V):Prop:=
 af.length=n * size/\match v with
  | .bu=>n=0
  | .slice b off len cap=>len=n/\B<=b0 b/\Old h b/\n<=cap/\cap<=top/\∃us ct st,h.get b=.bT us ct st/\off+cap * size<=us.length/\(us.drop off).take af.length=af
  | .dW b off len idx=>len=n/\B<=b0 b/\Old h b/\off=0/\idx=0/\∃us st,h.get b=.bT us size st/\af.length<=us.length/\us.take af.length=af
  | _=>False
theorem dc.v {B:Nat} {h:ae} {size:Nat} {v:V} {n:Nat} {af:List V} (H:dc B h size v n af):e2 h size v n af:=by
 obtain ⟨U,ab⟩:=H;refine ⟨U,?_⟩;cases v<;>simp only at ab ⊢<;>first | exact ab | skip
 . obtain ⟨aj,_,an,aJ,_,us,ct,st,bE,cO,en⟩:=ab;refine ⟨aj,an,us,.inr ⟨ct,st,bE⟩,?_,en⟩;rw [U];have:=aqi size aJ;omega
 . obtain ⟨aj,_,an,aJ,_,us,st,bE,cO,en⟩:=ab;subst aJ;exact ⟨aj,an,us,.inr ⟨size,st,bE⟩,by omega,by simpa using en⟩
theorem dc.base {B:Nat} {h:ae} {size:Nat} {v:V} {n:Nat} {af:List V} (H:dc B h size v n af) {b:aO} (ah:v.aS b):B<=b0 b:=by have cE:=H.2;cases v<;>simp only [V.aS] at cE ah<;>first | (exact ah.elim) | (subst ah;exact cE.2.1)
theorem dc.mono {B tC:Nat} {h:ae} {size:Nat} {v:V} {n:Nat} {af:List V} (H:dc B h size v n af) (cC:tC<=B):dc tC h size v n af:=by refine ⟨H.1,?_⟩;have cE:=H.2;cases v<;>simp only at cE ⊢<;>first | exact cE | exact ⟨cE.1,aqc cC cE.2.1,cE.2.2⟩
theorem dc.mod {M:aO->Prop} {h aa:ae} (e:Mod M h aa) {B size:Nat} {v:V} {n:Nat} {af:List V} (H:dc B h size v n af) (hm:∀b,v.aS b->¬M b):dc B aa size v n af:=by
 refine ⟨H.1,?_⟩;have cE:=H.2;cases v<;>simp only at cE ⊢<;>first | exact cE | skip
 . obtain ⟨aj,an,aJ,bE,cO,us,ct,st,en,hO⟩:=cE;exact ⟨aj,an,e.bG aJ,bE,cO,us,ct,st,by rw [e.get _ aJ (hm _ rfl)];exact en,hO⟩
 . obtain ⟨aj,an,aJ,bE,cO,us,st,en,hO⟩:=cE;exact ⟨aj,an,e.bG aJ,bE,cO,us,st,by rw [e.get _ aJ (hm _ rfl)];exact en,hO⟩
theorem dc.ext {h aa:ae} (e:Ext h aa) {B size:Nat} {v:V} {n:Nat} {af:List V} (H:dc B h size v n af):dc B aa size v n af:=
 H.mod (e.mod fun _=>False) fun _ _ q=>q
theorem S_ {h:ae} {size:Nat} {v:V} {n:Nat} {af:List V} (H:e2 h size v n af):n_ v=some n:=by
 have cE:=H.2;cases v<;>simp only at cE<;>first
  | (rw [<-cE.1];rfl)
  | (subst cE;rfl)
  | (exact cE.elim)
theorem zx {h:ae} {b:aO} {off size n:Nat} {af:List V} (H:h' h b off af) (ar:af.length=n * size):ps h size b off n=some af:=by obtain ⟨_,us,U,ab,aI⟩:=H;unfold ps;rw [U.pr,show Nat.ble (off+n * size) us.length=true from by rw [apF];omega,Ei us _ off (by omega),<-ar,aI];rfl
theorem ama {h:ae} {size:Nat} {v:V} {n:Nat} {af:List V} (H:e2 h size v n af):u6 h size v n=some af:=by
 obtain ⟨U,ab⟩:=H;cases v<;>simp only at ab<;>first
  | (exact ab.elim)
  | (obtain ⟨_,aI⟩:=ab;exact zx aI U)
  | (subst ab
     have:af=[]:=aqx (by omega);subst this;rfl)
theorem dc.grown {B:Nat} {h:ae} {size:Nat} {af:List V} {n:Nat} {st:Bool} (ar:af.length=n * size) (cC:B<=h.next):dc B (h.new (.bT af size st)) size (.dW (aC h.next) 0 n 0) n af:=
 ⟨ar,rfl,by rw [cV];exact cC,T5,rfl,rfl,af,st,nU _,aps _,are⟩
theorem Hy {h:ae} {size:Nat} {s x:V} {m:Nat} {af:List V} (cE:e2 h size x m af) (hm:m<=top):jM size s x h=(match s with
 | .bu=>vF size m af h
 | .slice b off len cap=>vE size b off len cap m af h
 | .dW b off len idx=>xL size b off len idx m af h
 | _=>.fail):=by
 unfold jM;rw [S_ cE];simp only;rw [ama cE];simp only;rw [show Nat.ble m top=true from by rw [apF];exact hm];rfl
theorem LR (A:List V) (o:Nat) (W:List V) (h:o+W.length<=A.length) (q:Nat):(hx A o W)[q]? =if q<o then A[q]? else if q<o+W.length then W[q-o]? else A[q]? :=by
 have ar:(A.take o).length=o:=by rw [apU];omega
 unfold hx;rw [ap8];by_cases bQ:q<o
 . rw [apB bQ,apM (by omega),aqk bQ]
 . rw [apu bQ,apN (by omega),ar];by_cases b2:q<o+W.length
   . rw [apB b2,apM (by omega)]
   . rw [apu b2,apN (by omega),aqA];congr 1;omega
theorem Gn (A:List V) (o j:Nat) (L W:List V) (na:o+L.length<=A.length) (cX:(A.drop o).take L.length=L) (bC:j+W.length<=L.length):((hx A (o+j) W).drop o).take L.length=hx L j W:=by
 apply arA;intro q;have ar:((A.drop o).take L.length)[q]? =L[q]? :=by rw [cX]
 rw [LR L j W bC];by_cases aq:q<L.length
 . rw [aqk aq,aqA,LR A (o+j) W (by omega)];rw [aqk aq,aqA] at ar;by_cases bQ:q<j
   . rw [apB (by omega),apB bQ,ar]
   . rw [apu (by omega),apu bQ];by_cases b2:q<j+W.length
     . rw [apB (by omega),apB b2];congr 1;omega
     . rw [apu (by omega),apu b2,ar]
 . rw [List.getElem?_take_eq_none (by omega),apu (by omega),apu (by omega),apS (by omega)]
theorem vG {B:Nat} {h:ae} {size:Nat} {s x:V} {n m:Nat} {us af:List V} (cn:1<=size) (H1:dc B h size s n us) (cE:e2 h size x m af) (cC:B<=h.next) (hlen:(n+m) * size<=top) (aT:e5 af=true):
 ∃v aa,jM size s x h=.val v aa/\dc B aa size v (n+m) (us++af)/\Mod s.aS h aa/\∀b,v.aS b->s.aS b\/h.next<=b0 b:=by
 have iQ:n+m<=top:=aqc (Nat.le_mul_of_pos_right _ cn) hlen;have jS:=H1.1;have hW:=cE.1;have hj:(us++af).length=(n+m) * size:=by rw [apC,jS,hW,aqr]
 rw [Hy cE (by omega)];have ab:=H1.2;cases s<;>simp only at ab ⊢<;>try (exact ab.elim)
 case bu=>
  subst ab;have:us=[]:=aqx (by omega);subst this;unfold vF;by_cases hm:m=0
  . subst hm;have:af=[]:=aqx (by omega);subst this;exact ⟨.bu,h,rfl,⟨by simp,rfl⟩,Mod.refl _ _,fun b ah=>.inl ah⟩
  . rw [show Nat.beq m 0=false from by rw [<-ap1,apT];exact hm];simp only [apA];rw [B2 (by rw [hW];simpa using hlen) cn];refine ⟨_,_,rfl,?_,(Mod.refl _ _).new _,fun b ah=>.inr (by rw [show b=aC h.next from ah,cV];exact aps _)⟩;have:=dc.grown (B:=B) (h:=h) (size:=size) (af:=af) (n:=m) (st:=false) hW cC;simpa using this
 case slice b off len cap=>
  obtain ⟨rfl,an,aJ,bE,cO,h9,ct,st,en,hO,jl⟩:=ab;unfold vE;by_cases au:len+m<=cap
  . rw [show Nat.ble (len+m) cap=true from by rw [apF];exact au];simp only [apt];have ei:off+len * size+af.length<=h9.length:=by
     have:=aqi size au;rw [aqr] at this;rw [hW];omega
    rw [Own.lay (af:=h9) (ct:=ct) (st:=st) en ei aT];refine ⟨_,_,rfl,⟨hj,rfl,an,aJ,au,cO,_,ct,st,dV _ _ _ |>.trans (apB rfl),?_,?_⟩,(Mod.refl (V.aS (.slice b off len cap)) h).set (fun _=>rfl) _,fun bO ah=>.inl ah⟩
    . rw [qF _ _ _ ei];exact hO
    . rw [apC];unfold hx;have dZ:off+us.length<=h9.length:=by rw [jS];omega
      have av:h9.take (off+len * size)=h9.take off++us:=by rw [<-jS,List.take_add,jl]
      rw [av,ap8,ap8,List.drop_append,aqf (by rw [apU];omega),aql];rw [show off - (h9.take off).length=0 from by rw [apU];omega,aqu];rw [<-ap8,arI (by rw [apC])]
  . rw [show Nat.ble (len+m) cap=false from by rw [<-ap1,apF];exact au];simp only [apA];rw [show (Nat.ble (len+m) top&&Nat.ble cap top)=true from by simp only [apn,apF];exact ⟨iQ,cO⟩];simp only [apt];have rh:h' h b off us:=⟨aJ,h9,.inr ⟨ct,st,en⟩,by rw [jS];have:=aqi size bE;omega,jl⟩;rw [zx rh jS];simp only;rw [B2 (by rw [hj];exact hlen) cn];exact ⟨_,_,rfl,dc.grown hj cC,(Mod.refl _ _).new _,fun b ah=>.inr (by rw [show b=aC h.next from ah,cV];exact aps _)⟩
 case dW b off len idx=>
  obtain ⟨rfl,an,aJ,rfl,rfl,h9,st,en,hO,jl⟩:=ab;unfold xL;by_cases hm:m=0
  . subst hm;have:af=[]:=aqx (by omega);subst this;exact ⟨_,h,rfl,⟨hj,rfl,an,aJ,rfl,rfl,h9,st,en,by simpa using hO,by simpa using jl⟩,Mod.refl _ _,fun b ah=>.inl ah⟩
  . rw [show Nat.beq m 0=false from by rw [<-ap1,apT];exact hm];simp only [apA];rw [en];simp only [b'.bT,b'.on];rw [show (Nat.beq size size&&(Nat.ble (len+m) top&&e5 af)&&Nat.beq 0 (0 * size))=true from by
     simp only [apn,apT,apF]
     exact ⟨⟨trivial,iQ,aT⟩,by omega⟩]
    simp only [apt];have rh:h' h b 0 us:=⟨aJ,h9,.inr ⟨size,st,en⟩,by omega,by simpa using jl⟩;rw [zx rh jS];simp only;rw [B2 (by rw [hj];exact hlen) cn];exact ⟨_,_,rfl,dc.grown (h:=h.set b .dead) hj cC,((Mod.refl (V.aS (.dW b 0 len 0)) h).set (fun _=>rfl) _).new _,fun bO ah=>.inr (by rw [show bO=aC h.next from ah,cV];exact aps _)⟩
theorem dc.put {B:Nat} {h:ae} {size:Nat} {v:V} {n:Nat} {af:List V} (H:dc B h size v n af) {i:Nat} (ax:i<n) {k:IntKind} {y:V} (a8:y.cells.length=size) (aT:e5 y.cells=true):
 ∃b off aa,f' size v (.int k i)=some (.ptr b (off+i * size))/\v.aS b/\rW size h (.ptr b (off+i * size)) y=some aa/\dc B aa size v n (hx af (i * size) y.cells)/\Mod v.aS h aa:=by
 obtain ⟨U,ab⟩:=H;have aL:i * size+size<=n * size:=by have:=aqi size (show i+1<=n from ax);rw [aqr] at this;omega
 cases v<;>simp only at ab<;>try (first | omega | exact ab.elim)
 case slice b off len cap=>
  obtain ⟨rfl,an,aJ,bE,cO,h9,ct,st,en,hO,jl⟩:=ab;have au:=aqi size bE;have ei:off+i * size+y.cells.length<=h9.length:=by rw [a8];omega
  refine ⟨b,off,_,?_,rfl,Own.store (af:=h9) (ct:=ct) (st:=st) en a8 (by rw [a8] at ei;exact ei) aT,⟨?_,rfl,an,aJ,bE,cO,_,ct,st,dV _ _ _ |>.trans (apB rfl),?_,?_⟩,(Mod.refl (V.aS (.slice b off len cap)) h).set (fun _=>rfl) _⟩
  . rw [BC,apB (by omega)];simp
  . rw [qF _ _ _ (by rw [a8,U];omega)];exact U
  . rw [qF _ _ _ ei];exact hO
  . rw [qF _ _ _ (by rw [a8,U];omega)];exact Gn h9 off (i * size) af y.cells (by rw [U];omega) jl (by rw [a8,U];omega)
 case dW b off len idx=>
  obtain ⟨rfl,an,aJ,rfl,rfl,h9,st,en,hO,jl⟩:=ab;have ei:i * size+y.cells.length<=af.length:=by rw [a8,U];omega
  have Bq:0+i * size+y.cells.length<=h9.length:=by omega
  refine ⟨b,0,_,?_,rfl,Own.store (af:=h9) (ct:=size) (st:=st) en a8 (by rw [a8] at Bq;exact Bq) aT,⟨?_,rfl,an,aJ,rfl,rfl,_,st,dV _ _ _ |>.trans (apB rfl),?_,?_⟩,(Mod.refl (V.aS (.dW b 0 len 0)) h).set (fun _=>rfl) _⟩
  . rw [BB,apB (by omega)];simp
  . rw [qF _ _ _ ei];exact U
  . rw [qF _ _ _ ei,qF _ _ _ Bq];exact hO
  . rw [qF _ _ _ ei];have:=Gn h9 0 (i * size) af y.cells (by omega) (by simpa using jl) ei;simpa using this
def V.at (v:V) (b:aO) (off:Nat):Prop:=
 match v with
 | .slice bO o _ _=>b=bO/\off=o
 | .dW bO o _ _=>b=bO/\off=o
 | _=>False
theorem X8 {h:ae} {size:Nat} {v:V} {n:Nat} {af:List V} (H:e2 h size v n af) {k:IntKind} {i:Nat} (ax:i<n) {b:aO} {off:Nat} (e:f' size v (.int k i)=some (.ptr b (off+i * size))):v.at b off:=by
 have cE:=H.2;cases v<;>simp only at cE<;>first | omega | (exact cE.elim) | skip
 . obtain ⟨rfl,_⟩:=cE;rw [BC,apB (by omega)] at e;simp only [apq,V.ptr.injEq,apy] at e;exact ⟨e.1.symm,by omega⟩
 . obtain ⟨rfl,_⟩:=cE;rw [BB,apB (by omega)] at e;simp only [apq,V.ptr.injEq,apy] at e;exact ⟨e.1.symm,by omega⟩
theorem VD (af:List V) (c:Nat) (y:V) (h:c<af.length):hx af c [y]=af.set c y:=by unfold hx;rw [List.set_eq_take_append_cons_drop,apB h];simp
theorem dc.akN {B:Nat} {h:ae} {size:Nat} {v:V} {n:Nat} {af:List V} (H:dc B h size v n af) {b:aO} {off:Nat} (bw:v.at b off) {c:Nat} (au:c<af.length) {y:V} (a8:y.cells=[y]) (aT:y.one=true):
 ∃k,ql 1 h b (off+c) y (h.get b)=some (h.set b k)/\(∀gm:ae,gm.get b=h.get b->ql 1 gm b (off+c) y (h.get b)=some (gm.set b k))/\dc B (h.set b k) size v n (af.set c y)/\v.aS b:=by
 obtain ⟨U,ab⟩:=H;have hl:e5 y.cells=true:=by rw [a8];simp [e5,aT]
 cases v<;>simp only at ab<;>simp only [V.at] at bw<;>try (exact bw.elim)
 case slice bO o len cap=>
  obtain ⟨rfl,rfl⟩:=bw;obtain ⟨rfl,an,aJ,bE,cO,h9,ct,st,en,hO,jl⟩:=ab;have oZ:=aqi size bE;have ei:off+c+y.cells.length<=h9.length:=by rw [a8];simp;omega
  have e:∀gm:ae,gm.get b=h.get b->ql 1 gm b (off+c) y (h.get b)=some (gm.set b (.bT (nx h9 (off+c) y.cells) ct st)):=by intro gm _;rw [en];exact Kv (by rw [a8];rfl) hl (by rw [a8] at ei;simpa using ei)
  refine ⟨_,e h rfl,e,⟨by simpa using U,rfl,an,aJ,bE,cO,_,ct,st,dV _ _ _ |>.trans (apB rfl),?_,?_⟩,rfl⟩
  . rw [LQ _ _ _ ei];exact hO
  . rw [zw _ _ _ ei,List.length_set];have:=Gn h9 off c af y.cells (by rw [U];omega) jl (by rw [a8];simp;omega);rw [this,a8,VD af c y au]
 case dW bO o len idx=>
  obtain ⟨rfl,rfl⟩:=bw;obtain ⟨rfl,an,aJ,rfl,rfl,h9,st,en,hO,jl⟩:=ab;have ei:0+c+y.cells.length<=h9.length:=by rw [a8];simp;omega
  have e:∀gm:ae,gm.get b=h.get b->ql 1 gm b (0+c) y (h.get b)=some (gm.set b (.bT (nx h9 (0+c) y.cells) size st)):=by intro gm _;rw [en];exact Kv (by rw [a8];rfl) hl (by rw [a8] at ei;simpa using ei)
  refine ⟨_,e h rfl,e,⟨by simpa using U,rfl,an,aJ,rfl,rfl,_,st,dV _ _ _ |>.trans (apB rfl),?_,?_⟩,rfl⟩
  . rw [LQ _ _ _ ei,List.length_set];exact hO
  . rw [zw _ _ _ ei,List.length_set];have:=Gn h9 0 c af y.cells (by omega) (by simpa using jl) (by rw [a8];simp;omega);rw [aqu] at this;rw [this,a8,VD af c y au]
theorem aj_ (r:bd):aU.opt r none=none:=(rfl)
theorem aka (r:bd) (x:aU):aU.opt r (some x)=some (x.aQ r):=(rfl)
theorem vM {k:IntKind} {m d y:Nat} (h:m<=y):bound (some (.int k (m:Int))) d y=some m:=by simp only [bound,V.ew,pd];rw [show (decide ((0:Int)<=(m:Int))&&decide ((m:Int)<=(y:Int)))=true from by simp;omega];simp
theorem tW (d y:Nat):bound none d y=some d:=rfl
theorem e2.cut {h:ae} {size:Nat} {v:V} {n:Nat} {af:List V} (H:e2 h size v n af) {k bp:IntKind} {br ax:Nat} (U:br<=ax) (ab:ax<=n) (kS kK:Option V)
 (dZ:kS=some (.int k br)\/kS=none/\br=0) (hH:kK=some (.int bp ax)\/kK=none/\ax=n) (kH:∀b off l c,v=.slice b off l c->l<=c):
 ∃b1,hP size v kS kK none=some b1/\e2 h size b1 (ax-br) ((af.drop (br * size)).take ((ax-br) * size))/\∀b,b1.aS b->v.aS b:=by
 obtain ⟨aj,an⟩:=H;have hj:((af.drop (br * size)).take ((ax-br) * size)).length=(ax-br) * size:=by rw [apU,apY,aj];have av:=aqi size U;have aK:=aqi size ab;rw [Nat.sub_mul];omega
 have oK:∀y,br<=y->bound kS 0 y=some br:=by
  intro y a8;rcases dZ with rfl | ⟨rfl,rfl⟩
  . exact vM a8
  . rfl
 have q1:∀d y,n=d->n<=y->bound kK d y=some ax:=by
  intro d y aH a8;rcases hH with rfl | ⟨rfl,rfl⟩
  . exact vM (by omega)
  . rw [tW,aH]
 have piece:∀(b:aO) (off:Nat),h' h b off af->h' h b (off+br * size) ((af.drop (br * size)).take ((ax-br) * size)):=by
  rintro b off ⟨bJ,us,a2,a3,a4⟩;have av:=aqi size U;have aK:=aqi size ab;refine ⟨bJ,us,a2,?_,?_⟩
  . rw [hj,Nat.sub_mul];omega
  . rw [hj,<-aqE];have:(us.drop off).drop (br * size)=(((us.drop off).take af.length).drop (br * size))++(us.drop off).drop af.length:=by
     rw [<-List.drop_append_of_le_length (by rw [apU,apY];omega),aqN]
    rw [this,a4,List.take_append_of_le_length (by rw [apY,aj,Nat.sub_mul];omega)]
 cases v<;>simp only at an<;>try (exact an.elim)
 case bu=>
  subst an;obtain rfl:ax=0:=by omega
  obtain rfl:br=0:=by omega
  refine ⟨.bu,?_,⟨hj,rfl⟩,fun b ah=>ah⟩;simp only [hP,zu,q1 0 0 rfl (aps _),oK 0 (aps _)]
 case slice b off len cap=>
  obtain ⟨rfl,aJ⟩:=an;have au:=kH b off len cap rfl;have e:hP size (.slice b off len cap) kS kK none=some (.slice b (bif Nat.beq cap br then off else off+br * size) (ax-br) (cap-br)):=by simp only [hP,rU,q1 len cap rfl au,oK ax U]
  rw [e];refine ⟨_,rfl,⟨hj,rfl,?_⟩,fun bO ah=>ah⟩;cases ah:Nat.beq cap br with
  | false=>exact piece b off aJ
  | true=>
    rw [apT] at ah;obtain rfl:ax=br:=by omega
    obtain ⟨bJ,us,a2,a3,a4⟩:=aJ;refine ⟨bJ,us,a2,?_,?_⟩<;>simp;omega
 case dW b off len idx=>
  obtain ⟨rfl,aJ⟩:=an;by_cases aL:br<len
  . have e:hP size (.dW b off len idx) kS kK none=some (.dW b (off+br * size) (ax-br) (idx+br)):=by
     simp only [hP,rT,q1 len len rfl (aps _),oK ax U];rw [show Nat.blt br len=true from by rw [apQ];exact aL];rfl
    rw [e];exact ⟨_,rfl,⟨hj,rfl,piece b off aJ⟩,fun bO ah=>ah⟩
  . have e:hP size (.dW b off len idx) kS kK none=some (.gb b off (off+br * size) (idx+br)):=by
     simp only [hP,rT,q1 len len rfl (aps _),oK ax U];rw [show Nat.blt br len=false from by rw [<-ap1,apQ];exact aL];rfl
    rw [e];exact ⟨_,rfl,⟨hj,by omega⟩,fun bO ah=>ah.elim⟩
 case gb b off jE idx=>
  subst an;obtain rfl:ax=0:=by omega
  obtain rfl:br=0:=by omega
  refine ⟨.gb b off jE idx,?_,⟨hj,rfl⟩,fun b ah=>ah⟩;simp only [hP,zv,q1 0 0 rfl (aps _),oK 0 (aps _)]
theorem ajk (b:aO) (o:Nat):uR (.ptr b o)=some (.ptr b o):=rfl
theorem ai3 (k bp:IntKind) (a b:Int):kZ (fun b a=>!Int.leB a b) [.int k a,.int bp b]=some (.int k (if b<a then b else a)):=by
 simp only [kZ,w3,V.ew,pd];by_cases h:b<a
 . rw [apB h];have:¬a<=b:=by omega
   simp [this]
 . rw [apu h];have:a<=b:=by omega
   simp [this]
theorem TD (k bp:IntKind) (a b:Int):kZ (fun b a=>!Int.leB b a) [.int k a,.int bp b]=some (.int k (if a<b then b else a)):=by
 simp only [kZ,w3,V.ew,pd];by_cases h:a<b
 . rw [apB h];have:¬b<=a:=by omega
   simp [this]
 . rw [apu h];have:b<=a:=by omega
   simp [this]
theorem h'.cell {h:ae} {b:aO} {off:Nat} {af:List V} (H:h' h b off af) {i j n:Nat} {ws:List V} (hw:(af.drop i).take n=ws) (ax:i+n<=af.length) (bC:j<n):fy (h.get b) (off+i+j)=ws[j]? :=by rw [aqD,H.dS (by omega),<-hw,aqk bC,aqA,apo]
end
section
open Go Go.RowKit
set_option linter.defProp false
variable [Lay]
end
section
open Go Go.RowKit
variable [Lay]
theorem aau {P:Program} {aN:List hS} {r:bd} {h:ae} {Q:cP->bd->ae->Prop} {a b:aX}:xS P (.bool true) a b aN r h Q=bo P (.c a::aN) .normal r h Q:=by rw [PF];simp
theorem aat {P:Program} {aN:List hS} {r:bd} {h:ae} {Q:cP->bd->ae->Prop} {a b:aX}:xS P (.bool false) a b aN r h Q=bo P (.c b::aN) .normal r h Q:=by rw [PF];simp
theorem Nr (a b:List UInt8):lJ a b=decide (a=b):=by rw [vK,aqg];simp
theorem HL (k:IntKind) (b:Int) (d y:Nat):bound (some (.int k b)) d y=if 0<=b/\b<=(y:Int) then some b.toNat else none:=by simp only [bound,V.ew,pd];by_cases U:0<=b<;>by_cases ab:b<=(y:Int)<;>simp [U,ab]
theorem al4 (s:List UInt8) (k:IntKind) (b:Int):mJ (.str s) none (some (.int k b)) none=if 0<=b/\b<=(s.length:Int) then some (.str (s.take b.toNat)) else none:=by
 simp only [mJ,HL];by_cases h:0<=b/\b<=(s.length:Int)
 . simp only [h,and_self,ap0,bound,aqu,arD]
 . simp only [h,ap2]
theorem al5 (s:List UInt8) (k:IntKind) (a:Int):mJ (.str s) (some (.int k a)) none none=if 0<=a/\a<=(s.length:Int) then some (.str (s.drop a.toNat)) else none:=by
 simp only [mJ,tW,HL];by_cases h:0<=a/\a<=(s.length:Int)
 . simp only [h,and_self,ap0];rw [apZ (by rw [apY];omega)]
 . simp only [h,ap2]
theorem al6 (s:List UInt8) (k bp:IntKind) (a b:Int):mJ (.str s) (some (.int k a)) (some (.int bp b)) none=if 0<=a/\a<=b/\b<=(s.length:Int) then some (.str ((s.drop a.toNat).take (b.toNat-a.toNat))) else none:=by
 simp only [mJ,HL];by_cases h:0<=b/\b<=(s.length:Int)
 . simp only [h,and_self,ap0];by_cases ab:0<=a/\a<=b
   . have:0<=a/\a<=((b.toNat:Nat):Int):=by omega
     simp only [this,and_self,ap0,ab,h]
   . have aI:¬(0<=a/\a<=((b.toNat:Nat):Int)):=by omega
     have bq:¬(0<=a/\a<=b/\b<=(s.length:Int)):=by omega
     have cF:¬(0<=a/\a<=b/\True):=fun q=>ab ⟨q.1,q.2.1⟩;rw [apu cF,apu aI]
 . have bq:¬(0<=a/\a<=b/\b<=(s.length:Int)):=by omega
   simp only [h,bq,ap2]
theorem al3 (s:List UInt8):mJ (.str s) none none none=some (.str s):=by simp only [mJ,tW,aqu,arD,are]
section
variable {P:Program}
theorem alN (a b:List UInt8):(e8.str .eql).run P (.str a) (.str b)=some (.bool (decide (a=b))):=by simp only [e8.run,tp,rX,Nr]
theorem alM (a b:List UInt8):(e8.str .add).run P (.str a) (.str b)=if a.length+b.length<=top then some (.str (a++b)) else none:=by
 simp only [e8.run,tp,Gs];by_cases h:a.length+b.length<=top
 . rw [apB h,show Nat.ble (a.length+b.length) top=true from by rw [apF];exact h];rfl
 . rw [apu h,show Nat.ble (a.length+b.length) top=false from by rw [<-ap1,apF];exact h];rfl
theorem alO (s:List UInt8) (k:IntKind) (i:Int):sZ.run (.str s) (.int k i)=if 0<=i/\i < (s.length:Int) then some (.int .u8 (((s[i.toNat]?).getD 0).toNat:Int)) else none:=by
 simp only [sZ,V.ew,pd];by_cases U:0<=i
 . simp only [U,aq8,apt,ari];by_cases ab:i < (s.length:Int)
   . rw [apB ab,apo (by omega)];rfl
   . rw [apu ab,apS (by omega)]
 . simp only [U,aq2,apA,arH,ap2]
theorem alP (a b:List UInt8):(e8.str .neq).run P (.str a) (.str b)=some (.bool (!decide (a=b))):=by simp only [e8.run,tp,rX,Nr]
end
end
section
open Go Go.RowKit
set_option linter.defProp false
def anm:=
 And.intro @agF<|And.intro @afM<|And.intro @agQ<|And.intro @afN<|And.intro @agM<|And.intro @agR<|And.intro @agN<|And.intro @af7<|And.intro @afX<|And.intro @afU<|And.intro @afV<|And.intro @agt<|And.intro @af3<|And.intro @agJ<|And.intro @agB<|And.intro @ahC<|And.intro @agL<|And.intro @ahJ<|And.intro @afR<|And.intro @ag5<|And.intro @agj<|And.intro @aho<|And.intro @agk<|And.intro @ahp<|And.intro @agG<|And.intro @ahF<|And.intro @afL<|And.intro @ag2<|And.intro @agW<|And.intro @ahP<|And.intro @aga<|And.intro @ahi<|And.intro @agf<|And.intro @ahl<|And.intro @agT<|And.intro @ahN<|And.intro @agS<|And.intro @ahM<|And.intro @af9<|@ahf
def ann:=
 And.intro @af'<|And.intro @ahg<|And.intro @af_<|And.intro @ahh<|And.intro @agd<|And.intro @ahj<|And.intro @age<|And.intro @ahk<|And.intro @agi<|And.intro @ahn<|And.intro @agh<|And.intro @ahm<|And.intro @agq<|And.intro @ahu<|And.intro @af8<|And.intro @ahe<|And.intro @agz<|And.intro @ahB<|And.intro @agC<|And.intro @ahD<|And.intro @afZ<|And.intro @ag_<|And.intro @agn<|And.intro @ahs<|And.intro @ago<|And.intro @aht<|And.intro @agl<|And.intro @ahq<|And.intro @agE<|And.intro @ahE<|And.intro @afP<|And.intro @ag3<|And.intro @afQ<|And.intro @ag4<|And.intro @agU<|And.intro @ahO<|And.intro @agy<|And.intro @ahA<|And.intro @agX<|@ahQ
def ano:=
 And.intro @agx<|And.intro @ahz<|And.intro @agP<|And.intro @ahL<|And.intro @agH<|And.intro @ahG<|And.intro @afI<|And.intro @ag0<|And.intro @afW<|And.intro @ag9<|And.intro @agm<|And.intro @ahr<|And.intro @afY<|And.intro @ag'<|And.intro @af1<|And.intro @ahb<|And.intro @af0<|And.intro @aha<|And.intro @ag6<|And.intro @ag7<|And.intro @SH<|And.intro @afS<|@af2
def anp:=
 And.intro @amq<|And.intro @al'<|And.intro @aau<|And.intro @aat<|And.intro @ZV<|And.intro @aln<|And.intro @Ys<|And.intro @Yr<|And.intro @akc<|And.intro @abJ<|And.intro @abI<|And.intro @Yu<|And.intro @abw<|And.intro @abv<|And.intro @akz<|And.intro @abE<|And.intro @ajL<|And.intro @ajK<|And.intro @aiq<|And.intro @aio<|And.intro @air<|And.intro @aip<|And.intro @ais<|And.intro @BC<|And.intro @BB<|And.intro @aaN<|And.intro @aby<|And.intro @abx<|And.intro @amP<|And.intro @alR<|And.intro @alS<|And.intro @ajz<|And.intro @ajA<|And.intro @akb<|And.intro @aj'<|And.intro @am9<|And.intro @am8<|And.intro @Yg<|And.intro @Yh<|@Yi
def anq:=
 And.intro @Yj<|And.intro @Yf<|And.intro @WK<|And.intro @WM<|And.intro @WL<|And.intro @amM<|And.intro @amO<|And.intro @amN<|And.intro @afw<|And.intro @afy<|And.intro @afx<|And.intro @afH<|And.intro @agV<|And.intro @agA<|And.intro @af5<|And.intro @agD<|And.intro @agu<|And.intro @agp<|And.intro @agc<|And.intro @agb<|And.intro @afK<|And.intro @afO<|And.intro @am1<|And.intro @am0<|And.intro @aiD<|And.intro @aiF<|And.intro @SZ<|And.intro @S0<|And.intro @S2<|And.intro @S3<|And.intro @amh<|And.intro @ahY<|And.intro @nU<|And.intro @iz<|And.intro @dV<|And.intro @pg<|And.intro @ga<|And.intro @nq<|And.intro @ajb<|@Z0
def anr:=
 And.intro @ajN<|And.intro @aci<|And.intro @Z4<|And.intro @ajR<|And.intro @acn<|And.intro @aad<|And.intro @aj1<|And.intro @acx<|And.intro @Z9<|And.intro @ajX<|And.intro @acs<|And.intro @aaa<|And.intro @ajZ<|And.intro @acv<|And.intro @aac<|And.intro @aj0<|And.intro @acw<|And.intro @Z2<|And.intro @ajP<|And.intro @ack<|And.intro @aae<|And.intro @aj2<|And.intro @acy<|And.intro @Z'<|And.intro @ajY<|And.intro @acu<|And.intro @Z8<|And.intro @ajW<|And.intro @acr<|And.intro @Z5<|And.intro @ajS<|And.intro @aco<|And.intro @Z1<|And.intro @ajO<|And.intro @acj<|And.intro @Z7<|And.intro @ajV<|And.intro @acq<|And.intro @Z3<|@ajQ
def ans:=
 And.intro @acm<|And.intro @Z6<|And.intro @ajU<|And.intro @acp<|And.intro @ZZ<|And.intro @ach<|And.intro @acz<|And.intro @aii<|And.intro @aij<|And.intro @aih<|And.intro @beq_true<|And.intro @beq_false<|And.intro @Bool.not_true<|And.intro @Bool.not_false<|And.intro @aqm<|And.intro @aqn<|And.intro @aqd<|And.intro @aqG<|And.intro @Bool.not_not<|And.intro @V.bool.injEq<|And.intro @apX<|And.intro @aqH<|And.intro @amI<|And.intro @amJ<|And.intro @amG<|And.intro @Bool.true_eq_false<|And.intro @apG<|And.intro @amL<|And.intro @akJ<|And.intro @akK<|And.intro @X4<|And.intro @X1<|And.intro @XY<|And.intro @XU<|And.intro @adu<|And.intro @adw<|And.intro @adv<|And.intro @XV<|And.intro @XW<|@XZ
def ant:=
 And.intro @X0<|And.intro @TT<|And.intro @anw<|And.intro @B5<|And.intro @anx<|And.intro @ajr<|And.intro @anz<|And.intro @ajs<|And.intro @anA<|And.intro @ajt<|And.intro @anB<|And.intro @aju<|And.intro @anC<|And.intro @ajv<|And.intro @anD<|And.intro @ajw<|And.intro @anE<|And.intro @acd<|And.intro @ab_<|And.intro @acb<|And.intro @aca<|And.intro @ace<|And.intro @Bool.or_false<|And.intro @ars<|And.intro @Bool.or_true<|And.intro @Bool.true_or<|And.intro @ajk<|And.intro @ai3<|And.intro @TD<|And.intro @aj_<|And.intro @aka<|And.intro @Xw<|And.intro @XC<|And.intro @XD<|And.intro @XE<|And.intro @XF<|And.intro @XG<|And.intro @XH<|And.intro @XI<|@XJ
def anu:=
 And.intro @Xv<|And.intro @Xx<|And.intro @Xy<|And.intro @Xz<|And.intro @XA<|And.intro @XB<|And.intro @al4<|And.intro @al5<|And.intro @al6<|And.intro @al3<|And.intro @alN<|And.intro @alP<|And.intro @alM<|@alO
end
section
open Go Go.RowKit
variable [Lay]
theorem tT {B:Nat} {h:ae} {size:Nat} {s:V} {n:Nat} {us cs:List V} (cn:1<=size) (H1:dc B h size s n us) (cC:B<=h.next) (hlen:(n+1) * size<=top) (iB:cs.length=size) (aT:e5 cs=true):
 ∃v aa,jM size s (.slice (aC h.next) 0 1 1) (h.new (.bT cs 0 false))=.val v aa/\dc B aa size v (n+1) (us++cs)/\Mod s.aS h aa/\h.next+1<=aa.next/\∀b,v.aS b->s.aS b\/h.next<b0 b:=by
 have ao:Ext h (h.new (.bT cs 0 false)):=(Ext.refl h).new _;have bA:e2 (h.new (.bT cs 0 false)) size (.slice (aC h.next) 0 1 1) 1 cs:=by refine ⟨by rw [iB];omega,rfl,h5 (by rw [ga];omega),cs,.inr ⟨0,false,by rw [nU]⟩,by omega,by simp⟩
 obtain ⟨v,aa,aj,an,aJ,bE⟩:=vG cn (H1.ext ao) bA (by rw [ga];omega) hlen aT;refine ⟨v,aa,aj,an,(ao.mod _).trans aJ,by have:=aJ.next;rw [ga] at this;exact this,fun b ah=>?_⟩;rcases bE b ah with q | q
 . exact .inl q
 . exact .inr (by rw [ga] at q;omega)
theorem VZ:∀l:List UInt8,ov (iy l)=some l
 | []=>rfl
 | c::l=>by have bh:=VZ l;simp only [iy,ov,bh];simp
theorem DF:∀l:List UInt8,(iy l).length=l.length
 | []=>rfl
 | c::l=>by simp only [iy,apz,DF l]
theorem Ny:∀l m:List UInt8,iy (l++m)=iy l++iy m
 | [],m=>rfl
 | c::l,m=>by simp only [iy,ap3,Ny l m]
theorem VJ {h:ae} {b:aO} {us:List V} {ct:Nat} {st:Bool} {off:Nat} {l:List UInt8} (aG:h.get b=.bT us ct st) (ar:off+l.length<=us.length) (hu:(us.drop off).take l.length=iy l):u9 b off l.length h=.val (.str l) h:=by unfold u9;rw [aG];simp only [b'.pr,b'.bT];rw [show Nat.ble (off+l.length) us.length=true from by rw [apF];exact ar];simp only [apt];rw [Ei us l.length off ar,hu,VZ]
theorem PH {B:Nat} {h:ae} {v:V} {n:Nat} {l:List UInt8} (H:dc B h 1 v n (iy l)):tY.run v h=.val (.str l) h:=by
 have U:=H.1;rw [DF,aru] at U;have ab:=H.2;cases v<;>simp only at ab<;>try (exact ab.elim)
 case bu=>
  subst ab;rw [aq4] at U;subst U;rfl
 case slice=>
  obtain ⟨aj,an,aJ,bE,cO,us,ct,st,en,hO,jl⟩:=ab;rw [DF] at jl;simp only [tY];rw [aj,<-U];exact VJ en (by omega) jl
 case dW=>
  obtain ⟨aj,an,aJ,bE,cO,us,st,en,hO,jl⟩:=ab;rw [DF] at jl hO;simp only [tY];rw [aj,bE,<-U];exact VJ en (by omega) (by simpa using jl)
theorem Mod.self {b:aO} {h aa:ae} (e:Mod (fun q=>q=b) h aa) (k:b'):Mod (fun q=>q=b) h (aa.set b k):=e.set (fun _=>rfl) k
theorem Mod.fresh {M:aO->Prop} {h aa:ae} (e:Mod M h aa) {i:Nat} (ax:h.next<=i) (k:b'):Mod M h (aa.set (aC i) k):=
 e.set (fun q=>absurd (show b0 (aC i)<h.next from q) (by rw [cV];omega)) k
theorem Mod.amH {M N:aO->Prop} {h ab aI:ae} (e:Mod M h ab) (q:Mod N ab aI) (aV:∀b,N b->h.next<=b0 b):Mod M h aI:=
 ⟨aqc e.next q.next,fun b aT ah=>by rw [q.get b (e.bG aT) (fun k=>absurd (show b0 b<h.next from aT) (by have:=aV b k;omega)),e.get b aT ah]⟩
end
section
open Go Go.RowKit
set_option linter.defProp false
variable [Lay]
def ag:=And.intro @anm<|And.intro @ann @ano
def anc:=And.intro @anp<|And.intro @anq<|And.intro @anr<|And.intro @ans<|And.intro @ant @anu
def ane:=And.intro @aq3.{0}<|And.intro @aqe.{0}<|And.intro @ap0.{1}<|And.intro @ap2.{1}<|And.intro @ari<|And.intro @arG<|And.intro @apH.{0}<|And.intro @aqq.{0}<|And.intro @apz.{0}<|And.intro @ap5.{0}<|
 And.intro @aqu.{0}<|And.intro @aqU.{0}<|And.intro @aqC.{0}<|And.intro @arJ.{0}<|And.intro @ap3.{0}<|And.intro @aql.{0}<|And.intro @apq.{0}<|And.intro @exists_eq_left'.{1}<|And.intro @aq9.{0}<|
 And.intro @Nat.succ_ne_zero<|And.intro @afk<|And.intro @afj<|And.intro @List.getElem?_nil.{0}<|And.intro @aq8<|And.intro @aq2<|And.intro @eq_self.{1}<|And.intro @not_true_eq_false<|And.intro @not_false_eq_true<|And.intro @ite_true.{1} @ite_false.{1}
def bz:=And.intro anc (And.intro ane (And.intro @iH.eq_1 (And.intro @iH.eq_2 (And.intro @aU.fM.eq_1 (And.intro @aU.fM.eq_2 (And.intro @nx.eq_1 (And.intro @nx.eq_2 (And.intro @nx.eq_3 (And.intro @over.eq_1 (And.intro @over.eq_2 (And.intro @over.eq_3 (And.intro @e5.eq_1 (@e5.eq_2)))))))))))))
def al:=And.intro bz (And.intro @cP.ends.eq_1 (And.intro @cP.ends.eq_2 (And.intro @lf.eq_1 (And.intro @lf.eq_2 (And.intro @lf.eq_3 (And.intro @lf.eq_4 (And.intro @oneOf.eq_1 (And.intro @oneOf.eq_2 top.eq_1))))))))
end
section
open Go Go.RowKit
variable [Lay]
theorem aah {P:Program} {f:FuncId} (a8:Nat.beq f dv=false) {v:V} (bA:∀E x,x=.bool true->Rel E v x) (ig:∃fn,P.funcs[f]? =some fn/\fn.body.isSome=true) (H:∀w,Lay.ok w->Calls P f #[] w fun e w'=>e=.returned (.bool true)/\Below w.heap.size w w') (h:ae):
 eZ P f [] h v h:=by
 refine ⟨fun e=>by subst e;simp at a8,.inl ⟨ig,fun az E w xs ao s=>?_⟩⟩;simp only [bg] at ao;subst ao;refine (H w (Lay.ec s.laid s.frame)).mono fun e w' q=>?_;obtain ⟨rfl,ah⟩:=q;exact ⟨E,_,rfl,fun _ _ q=>q,bA E _ rfl,s.below ah⟩
def r0 (E:Env) (h:ae) (p:js):Env:=fun b=>if b=aC h.next then some p else E b
theorem V8 (E:Env) (h:ae) (p:js):r0 E h p (aC h.next)=some p:=apB rfl
theorem Mc {az:Fr} {E:Env} {h:ae} {w:World} (s:ba az E h w) (p:js):E.le (r0 E h p):=fun b q aq=>by unfold r0;rw [apu (fun e=>by rw [e,s.fresh _ (aps _)] at aq;cases aq)];exact aq
theorem al0 {W:World} {E:Env} {h:ae} (s:ba ⟨W,fun _=>none⟩ E h W) (p:js) (k:b') (aT:k.own=false) (aA:fK W.heap.size (r0 E h p) W (aC h.next) k):
 ba ⟨W,fun _=>none⟩ (r0 E h p) (h.new k) W:=by
 refine ⟨fun b _=>?_,fun _ _ h=>(by cases h),fun b bO q fk U ab av aK aq=>?_,fun i ax=>?_,s.frame,s.laid,fun b q n cs st U av=>by
  rw [iz] at U;by_cases bQ:aC h.next=b
  . rw [apB bQ] at U;rw [U] at aT;cases aT
  . rw [apu bQ] at U;unfold r0 at av;rw [apu (fun e=>bQ e.symm)] at av;exact s.base _ _ _ _ _ U av⟩
 . rw [iz];by_cases e:aC h.next=b
   . subst e;rw [apB rfl];exact aA
   . rw [apu e];exact (s.aS b rfl).mono (Mc s p)
 . rw [iz] at U ab;by_cases bQ:aC h.next=b
   . rw [apB bQ,aT] at U;cases U
   . by_cases b2:aC h.next=bO
     . rw [apB b2,aT] at ab;cases ab
     . rw [apu bQ] at U;rw [apu b2] at ab;unfold r0 at av aK;rw [apu (fun e=>bQ e.symm)] at av;rw [apu (fun e=>b2 e.symm)] at aK;exact s.inj b bO q fk U ab av aK aq
 . rw [ga] at ax;unfold r0;rw [apu (fun e=>by have:=h7 e;omega)];exact s.fresh i (by omega)
theorem al1 {W:World} {E:Env} {h:ae} (s:ba ⟨W,fun _=>none⟩ E h W) {k base cap:Nat} {c:Array Value} {el:TypeId} {b5:Nat × Nat} (aA:W.heap[k]? =some (.cells c el b5)) {af:List V}
 (au:base+af.length<=c.size) (aD:∀i v y,af[i]? =some v->c[base+i]? =some y->Rel E v y):
 ba ⟨W,fun _=>none⟩ (r0 E h ⟨k,base,cap⟩) (h.new (.ro af)) W:=by
 refine al0 s _ _ rfl ?_;have aL:k<W.heap.size:=by
  by_cases aL:k<W.heap.size
  . exact aL
  . rw [aq_ (by omega)] at aA;cases aA
 refine ⟨trivial,⟨k,base,cap⟩,c,el,b5,V8 _ _ _,aL,aA,au,fun i y ax a8=>?_⟩;have:T.get .bad (aC i) (fV .e 0 af)=af[i]:=by have:=Eg af 0 i .e;rw [apX] at this;rw [this,apB ax,apo ax];rfl
 rw [this];exact Rel.mono (Mc s _) _ _ (aD i _ y (apo ax) a8)
end
section
open Go Go.RowKit
variable [Lay]
section
variable (P:Program)
def zB:List Field->Nat->Option Nat
 | [],o=>some o
 | f::b8,o=>if f.offset=o then zB b8 (o+P.cellsOf f.type) else none
def xd:Bool:=(List.range P.types.size).all fun t=>match P.underlying t with
 | some (.struct b8)=>decide (zB P b8.toList 0=some (P.cellsOf t))
 | _=>true
def dF (h:ae):Nat->Nat->TypeId->List V->Prop
 | 0,_,_,_=>False
 | n+1,m,t,af=>match P.underlying t with
   | some .bool=>∃b,af=[.bool b]
   | some (.int k)=>∃i,af=[.int k i]/\(Lit.int k i).wf=true
   | some .string=>∃s:List UInt8,af=[.str s]/\s.length+1<=m
   | some (.slice e)=>1<=m/\(af=[.bu]\/(∃b i j k,af=[.gb b i j k])\/P.cellsOf e=0\/
      ∃b len cap,af=[.slice b 0 len cap]/\0<len/\len<=cap/\Old h b/\∃us,mP h b us/\us.length=len * P.cellsOf e/\∃ms:List Nat,ms.length=len/\ms.sum+1<=m/\
       ∀(i k:Nat),ms[i]? =some k->1<=k/\dF h n k e ((us.drop (i * P.cellsOf e)).take (P.cellsOf e)))
   | some (.struct b8)=>af.length=P.cellsOf t/\∃ms:List Nat,ms.length=b8.toList.length/\ms.sum+1<=m/\∀(i:Nat) (f:Field) (k:Nat),b8.toList[i]? =some f->ms[i]? =some k->1<=k/\dF h n k f.type ((af.drop f.offset).take (P.cellsOf f.type))
   | some (.pointer e)=>1<=m/\(af=[.km]\/P.cellsOf e=0\/∃b,af=[.ptr b 0]/\Old h b/\∃us,mP h b us/\us.length=P.cellsOf e/\∃k,k+1<=m/\dF h n k e us)
   | some (.map _ _)=>af=[.jW]\/af=[.bad]
   | some (.interface _)=>af=[.nilIface]\/af=[.bad]
   | _=>True
end
theorem dF.ext {P:Program} {h aa:ae} (e:Ext h aa):∀(n m:Nat) (t:TypeId) (af:List V),dF P h n m t af->dF P aa n m t af
 | 0,_,_,_,H=>H
 | n+1,m,t,af,H=>by
   unfold dF at H ⊢
   split at H<;>try exact H
   . refine ⟨H.1,?_⟩;rcases H.2 with H | H | H | ⟨b,len,cap,U,ab,aI,cF,us,cm,cz,ms,fH,f_,lU⟩
     . exact .inl H
     . exact .inr (.inl H)
     . exact .inr (.inr (.inl H))
     . exact .inr (.inr (.inr ⟨b,len,cap,U,ab,aI,e.bG cF,us,e.rd cF cm,cz,ms,fH,f_,fun i k aA=>⟨(lU i k aA).1,dF.ext e n _ _ _ (lU i k aA).2⟩⟩))
   . obtain ⟨U,ms,ab,aI,bq⟩:=H;exact ⟨U,ms,ab,aI,fun i f k aB aA=>⟨(bq i f k aB aA).1,dF.ext e n _ _ _ (bq i f k aB aA).2⟩⟩
   . refine ⟨H.1,?_⟩;rcases H.2 with H | H | ⟨b,U,cF,us,cm,cz,k,fH,f_⟩
     . exact .inl H
     . exact .inr (.inl H)
     . exact .inr (.inr ⟨b,U,e.bG cF,us,e.rd cF cm,cz,k,fH,dF.ext e n _ _ _ f_⟩)
mutual
def fS {H:Type}:DataW H->Nat
 | .lit (.string bytes)=>bytes.length+1
 | .lit _=>1
 | .nil=>1
 | .ptr d=>fS d+1
 | .slice elems spare=>l' elems+l' spare+1
 | .agg parts=>l' parts+1
 | .iface _ d=>fS d+1
 | .map entries=>DC entries+1
 | .held _=>1
def l' {H:Type}:List (DataW H)->Nat
 | []=>0
 | d::r=>fS d+l' r
def DC {H:Type}:List (Lit × DataW H)->Nat
 | []=>0
 | x::r=>HP x+DC r
def HP {H:Type}:Lit × DataW H->Nat
 | (.string bytes,d)=>bytes.length+fS d+1
 | (_,d)=>fS d+1
end
theorem su {H:Type} (d:DataW H):1<=fS d:=by
 cases d with
 | lit l=>cases l<;>simp [fS]
 | _=>simp [fS]
theorem HO {H:Type}:∀l:List (DataW H),l' l=(l.map fS).sum
 | []=>by simp [l']
 | d::r=>by simp only [l',aqt,arj,HO r]
theorem DG {w:World} {base:Nat} {a:Addr} {n:Nat} {l:List Value} (h:w.cells? base a n=some l):l.length=n/\∀i,i<n->w.cell? (a.add i)=l[i]? :=by
 unfold World.cells? at h
 split at h
 . exact ⟨by simpa using mapM_some_length h,fun i ax=>mapM_some_get h i i (by simp [ax])⟩
 . cases h
theorem U1 {E ay:Env} (he:E.le ay) {af:List V} {l:List Value} (H:bg E af l):bg ay af l:=bg.mono he af l H
section
variable {H:Type} {enc:TypeId × Value->H} {P:Program} {W:World} {base:Nat} {sp:Nat->Bool} {held:Bool}
def Lays (P:Program) (W:World) (n m:Nat) (t:TypeId) (cs:List Value):Prop:=
 ∀(E:Env) (h:ae),ba ⟨W,fun _=>none⟩ E h W->∃ay aa af,E.le ay/\Ext h aa/\ba ⟨W,fun _=>none⟩ ay aa W/\bg ay af cs/\af.length=cs.length/\dF P aa n m t af
theorem SX (n size:Nat) (e:TypeId):∀(pieces:List (List Value)) (ms:List Nat),ms.length=pieces.length->(∀(i:Nat) (l:List Value) (k:Nat),pieces[i]? =some l->ms[i]? =some k->l.length=size/\Lays P W n k e l)->
 ∀(E:Env) (h:ae),ba ⟨W,fun _=>none⟩ E h W->∃ay aa us,E.le ay/\Ext h aa/\ba ⟨W,fun _=>none⟩ ay aa W/\bg ay us pieces.flatten/\us.length=pieces.length * size/\
  ∀(i k:Nat),ms[i]? =some k->dF P aa n k e ((us.drop (i * size)).take size)
 | [],[],_,_,E,h,s=>⟨E,h,[],fun _ _ q=>q,Ext.refl h,s,rfl,by simp,fun i k ax=>by simp at ax⟩
 | [],_::_,ar,_,_,_,_=>by simp at ar
 | _::_,[],ar,_,_,_,_=>by simp at ar
 | l::ls,m::ms,lO,ai,E,h,s=>by
   obtain ⟨ar,H⟩:=ai 0 l m rfl rfl;obtain ⟨gK,U,af,bJ,a2,a3,a4,a5,gX⟩:=H E h s;obtain ⟨bM,ab,us,bR,b7,eL,ic,jt,vJ⟩:=SX n size e ls ms (by simpa using lO) (fun i l k aj an=>ai (i+1) l k (by simpa using aj) (by simpa using an)) gK U a3;refine ⟨bM,ab,af++us,bJ.trans bR,a2.trans b7,eL,?_,?_,?_⟩
   . rw [aqy];exact bg.append (U1 bR a4) ic
   . rw [apC,jt,a5,ar,apz,aqr];omega
   . intro i k ax;cases i with
     | zero=>
       rw [arE,aqu,arI (by rw [a5,ar])];simp only [apH,apq] at ax;subst ax;exact dF.ext b7 _ _ _ _ gX
     | succ i=>
       rw [aqr,Nat.one_mul,arp,<-aqE,List.drop_left' (by rw [a5,ar])];exact vJ i k (by simpa using ax)
theorem SW (n:Nat):∀(b8:List Field) (ms:List Nat) (o b_:Nat) (cs:List Value),zB P b8 o=some b_->cs.length=b_->ms.length=b8.length->(∀(i:Nat) (f:Field) (k:Nat),b8[i]? =some f->ms[i]? =some k->Lays P W n k f.type ((cs.drop f.offset).take (P.cellsOf f.type)))->
 o<=b_/\∀(E:Env) (h:ae),ba ⟨W,fun _=>none⟩ E h W->∃ay aa af,E.le ay/\Ext h aa/\ba ⟨W,fun _=>none⟩ ay aa W/\bg ay af (cs.drop o)/\af.length=b_-o/\
  ∀(i:Nat) (f:Field) (k:Nat),b8[i]? =some f->ms[i]? =some k->o<=f.offset/\dF P aa n k f.type ((af.drop (f.offset-o)).take (P.cellsOf f.type))
 | [],_::_,_,_,_,_,_,lO,_=>by simp at lO
 | _::_,[],_,_,_,_,_,lO,_=>by simp at lO
 | [],[],o,b_,cs,aE,ar,_,_=>by simp only [zB,apq] at aE;subst aE;refine ⟨aps _,fun E h s=>⟨E,h,[],fun _ _ q=>q,Ext.refl h,s,?_,by simp,fun i f k aB=>by simp at aB⟩⟩;rw [aqf (by omega)];rfl
 | f::b8,m::ms,o,b_,cs,aE,ar,lO,ai=>by
   simp only [zB] at aE;by_cases aB:f.offset=o
   . rw [apB aB] at aE;obtain ⟨g1,g2⟩:=SW n b8 ms (o+P.cellsOf f.type) b_ cs aE ar (by simpa using lO) (fun i f k aj an=>ai (i+1) f k (by simpa using aj) (by simpa using an));refine ⟨by omega,fun E h s=>?_⟩;have wF:=ai 0 f m rfl rfl;obtain ⟨gK,U,af,bJ,a2,a3,a4,a5,gX⟩:=wF E h s;obtain ⟨bM,ab,us,bR,b7,eL,ic,jt,vJ⟩:=g2 gK U a3;have J_:af.length=P.cellsOf f.type:=by rw [a5,apU,apY,aB];omega
     refine ⟨bM,ab,af++us,bJ.trans bR,a2.trans b7,eL,?_,?_,?_⟩
     . have e:cs.drop o=(cs.drop f.offset).take (P.cellsOf f.type)++cs.drop (o+P.cellsOf f.type):=by
        rw [aB,<-aqE,aqN]
       rw [e];exact bg.append (U1 bR a4) ic
     . rw [apC,J_,jt];omega
     . intro i g k aG aA;cases i with
       | zero=>
         simp only [apH,apq] at aG aA;subst aG aA;refine ⟨by omega,?_⟩;rw [aB,aq5,aqu,arI J_];exact dF.ext b7 _ _ _ _ gX
       | succ i=>
         obtain ⟨bQ,b2⟩:=vJ i g k (by simpa using aG) (by simpa using aA);refine ⟨by omega,?_⟩;rw [show g.offset-o=P.cellsOf f.type + (g.offset - (o+P.cellsOf f.type)) from by omega,<-aqE,List.drop_left' J_];exact b2
   . rw [apu aB] at aE;cases aE
theorem Pv {w:World} {a:Addr} {y:Value} (h:w.cell? a=some y):a.spot=none/\∃c el b5,w.heap[a.block]? =some (.cells c el b5)/\c[a.off]? =some y:=by
 refine ⟨World.cell?_spot h,?_⟩;unfold World.cell? at h
 split at h
 . rename_i c el b5 a7
   split at h
   . cases h
   . exact ⟨c,el,b5,a7,h⟩
 . cases h
theorem XK (a:Addr) (n:Nat):(a.add n).block=a.block:=by unfold Addr.add;split<;>rfl
theorem XL (a:Addr) (n:Nat):(a.add n).off=a.off+n:=by unfold Addr.add;split<;>simp_all
theorem alq {w:World} {a:Addr} {l:List Value} (aY:0<l.length) (h:∀i,i<l.length->w.cell? (a.add i)=l[i]?):
 a.spot=none/\∃c el b5,w.heap[a.block]? =some (.cells c el b5)/\a.off+l.length<=c.size/\∀i,i<l.length->c[a.off+i]? =l[i]? :=by
 have p1:w.cell? (a.add 0)=some l[0]:=by rw [h 0 aY];exact apo aY
 obtain ⟨s1,c,el,b5,s2,jn⟩:=Pv p1;have c4:a.add 0=a:=by unfold Addr.add;simp
 rw [c4] at s1 s2 jn;have key:∀i,i<l.length->c[a.off+i]? =l[i]? :=by intro i ax;have q:=h i ax;rw [apo ax] at q ⊢;obtain ⟨_,gL,an7,an',t2,t3⟩:=Pv q;rw [XK,s2] at t2;rw [XL] at t3;simp only [apq,Obj.cells.injEq] at t2;obtain ⟨rfl,_,_⟩:=t2;exact t3
 refine ⟨s1,c,el,b5,s2,?_,key⟩;have:=key (l.length-1) (by omega);rw [apo (by omega)] at this;have aL:=(apr.1 this).1;omega
theorem V9 {E:Env} {h:ae} (s:ba ⟨W,fun _=>none⟩ E h W) {a:Addr} {cap:Nat} {l:List Value} (aY:0<l.length) (au:∀i,i<l.length->W.cell? (a.add i)=l[i]?) {us:List V} (aD:bg E us l):
 ∃ay aa b,E.le ay/\Ext h aa/\ba ⟨W,fun _=>none⟩ ay aa W/\Old aa b/\a.spot=none/\ay b=some ⟨a.block,a.off,cap⟩/\mP aa b us:=by
 obtain ⟨s1,c,el,b5,s2,jn,oo⟩:=alq aY au;have Sa:us.length=l.length:=(bg.length aD).symm;refine ⟨r0 E h ⟨a.block,a.off,cap⟩,h.new (.ro us),aC h.next,Mc s _,(Ext.refl h).new _,al1 s s2 (by omega) fun i v y bA a8=>?_,T5,s1,V8 _ _ _,.inl (nU _)⟩;have ax:i<l.length:=by have:=(apL.1 bA).1;omega
 rw [oo i ax] at a8;obtain ⟨tz,av,aK⟩:=bg.get aD i v bA;rw [a8] at av;simp only [apq] at av;rw [av];exact aK
theorem QG {α:Type} (size:Nat):∀(pieces:List (List α)) (i j:Nat),(∀l ∈ pieces,l.length=size)->i<pieces.length->j<size->pieces.flatten[i * size+j]? =(pieces[i]?).bind (·[j]?)
 | [],i,j,_,ax,_=>by simp at ax
 | l::ls,i,j,ai,ax,bC=>by
   have ar:l.length=size:=ai l (by simp);cases i with
   | zero=>
     rw [arE,apX,aqy,apM (by omega)];simp
   | succ i=>
     rw [aqy,apN (by rw [ar,aqr];omega)];rw [show (i+1) * size+j-l.length=i * size+j from by rw [ar,aqr];omega];rw [QG size ls i j (fun l ar=>ai l (by simp [ar])) (by simpa using ax) bC];simp
theorem QH {α:Type} (size:Nat):∀(pieces:List (List α)),(∀l ∈ pieces,l.length=size)->pieces.flatten.length=pieces.length * size
 | [],_=>by simp
 | l::ls,ai=>by rw [aqy,apC,QH size ls (fun l ar=>ai l (by simp [ar])),ai l (by simp),apz,aqr];omega
theorem Up {α:Type} (R:Nat->α->Prop):∀(len:Nat),(∀i,i<len->∃l,R i l)->∃bn:List α,bn.length=len/\∀i l,bn[i]? =some l->R i l
 | 0,_=>⟨[],rfl,fun i l q=>by simp at q⟩
 | m+1,h=>by
   obtain ⟨bn,aj,an⟩:=Up R m (fun i ax=>h i (by omega));obtain ⟨l,U⟩:=h m (by omega);refine ⟨bn++[l],by simp [aj],fun i e' fx=>?_⟩;by_cases ax:i<bn.length
   . rw [apM ax] at fx;exact an i e' fx
   . rw [apN (by omega)] at fx;have c4:i-bn.length=0:=by
      by_cases q:i-bn.length=0
      . exact q
      . rw [apS (by simp;omega)] at fx;cases fx
     rw [c4] at fx;simp at fx;subst fx;obtain rfl:i=m:=by omega
     exact U
theorem Fb (dM:xd P=true) (cX:laidOutB P=true):∀(n:Nat) (t:TypeId) (cs:List Value) (x:DataW H × List MemPlace),t<P.types.size->DataW.trod enc P W base sp held n t cs=some x->Lays P W n (fS x.1) t cs
 | 0,t,cs,x,_,h=>by simp [DataW.trod] at h
 | n+1,t,cs,x,aL,h=>by
   have Dx:∀(cs:List Value),(∀aa af,af.length=cs.length->dF P aa (n+1) (fS x.1) t af)->Lays P W (n+1) (fS x.1) t cs:=by
    intro cs H E h s;refine ⟨E,h,cs.map fun _=>.bad,fun _ _ q=>q,Ext.refl h,s,?_,by simp,H _ _ (by simp)⟩;clear H
    induction cs with
    | nil=>rfl
    | cons c cs bh=>exact ⟨c,cs,rfl,by simp [Rel],bh⟩
   cases hu:P.underlying t with
   | none=>
     refine Dx cs fun aa af _=>?_;simp only [dF,hu]
   | some u=>
     cases u with
     | bool=>
       obtain ⟨b,rfl,_⟩:=DataW.trod_bool hu h;intro E h s;exact ⟨E,h,[.bool b],fun _ _ q=>q,Ext.refl h,s,⟨_,_,rfl,rfl,rfl⟩,rfl,by simp only [dF,hu];exact ⟨b,rfl⟩⟩
     | int k=>
       obtain ⟨i,rfl,_,hw⟩:=DataW.trod_int hu h;intro E h s;exact ⟨E,h,[.int k i],fun _ _ q=>q,Ext.refl h,s,⟨_,_,rfl,rfl,rfl⟩,rfl,by simp only [dF,hu];exact ⟨i,rfl,hw⟩⟩
     | string=>
       obtain ⟨b,rfl,rfl,_⟩:=DataW.trod_string hu h;intro E h s;exact ⟨E,h,[.str b.data.toList],fun _ _ q=>q,Ext.refl h,s,⟨_,_,rfl,rfl,rfl⟩,rfl,by simp only [dF,hu,fS];exact ⟨_,rfl,aps _⟩⟩
     | struct b8=>
       obtain ⟨xs,gS,aV,rfl,ar,yK,aB⟩:=DataW.trod_struct hu h;obtain rfl:n=gS:=by omega
       have aeQ:zB P b8.toList 0=some (P.cellsOf t):=by unfold xd at dM;rw [apP] at dM;have:=dM t (aqX.2 aL);rw [hu] at this;exact of_decide_eq_true this
       have jP:∀(i:Nat) (f:Field) (k:Nat),b8.toList[i]? =some f->(xs.map fun x=>fS x.1)[i]? =some k->Lays P W n k f.type ((cs.drop f.offset).take (P.cellsOf f.type)):=by
        intro i f k ax aA;have o0:f ∈ b8.toList:=apR ax;have sK:b8[i]? =some f:=by simpa using ax
        have:=aB i f sK;have RJ:i<xs.length:=by rw [yK];exact (apr.1 sK).1
        rw [apo RJ] at this;rw [aqb,apo RJ,aqO,apq] at aA;subst aA;exact Fb dM cX n _ _ _ ((kid_struct cX aL hu).1 f o0) this
       intro E h s;obtain ⟨_,g⟩:=SW n b8.toList (xs.map fun x=>fS x.1) 0 _ cs aeQ ar (by simp [yK]) jP;obtain ⟨ay,aa,af,bJ,a2,a3,a4,a5,gX⟩:=g E h s;refine ⟨ay,aa,af,bJ,a2,a3,by simpa using a4,by rw [a5,ar];omega,?_⟩;simp only [dF,hu];refine ⟨by omega,xs.map fun x=>fS x.1,by simp [yK],?_,fun i f k o0 aA=>⟨?_,by simpa using (gX i f k o0 aA).2⟩⟩
       . simp only [fS,HO,List.map_map];exact aps _
       . rw [aqb,Option.map_eq_some_iff] at aA;obtain ⟨y,_,rfl⟩:=aA;exact su _
     | slice e=>
       rcases DataW.trod_slice hu h with ⟨rfl,rfl⟩ | ⟨a,len,cap,elems,rest,gS,aV,rfl,rfl,ah,sL,_,Rs,Jn,_,_⟩
       . intro E h s;exact ⟨E,h,[.bu],fun _ _ q=>q,Ext.refl h,s,⟨_,_,rfl,rfl,rfl⟩,rfl,by simp only [dF,hu];exact ⟨su _,.inl trivial⟩⟩
       . obtain rfl:n=gS:=by omega
         by_cases aW:P.cellsOf e=0
         . refine Dx _ fun aa af _=>?_;simp only [dF,hu];exact ⟨su _,.inr (.inr (.inl aW))⟩
         by_cases jR:len=0
         . subst jR;intro E h s;refine ⟨E,h,[.gb .z 0 0 0],fun _ _ q=>q,Ext.refl h,s,⟨_,_,rfl,?_,rfl⟩,rfl,by simp only [dF,hu];exact ⟨su _,.inr (.inl ⟨_,_,_,_,rfl⟩)⟩⟩;simp only [Rel];exact ⟨_,_,rfl⟩
         . -- its elements
           have iS:∀i,i<len->∃l,W.cells? base (a.add (i * P.cellsOf e)) (P.cellsOf e)=some l/\∀k:Nat,(elems.map fun x=>fS x.1)[i]? =some k->Lays P W n k e l:=by intro i ax;have:=Jn i ax;rw [apo (by omega)] at this;rw [Option.bind_eq_some_iff] at this;obtain ⟨l,U,ab⟩:=this;refine ⟨l,U,fun k aA=>?_⟩;rw [aqb,apo (by omega),aqO,apq] at aA;subst aA;exact Fb dM cX n _ _ _ (kid_slice cX aL hu) ab
           obtain ⟨pieces,kM,ih⟩:∃pieces:List (List Value),pieces.length=len/\∀i (l:List Value),pieces[i]? =some l->W.cells? base (a.add (i * P.cellsOf e)) (P.cellsOf e)=some l/\∀k:Nat,(elems.map fun x=>fS x.1)[i]? =some k->Lays P W n k e l:=by exact Up (fun i l=>W.cells? base (a.add (i * P.cellsOf e)) (P.cellsOf e)=some l/\∀k:Nat,(elems.map fun x=>fS x.1)[i]? =some k->Lays P W n k e l) len iS
           have dj:∀(i:Nat) (l:List Value) (k:Nat),pieces[i]? =some l->(elems.map fun x=>fS x.1)[i]? =some k->l.length=P.cellsOf e/\Lays P W n k e l:=by intro i l k ax aA;obtain ⟨aj,an⟩:=ih i l ax;exact ⟨(DG aj).1,an k aA⟩
           have RZ:∀l ∈ pieces,l.length=P.cellsOf e:=by intro l ar;obtain ⟨i,ax⟩:=List.getElem?_of_mem ar;exact (DG (ih i l ax).1).1
           intro E h s;obtain ⟨gK,U,us,bJ,a2,a3,a4,a5,gX⟩:=SX n (P.cellsOf e) e pieces (elems.map fun x=>fS x.1) (by simp [Rs,kM]) dj E h s;have jP:=QH (P.cellsOf e) pieces RZ;have Bl:0<len * P.cellsOf e:=Nat.mul_pos (by omega) (by omega);have I7:∀i,i<pieces.flatten.length->W.cell? (a.add i)=pieces.flatten[i]? :=by
            intro q aq;rw [jP] at aq;have RP:q % P.cellsOf e<P.cellsOf e:=Nat.mod_lt _ (by omega);have hdiv:q / P.cellsOf e<pieces.length:=Nat.div_lt_of_lt_mul (by rw [Nat.mul_comm];exact aq);have n5:q / P.cellsOf e * P.cellsOf e+q % P.cellsOf e=q:=by rw [Nat.mul_comm];exact Nat.div_add_mod q _
            rw [<-n5,QG (P.cellsOf e) pieces _ _ RZ hdiv RP,apo hdiv];obtain ⟨aj,_⟩:=ih _ _ (apo hdiv);have:=(DG aj).2 _ RP;rw [Option.bind_some,<-this];congr 1;unfold Addr.add;by_cases bU:q / P.cellsOf e * P.cellsOf e=0
            . rw [bU];simp
            . by_cases z2:q % P.cellsOf e=0
              . rw [z2];simp
              . have z3:¬(q / P.cellsOf e * P.cellsOf e+q % P.cellsOf e=0):=by omega
                rw [apu bU,apu z2,apu z3];simp [aqD]
           obtain ⟨bM,ab,b,bR,b7,eL,ic,jt,vJ,HG⟩:=V9 a3 (cap:=cap) (by rw [jP,kM];exact Bl) I7 a4;refine ⟨bM,ab,[.slice b 0 len cap],bJ.trans bR,a2.trans b7,eL,⟨_,_,rfl,?_,rfl⟩,rfl,?_⟩
           . simp only [Rel];refine ⟨_,vJ,sL,?_⟩;obtain ⟨oK,ajy,st⟩:=a;simp only at jt;subst jt;rfl
           . simp only [dF,hu];refine ⟨su _,.inr (.inr (.inr ⟨b,len,cap,rfl,by omega,sL,ic,us,HG,by rw [a5,kM],elems.map fun x=>fS x.1,by simp [Rs],?_,fun i k aA=>⟨?_,dF.ext b7 _ _ _ _ (gX i k aA)⟩⟩))⟩
             . simp only [fS,HO,List.map_map];exact Nat.add_le_add_right (Nat.le_add_right _ _) 1
             . rw [aqb,Option.map_eq_some_iff] at aA;obtain ⟨y,_,rfl⟩:=aA;exact su _
     | pointer e=>
       rcases DataW.trod_pointer hu h with ⟨rfl,rfl⟩ | ⟨a,pM,y,gS,aV,rfl,rfl,au,a8⟩
       . intro E h s;exact ⟨E,h,[.km],fun _ _ q=>q,Ext.refl h,s,⟨_,_,rfl,rfl,rfl⟩,rfl,by simp only [dF,hu];exact ⟨su _,.inl trivial⟩⟩
       . obtain rfl:n=gS:=by omega
         by_cases aW:P.cellsOf e=0
         . refine Dx _ fun aa af _=>?_;simp only [dF,hu];exact ⟨su _,.inr (.inl aW)⟩
         . intro E h s;obtain ⟨aj,an⟩:=DG au;obtain ⟨gK,U,us,bJ,a2,a3,a4,a5,gX⟩:=Fb dM cX n _ _ _ (kid_pointer cX aL hu) a8 E h s;obtain ⟨bM,ab,b,bR,b7,eL,ic,jt,vJ,HG⟩:=V9 a3 (cap:=0) (by omega) (fun i ax=>an i (by omega)) a4;refine ⟨bM,ab,[.ptr b 0],bJ.trans bR,a2.trans b7,eL,⟨_,_,rfl,?_,rfl⟩,rfl,?_⟩
           . simp only [Rel];refine ⟨_,vJ,?_⟩;obtain ⟨oK,ajy,st⟩:=a;simp only at jt;subst jt;rfl
           . simp only [dF,hu];exact ⟨su _,.inr (.inr ⟨b,rfl,ic,us,HG,by omega,_,aps _,dF.ext b7 _ _ _ _ gX⟩)⟩
     | map k e=>
       have iB:cs.length=1:=by
        unfold DataW.trod at h;rw [hu] at h
        split at h<;>simp_all
       intro E h s;refine ⟨E,h,[.bad],fun _ _ q=>q,Ext.refl h,s,?_,by simp [iB],by simp only [dF,hu];exact .inr trivial⟩
       match cs,iB with
       | [c],_=>exact ⟨c,[],rfl,by simp [Rel],rfl⟩
     | interface ms=>
       have iB:cs.length=1:=by
        unfold DataW.trod at h;rw [hu] at h
        split at h<;>simp_all
       intro E h s;refine ⟨E,h,[.bad],fun _ _ q=>q,Ext.refl h,s,?_,by simp [iB],by simp only [dF,hu];exact .inr trivial⟩
       match cs,iB with
       | [c],_=>exact ⟨c,[],rfl,by simp [Rel],rfl⟩
     | _=>
       refine Dx cs fun aa af _=>?_;simp only [dF,hu]
def oF (P:Program) (h:ae) (n m:Nat) (t:TypeId) (v:V):Prop:=
 match P.underlying t with
 | some (.struct _) | some (.array _ _)=>∃af,v=.agg af/\dF P h n m t af
 | _=>dF P h n m t [v]
theorem oF.ext {h aa:ae} (e:Ext h aa) {n m:Nat} {t:TypeId} {v:V} (H:oF P h n m t v):oF P aa n m t v:=by
 unfold oF at H ⊢
 split at H
 . obtain ⟨af,aj,an⟩:=H;exact ⟨af,aj,dF.ext e _ _ _ _ an⟩
 . obtain ⟨af,aj,an⟩:=H;exact ⟨af,aj,dF.ext e _ _ _ _ an⟩
 . exact dF.ext e _ _ _ _ H
theorem ah8 (dM:xd P=true) (cX:laidOutB P=true) {r:Reach} {mT:Nat} {t:TypeId} {v:Value} {d:DataW H} {p:List MemPlace} (aL:t<P.types.size) (bt:Value.okWide P W r mT t v) (aH:DataW.Trod enc P W base sp held t v d p) {E:Env} {h:ae} (s:ba ⟨W,fun _=>none⟩ E h W):
 ∃n ay aa x,E.le ay/\Ext h aa/\ba ⟨W,fun _=>none⟩ ay aa W/\Rel ay x v/\oF P aa n (fS d) t x:=by
 obtain ⟨fuel,aB⟩:=aH;obtain ⟨ay,aa,af,bJ,a2,a3,a4,a5,gX⟩:=Fb dM cX _ _ _ _ aL aB E h s;have agg:(∃cs,v=.agg cs)->∃x,Rel ay x v/\x=.agg af:=by rintro ⟨cs,rfl⟩;exact ⟨.agg af,by simp only [Rel];exact ⟨cs,rfl,a4⟩,rfl⟩
 have one:v.cells=#[v]->∃x,Rel ay x v/\af=[x]:=by
  intro au;rw [au] at a4 a5
  match af,a4,a5 with
  | [x],⟨y,cu,av,aK,bF⟩,_=>
    simp only [aq9] at av;exact ⟨x,av.1 ▸ aK,rfl⟩
 refine ⟨fuel,ay,aa,?_⟩;unfold Value.okWide at bt;cases hu:P.underlying t with
 | none=>
   rw [hu] at bt;simp only [Cell.okWide,Cell.ok,hu] at bt
 | some u=>
   rw [hu] at bt;unfold oF;rw [hu];cases u<;>simp only at bt ⊢<;>first
    | (obtain ⟨cs,bA,_⟩:=bt
       obtain ⟨x,aj,an⟩:=agg ⟨cs,bA⟩;exact ⟨x,bJ,a2,a3,aj,af,an,gX⟩)
    | (have au:v.cells=#[v]:=by
        cases v<;>first
         | rfl
         | (simp only [Cell.okWide,Cell.ok,hu] at bt)
       obtain ⟨x,aj,an⟩:=one au;exact ⟨x,bJ,a2,a3,aj,an ▸ gX⟩)
def nO (P:Program) (h:ae):Nat->List TypeId->List V->Prop
 | _,[],[]=>True
 | m,t::bx,v::af=>∃k bp,k+bp<=m/\(∃n,oF P h n k t v)/\nO P h bp bx af
 | _,_,_=>False
theorem nO.mono {h:ae}:∀{m cZ:Nat} {bx:List TypeId} {af:List V},m<=cZ->nO P h m bx af->nO P h cZ bx af
 | _,_,[],[],_,H=>by unfold nO;trivial
 | _,_,[],_::_,_,H=>H.elim
 | _,_,_::_,[],_,H=>H.elim
 | _,_,_::_,_::_,hm,⟨k,bp,aA,H,gm⟩=>⟨k,bp,aqc aA hm,H,gm⟩
theorem SV (dM:xd P=true) (cX:laidOutB P=true) {r:Reach} {mT:Nat}:∀{bx:List TypeId} {af:List Value} {ds:List (DataW H)} {p:List MemPlace},(∀t ∈ bx,t<P.types.size)->(∀(j:Nat) t v,bx[j]? =some t->af[j]? =some v->Value.okWide P W r mT t v)->
 DataW.TrodAll enc P W base sp held bx af ds p->∀{E:Env} {h:ae},ba ⟨W,fun _=>none⟩ E h W->∃ay aa xs,E.le ay/\Ext h aa/\ba ⟨W,fun _=>none⟩ ay aa W/\bg ay xs af/\nO P aa (l' ds) bx xs
 | [],[],ds,p,_,_,_,E,h,s=>⟨E,h,[],fun _ _ q=>q,Ext.refl h,s,rfl,by unfold nO;trivial⟩
 | [],_::_,ds,p,_,_,aH,E,h,s=>by cases ds<;>exact aH.elim
 | _::_,[],ds,p,_,_,aH,E,h,s=>by cases ds<;>exact aH.elim
 | _::_,_::_,[],p,_,_,aH,E,h,s=>aH.elim
 | t::bx,v::af,d::ds,p,aE,bA,⟨cg,ck,U,ab,_⟩,E,h,s=>by obtain ⟨n,gK,g1,x,bJ,a2,a3,a4,a5⟩:=ah8 dM cX (aE t (by simp)) (bA 0 t v rfl rfl) U s;obtain ⟨bM,g2,xs,bR,b7,eL,ic,jt⟩:=SV dM cX (fun t q=>aE t (by simp [q])) (fun j t v aj an=>bA (j+1) t v (by simpa using aj) (by simpa using an)) ab a3;exact ⟨bM,g2,x::xs,bJ.trans bR,a2.trans b7,eL,⟨_,_,rfl,Rel.mono bR _ _ a4,ic⟩,fS d,l' ds,by simp only [l'];exact aps _,⟨n,a5.ext b7⟩,jt⟩
theorem ZU (dM:xd P=true) (cX:laidOutB P=true) {r:Reach} {mT:Nat} {f:FuncId} {bx:List TypeId} {af:List Value} {ds:List (DataW H)} {p:List MemPlace} (ff:∀t ∈ bx,t<P.types.size) (bA:∀(j:Nat) t v,bx[j]? =some t->af[j]? =some v->Value.okWide P W r mT t v)
 (aH:DataW.TrodAll enc P W base sp held bx af ds p) (yh:Lay.ok W) (bK:ep P) (ah:∃fn,P.funcs[f]? =some fn/\fn.body.isSome=true) (au:∀(h:ae) (xs:List V),nO P h (l' ds) bx xs->cv P f xs h fun y _=>y=.bool true):
 Calls P f af.toArray W fun e w'=>e=.returned (.bool true)/\Below W.heap.size W w':=by
 obtain ⟨E,h,xs,_,_,a3,a4,a5⟩:=SV dM cX ff bA aH (Gi W yh);obtain ⟨y,aa,p0,rfl⟩:=au h xs a5;refine (p0.calls bK ah _ E W af a4 a3).mono fun e w' q=>?_;obtain ⟨ay,x,rfl,_,an,aJ⟩:=q;simp only [Rel] at an;subst an;exact ⟨rfl,aJ.frame⟩
end
end
section
open Go Go.RowKit
variable [Lay]
theorem collect {α:Type} (enc:α->List V) (size:Nat) (Q:α->Prop):∀(len:Nat) (us:List V),us.length=len * size->(∀i,i<len->∃a,(us.drop (i * size)).take size=enc a/\Q a)->
 ∃qY:List α,qY.length=len/\us=qY.flatMap enc/\∀a ∈ qY,Q a
 | 0,us,ar,_=>⟨[],rfl,by simpa using ar,fun a h=>by simp at h⟩
 | len+1,us,ar,h=>by
   obtain ⟨a,U,ab⟩:=h 0 (by omega);rw [aqr,Nat.one_mul] at ar;obtain ⟨qY,g1,g2,g3⟩:=collect enc size Q len (us.drop size) (by rw [apY];omega) (fun i ax=>by obtain ⟨b,cm,cz⟩:=h (i+1) (by omega);refine ⟨b,?_,cz⟩;rw [aqE,<-cm,aqr,Nat.one_mul,arp]);refine ⟨a::qY,by simp [g1],?_,fun b ah=>?_⟩
   . rw [List.flatMap_cons,<-g2,<-U,arE,aqu,aqN]
   . rcases apI.1 ah with rfl | ah
     . exact ab
     . exact g3 b ah
section
variable {P:Program} {h:ae} {n m:Nat} {t:TypeId}
theorem dF.pos {af:List V} (H:dF P h n m t af):∃k,n=k+1:=by
 cases n with
 | zero=>exact H.elim
 | succ m=>exact ⟨m,rfl⟩
theorem dF.int {af:List V} {k:IntKind} (H:dF P h n m t af) (hu:P.underlying t=some (.int k)):∃i,af=[.int k i]/\(Lit.int k i).wf=true:=by obtain ⟨m,rfl⟩:=H.pos;simpa only [dF,hu] using H
theorem dF.str {af:List V} (H:dF P h n m t af) (hu:P.underlying t=some .string):∃s:List UInt8,af=[.str s]/\s.length+1<=m:=by obtain ⟨_,rfl⟩:=H.pos;simpa only [dF,hu] using H
theorem dF.struct {af:List V} {b8:Array Field} (H:dF P h n m t af) (hu:P.underlying t=some (.struct b8)):∃gS,n=gS+1/\af.length=P.cellsOf t/\∃ms:List Nat,ms.length=b8.toList.length/\ms.sum+1<=m/\
 ∀(i:Nat) (f:Field) (k:Nat),b8.toList[i]? =some f->ms[i]? =some k->1<=k/\dF P h gS k f.type ((af.drop f.offset).take (P.cellsOf f.type)):=by
 obtain ⟨gS,rfl⟩:=H.pos;refine ⟨gS,rfl,?_⟩;simpa only [dF,hu] using H
def w_ (v:V):Prop:=∀b off l c,v=.slice b off l c->l<=c
def Ai (h:ae) (size:Nat) (v:V) (len m:Nat) (Q:Nat->List V->Prop):Prop:=
 v.one=true/\v.cells=[v]/\v.fu=true/\hK v=some (.int .i64 len)/\w_ v/\∃(us:List V) (ms:List Nat),e2 h size v len us/\ms.length=len/\ms.sum+1<=m/\∀(i k:Nat),ms[i]? =some k->1<=k/\Q k ((us.drop (i * size)).take size)
theorem dF.slice {af:List V} {e:TypeId} (H:dF P h n m t af) (hu:P.underlying t=some (.slice e)) (aW:P.cellsOf e≠0):∃gS v len,n=gS+1/\af=[v]/\Ai h (P.cellsOf e) v len m (fun k=>dF P h gS k e):=by
 obtain ⟨gS,rfl⟩:=H.pos;simp only [dF,hu] at H;obtain ⟨aY,H⟩:=H;rcases H with rfl | ⟨b,i,j,k,rfl⟩ | q | ⟨b,len,cap,rfl,U,ab,bq,us,cm,cz,ms,fH,f_,lU⟩
 . exact ⟨gS,_,0,rfl,rfl,rfl,rfl,rfl,rfl,(fun _ _ _ _ e=>by cases e),[],[],⟨by simp,rfl⟩,rfl,by simpa using aY,fun i k ax=>by simp at ax⟩
 . exact ⟨gS,_,0,rfl,rfl,rfl,rfl,rfl,rfl,(fun _ _ _ _ e=>by cases e),[],[],⟨by simp,rfl⟩,rfl,by simpa using aY,fun i k ax=>by simp at ax⟩
 . exact absurd q aW
 . exact ⟨gS,_,len,rfl,rfl,rfl,rfl,rfl,rfl,(fun _ _ _ _ e=>by cases e;exact ab),us,ms,⟨cz,rfl,bq,us,cm,by omega,by simp⟩,fH,f_,lU⟩
end
end
section
open Go Go.RowKit Go.ChangeShapes Go.WideShapes
variable [Lay]
section
variable {H:Type} {enc:TypeId × Value->H} {P:Program}
theorem Np (cX:laidOutB P=true) {W Aj:World} (ah:Below W.heap.size W Aj):∀{bx:List TypeId} {af:List Value} {ds:List (DataW H)} {bn:List MemPlace},(bx.all fun t=>P.readableRec t&&decide (t<P.types.size))=true->
 DataW.TrodAll enc P W 0 (fun _=>true) true bx af ds bn->DataW.TrodAll enc P Aj 0 (fun b=>decide (b<W.heap.size)) true bx af ds bn
 | [],[],[],_,_,h=>h
 | [],_::_,_,_,_,h=>by rename_i ds _;cases ds<;>exact h.elim
 | [],[],_::_,_,_,h=>h.elim
 | _::_,[],_,_,_,h=>by rename_i ds _;cases ds<;>exact h.elim
 | _::_,_::_,[],_,_,h=>h.elim
 | t::bx,v::af,d::ds,bn,aD,h=>by have aL:=h.lt;obtain ⟨p,q,U,ab,rfl⟩:=h;simp only [aqT,apn,apE] at aD;exact ⟨p,q,Below.trod cX aD.1.1 aD.1.2 U ah (fun x ao=>aL x (by simp [ao])),Np cX ah aD.2 ab,rfl⟩
theorem VW {W:World} {base:Nat} {sp:Nat->Bool} {held:Bool}:∀{bx:List TypeId} {af:List Value} {ds:List (DataW H)} {bn:List MemPlace},DataW.TrodAll enc P W base sp held bx af ds bn->ds.length=bx.length
 | [],[],[],_,_=>rfl
 | [],_::_,ds,_,h=>by cases ds<;>exact h.elim
 | [],[],_::_,_,h=>h.elim
 | _::_,[],ds,_,h=>by cases ds<;>exact h.elim
 | _::_,_::_,[],_,h=>h.elim
 | t::bx,v::af,d::ds,bn,h=>by obtain ⟨p,q,U,ab,rfl⟩:=h;simp [VW ab]
theorem ahX (dM:xd P=true) (cX:laidOutB P=true) {f:FuncId} {fn:Func} {s:ChangeSpec} {Cy:TypeId} (ff:(fn.params.toList.all fun t=>P.readableRec t&&decide (t<P.types.size))=true) (Sc:s.vars=[]) (aeD:fn.resultTypes=#[Cy]) (aeT:P.underlying Cy=some .bool)
 (J7:∀ds:List (DataW H),ds.length=fn.params.size->s.fn H (ds++[])={results:=[.lit (.bool true)],args:=ds})
 {B:Nat} (au:∀(h:ae) (xs:List V),nO P h B fn.params.toList xs->cv P f xs h fun y _=>y=.bool true)
 {W:World} {base:Nat} {args:Array Value} {ds gs:List (DataW H)} {before:List MemPlace} (aA:l' (ds++gs)<=B) (ll:Lay.ok W) (bK:ep P) (ah:∃fn,P.funcs[f]? =some fn/\fn.body.isSome=true)
 (yH:∀(j:Nat) t v,fn.params[j]? =some t->args[j]? =some v->Value.okWide P W .any base t v) (yh:DataW.Whole enc P fn.params.toList s.vars false W args.toList ds gs before):
 Calls P f args W fun e Aj=>∃v,e=.returned v/\s.post enc P fn false true false false W args v Aj:=by
 have ac1:=yh;obtain ⟨p,q,na,Rd,rfl,rm,o3⟩:=yh;rw [Sc] at Rd;obtain ⟨rfl,rfl⟩:=trodVars_none Rd;have hlen:ds.length=fn.params.size:=by rw [VW na];simp
 have hw:=ZU dM cX (mT:=base) (r:=.any) (fun t aE=>by
  have:=apP.1 ff t aE;simp only [apn,apE] at this
  exact this.2) (fun j t v U ab=>yH j t v (by simpa using U) (by simpa using ab)) na ll bK ah (fun h xs q=>au h xs (q.mono (by simpa using aA)))
 simp only [aqI] at hw;refine hw.mono fun e Aj ⟨he,No⟩=>?_;subst he;refine ⟨_,rfl,ds,[],p++[],[],p,[],ac1,?_,?_,?_,No.frame _,fun h=>by cases h⟩
 . rw [J7 ds hlen,aeD];exact trodAll_mk1 (shut_bool aeT _)
 . rw [J7 ds hlen];exact Np cX No ff na
 . rw [J7 ds hlen,Sc];rfl
end
end
section
open Go Go.RowKit
variable [Lay]
theorem alU {P:Program} {h:ae} {B:Nat} {xs:List V} (aW:nO P h B [] xs):xs=[]:=by
 match xs,aW with
 | [],_=>rfl
theorem Vu {P:Program} {h:ae} {B:Nat} {t:TypeId} {bx:List TypeId} {xs:List V} (aW:nO P h B (t::bx) xs):∃a qY k bp n,xs=a::qY/\k+bp<=B/\oF P h n k t a/\nO P h bp bx qY:=by
 match xs,aW with
 | a::qY,⟨k,bp,aA,⟨n,aY⟩,U⟩=>exact ⟨a,qY,k,bp,n,rfl,aA,aY,U⟩
section
variable {P:Program} {h:ae} {n m:Nat} {t:TypeId} {v:V}
theorem alW {b8:Array Field} (aW:oF P h n m t v) (hu:P.underlying t=some (.struct b8)):∃af,v=.agg af/\dF P h n m t af:=by unfold oF at aW;rw [hu] at aW;exact aW
theorem alV {e:TypeId} (aW:oF P h n m t v) (hu:P.underlying t=some (.slice e)) {c:Nat} (au:P.cellsOf e=c) (p1:c≠0):∃gS len,Ai h c v len m (fun k=>dF P h gS k e):=by unfold oF at aW;rw [hu] at aW;subst au;obtain ⟨gS,w,len,_,av,g⟩:=dF.slice aW hu p1;simp only [aq9,arG] at av;subst av;exact ⟨gS,len,g⟩
end
inductive D where
 | i (k:IntKind) (n:Int)
 | b (x:Bool)
 | s (x:List UInt8)
 | l (size:Nat) (es:List (List D))
inductive b6 (F:aO->Prop) (h:ae):List D->List V->Prop
 | nil:b6 F h [] []
 | i {k:IntKind} {n:Int} {ds:List D} {af:List V} (t:b6 F h ds af):b6 F h (.i k n::ds) (.int k n::af)
 | b {x:Bool} {ds:List D} {af:List V} (t:b6 F h ds af):b6 F h (.b x::ds) (.bool x::af)
 | s {x:List UInt8} {ds:List D} {af:List V} (ah:x.length<=top) (t:b6 F h ds af):b6 F h (.s x::ds) (.str x::af)
 | l {size:Nat} {es:List (List D)} {v:V} {us:List (List V)} {ds:List D} {af:List V} (aD:w_ v) (ah:es.length<=top) (aW:e2 h size v es.length us.flatten) (hu:us.length=es.length) (bm:∀u ∈ us,u.length=size)
    (kids:∀(i:Nat) (e:List D) (u:List V),es[i]? =some e->us[i]? =some u->b6 F h e u) (aB:∀b,v.aS b->F b) (t:b6 F h ds af):b6 F h (.l size es::ds) (v::af)
structure bN (F:aO->Prop) (h:ae) (size:Nat) (es:List (List D)) (v:V):Prop where
 room:w_ v
 le:es.length<=top
 ex:∃us:List (List V),e2 h size v es.length us.flatten/\us.length=es.length/\(∀u ∈ us,u.length=size)/\∀(i:Nat) (e:List D) (u:List V),es[i]? =some e->us[i]? =some u->b6 F h e u
 uc:∀b,v.aS b->F b
section
variable {F:aO->Prop} {h aa:ae} {ds:List D} {af:List V}
theorem b6.mod {dA M:aO->Prop} (m:Mod M h aa) (cJ:∀b,F b->Old h b->¬M b/\dA b) (H:b6 F h ds af):b6 dA aa ds af:=by
 induction H with
 | nil=>exact .nil
 | i t bh=>exact .i bh
 | b t bh=>exact .b bh
 | s ah t bh=>exact .s ah bh
 | l aD ah aW hu bm kids aB t uB sV=>exact .l aD ah (aW.mod m fun b q=>(cJ b (aB b q) (aW.bG q)).1) hu bm uB (fun b q=>(cJ b (aB b q) (aW.bG q)).2) sV
theorem b6.ext (H:b6 F h ds af) (e:Ext h aa):b6 F aa ds af:=by
 induction H with
 | nil=>exact .nil
 | i t bh=>exact .i bh
 | b t bh=>exact .b bh
 | s ah t bh=>exact .s ah bh
 | l aD ah aW hu bm kids aB t uB sV=>exact .l aD ah (aW.ext e) hu bm uB aB sV
theorem b6.eQ {dA:aO->Prop} (H:b6 F h ds af) (w:∀b,F b->dA b):b6 dA h ds af:=by
 induction H with
 | nil=>exact .nil
 | i t bh=>exact .i bh
 | b t bh=>exact .b bh
 | s ah t bh=>exact .s ah bh
 | l aD ah aW hu bm kids aB t uB sV=>exact .l aD ah aW hu bm uB (fun b q=>w b (aB b q)) sV
theorem b6.bG (H:b6 F h ds af):b6 (fun b=>F b/\Old h b) h ds af:=by
 induction H with
 | nil=>exact .nil
 | i t bh=>exact .i bh
 | b t bh=>exact .b bh
 | s ah t bh=>exact .s ah bh
 | l aD ah aW hu bm kids aB t uB sV=>exact .l aD ah aW hu bm uB (fun b q=>⟨aB b q,aW.bG q⟩) sV
theorem b6.e5 (H:b6 F h ds af):e5 af=true:=by
 induction H with
 | nil=>rfl
 | i t bh=>simpa [Go.Proofs.YtgmhjhgoamjeeaaGreatDoor.aZ.e5,V.one] using bh
 | b t bh=>simpa [Go.Proofs.YtgmhjhgoamjeeaaGreatDoor.aZ.e5,V.one] using bh
 | s ah t bh=>simpa [Go.Proofs.YtgmhjhgoamjeeaaGreatDoor.aZ.e5,V.one] using bh
 | l aD ah aW hu bm kids aB t uB sV=>simp only [Go.Proofs.YtgmhjhgoamjeeaaGreatDoor.aZ.e5,aW.one.1,sV,Bool.and_self]
theorem b6.int {k:IntKind} {n:Int} (H:b6 F h (.i k n::ds) af):∃us,af=.int k n::us/\b6 F h ds us:=by
 cases H with
 | i t=>exact ⟨_,rfl,t⟩
theorem b6.bool {x:Bool} (H:b6 F h (.b x::ds) af):∃us,af=.bool x::us/\b6 F h ds us:=by
 cases H with
 | b t=>exact ⟨_,rfl,t⟩
theorem b6.str {x:List UInt8} (H:b6 F h (.s x::ds) af):∃us,af=.str x::us/\x.length<=top/\b6 F h ds us:=by
 cases H with
 | s ah t=>exact ⟨_,rfl,ah,t⟩
theorem b6.d' {size:Nat} {es:List (List D)} (H:b6 F h (.l size es::ds) af):∃v us,af=v::us/\bN F h size es v/\b6 F h ds us:=by
 cases H with
 | l aD ah aW hu bm kids aB t=>exact ⟨_,_,rfl,⟨aD,ah,⟨_,aW,hu,bm,kids⟩,aB⟩,t⟩
theorem b6.no (H:b6 F h [] af):af=[]:=by cases H;rfl
end
theorem Ea {size:Nat}:∀(us:List (List V)) (i:Nat) (u:List V),(∀u ∈ us,u.length=size)->us[i]? =some u->(us.flatten.drop (i * size)).take size=u
 | [],i,u,_,h=>by simp at h
 | w::us,0,u,ar,h=>by simp only [apH,apq] at h;subst h;rw [arE,aqu,aqy,arI (ar _ (by simp))]
 | w::us,i+1,u,ar,h=>by rw [show (i+1) * size=size+i * size from by rw [arF,arp],<-aqE,aqy,List.drop_left' (ar _ (by simp))];exact Ea us i u (fun u hu=>ar u (by simp [hu])) (by simpa using h)
theorem AP {size:Nat}:∀(us:List (List V)),(∀u ∈ us,u.length=size)->us.flatten.length=us.length * size
 | [],_=>by simp
 | w::us,ar=>by rw [aqy,apC,ar w (by simp),AP us (fun u hu=>ar u (by simp [hu])),apz,arF,arp]
section
variable {F:aO->Prop} {h aa:ae} {size:Nat} {es:List (List D)} {v:V}
theorem bN.cons {ds:List D} {af:List V} (H:bN F h size es v) (t:b6 F h ds af):b6 F h (.l size es::ds) (v::af):=by obtain ⟨us,a,b,c,d⟩:=H.ex;exact .l H.room H.le a b c d H.uc t
theorem bN.ext (H:bN F h size es v) (e:Ext h aa):bN F aa size es v:=by obtain ⟨us,a,b,c,d⟩:=H.ex;exact ⟨H.room,H.le,⟨us,a.ext e,b,c,fun i x u aj an=>(d i x u aj an).ext e⟩,H.uc⟩
theorem bN.mod {dA M:aO->Prop} (m:Mod M h aa) (cJ:∀b,F b->Old h b->¬M b/\dA b) (H:bN F h size es v):bN dA aa size es v:=by obtain ⟨us,a,b,c,d⟩:=H.ex;exact ⟨H.room,H.le,⟨us,a.mod m fun x q=>(cJ x (H.uc x q) (a.bG q)).1,b,c,fun i x u aj an=>(d i x u aj an).mod m cJ⟩,fun x q=>(cJ x (H.uc x q) (a.bG q)).2⟩
theorem bN.eQ {dA:aO->Prop} (H:bN F h size es v) (w:∀b,F b->dA b):bN dA h size es v:=by obtain ⟨us,a,b,c,d⟩:=H.ex;exact ⟨H.room,H.le,⟨us,a,b,c,fun i x u aj an=>(d i x u aj an).eQ w⟩,fun b q=>w b (H.uc b q)⟩
theorem bN.len (H:bN F h size es v):hK v=some (.int .i64 es.length):=by obtain ⟨us,a,_⟩:=H.ex;exact a.len
theorem bN.one (H:bN F h size es v):v.one=true/\v.cells=[v]/\v.fu=true:=by obtain ⟨us,a,_⟩:=H.ex;exact a.one
theorem bN.nil (F:aO->Prop) (h:ae) (size:Nat):bN F h size [] .bu:=⟨fun b o l c e=>(by cases e),aqL _,⟨[],⟨by simp,rfl⟩,rfl,fun u hu=>(by cases hu),fun i e u q=>(by simp at q)⟩,fun b q=>q.elim⟩
theorem bN.at (H:bN F h size es v) {k:IntKind} {i:Nat} (ax:i<es.length):
 ∃b off u,f' size v (.int k i)=some (.ptr b (off+i * size))/\b6 F h es[i] u/\u.length=size/\(∀aa,Ext h aa->lX size (aa.get b) (off+i * size)=some (.agg u))/\∀aa,Ext h aa->∀j,j<size->fy (aa.get b) (off+i * size+j)=u[j]? :=by
 obtain ⟨us,U,ab,ar,aI⟩:=H.ex;have EF:i<us.length:=by omega
 have hu:=apo EF;obtain ⟨b,off,av,aK⟩:=U.bW (k:=k) ax;have aB:=Ea us i _ ar hu;have jP:=AP us ar;have hle:i * size+size<=us.length * size:=by have:=aqi size (show i+1<=us.length by omega);rw [arF] at this;exact this
 have Sa:us[i].length=size:=ar _ (apV EF);refine ⟨b,off,us[i],av,aI i _ _ (apo ax) hu,Sa,fun aa e=>?_,fun aa e j bC=>?_⟩
 . rw [(aK.ext e).hJ (i:=i * size) (n:=size) (by omega),aB]
 . rw [aqD,(aK.ext e).dS (i:=i * size+j) (by omega)];have:((us.flatten.drop (i * size)).take size)[j]? =us[i][j]? :=by rw [aB]
   rw [aqk bC,aqA] at this;rw [<-this,apo (by omega)]
end
def Any (_:aO):Prop:=True
theorem L3:∀{ms:List Nat},(∀(i k:Nat),ms[i]? =some k->1<=k)->ms.length<=ms.sum
 | [],_=>aps _
 | m::ms,h=>by have aY:=h 0 m rfl;have:=L3 (ms:=ms) fun i k q=>h (i+1) k (by simpa using q);simp only [apz,arj];omega
theorem L2:∀{ms:List Nat} {i k:Nat},ms[i]? =some k->k<=ms.sum
 | [],_,_,h=>by simp at h
 | m::ms,0,k,h=>by simp only [apH,apq] at h;subst h;simp only [arj];omega
 | m::ms,i+1,k,h=>by have:=L2 (ms:=ms) (i:=i) (k:=k) (by simpa using h);simp only [arj];omega
theorem K5 {α:Type} (enc:α->List D) {h:ae} {size len m:Nat} {v:V} {Q:Nat->List V->Prop} (H:Ai h size v len m Q) (hm:m<=1048576)
 (aq:∀k af,k<m->Q k af->∃x,b6 Any h (enc x) af/\af.length=size):∃xs:List α,xs.length=len/\xs.length+1<=m/\bN Any h size (xs.map enc) v:=by
 obtain ⟨_,_,_,_,aD,us,aN,cm,cz,fH,f_⟩:=H;have aeO:=L3 fun i k q=>(f_ i k q).1;obtain ⟨bn,g1,g2,g3⟩:=collect (α:=α × List V) Prod.snd size (fun p=>b6 Any h (enc p.1) p.2/\p.2.length=size) len us cm.1 (fun i ax=>by obtain ⟨k,aA⟩:∃k,aN[i]? =some k:=⟨_,apo (by omega)⟩;have:=L2 aA;obtain ⟨x,ao,ar⟩:=aq k _ (by omega) (f_ i k aA).2;exact ⟨(x,_),rfl,ao,ar⟩);refine ⟨bn.map Prod.fst,by rw [apv];exact g1,by rw [apv];omega,aD,by rw [apv,apv];unfold top;omega,⟨bn.map Prod.snd,?_,by simp,?_,?_⟩,fun _ _=>trivial⟩
 . rw [apv,apv,g1,<-List.flatMap_def,<-g2];exact cm
 . intro u hu;obtain ⟨p,ai,rfl⟩:=List.mem_map.1 hu;exact (g3 p ai).2
 . intro i c u aj an;rw [aqb] at aj an;rw [aqb] at aj;cases ai:bn[i]? with
   | none=>rw [ai] at aj;cases aj
   | some p=>
     rw [ai] at aj an;simp only [aqO,apq] at aj an;subst aj an;exact (g3 p (apR ai)).1
structure Has (h:ae) (n:Nat) (l:List V):Prop where
 lt:n<h.next
 g:h.get (aC n)=.bT l 0 false
theorem Has.ext {h aa:ae} {n:Nat} {l:List V} (B:Has h n l) (e:Ext h aa):Has aa n l:=⟨Nat.lt_of_lt_of_le B.lt e.next,(e.get _ (h5 B.lt)).trans B.g⟩
theorem fE (h:ae) (l:List V):∃H,h.new (.bT l 0 false)=H/\Ext h H/\Has H h.next l:=⟨_,rfl,(Ext.refl h).new _,by rw [ga];omega,nU _⟩
theorem hA (h:ae) (z l:List V):∃H,(h.new (.bT z 0 false)).set (aC h.next) (.bT l 0 false)=H/\Ext h H/\Has H h.next l:=
 ⟨_,rfl,((Ext.refl h).new _).set (aps _) _,by rw [nq,ga];omega,by rw [dV,apB rfl]⟩
theorem Has.set {h:ae} {n m:Nat} {l:List V} (B:Has h n l) (hm:n≠m) (k:b'):Has (h.set (aC m) k) n l:=⟨by rw [nq];exact B.lt,by rw [dV,apu (by rw [pg];exact fun q=>hm q.symm)];exact B.g⟩
theorem Has.put {h:ae} {n:Nat} {l:List V} (B:Has h n l) (e':List V):Has (h.set (aC n) (.bT e' 0 false)) n e':=⟨by rw [nq];exact B.lt,by rw [dV,apB rfl]⟩
theorem b6.rK {F:aO->Prop} {h:ae} {ds:List D} {af:List V} (H:b6 F h ds af):b6 (Old h) h ds af:=H.bG.eQ fun _ q=>q.2
theorem bN.rK {F:aO->Prop} {h:ae} {size:Nat} {es:List (List D)} {v:V} (H:bN F h size es v):bN (Old h) h size es v:=by obtain ⟨us,a,b,c,d⟩:=H.ex;exact ⟨H.room,H.le,⟨us,a,b,c,fun i x u aj an=>(d i x u aj an).rK⟩,fun b q=>a.bG q⟩
theorem Fx {h:ae} {n:Nat} (aV:h.next<=n):¬Old h (aC n):=fun q=>by unfold Old at q;rw [cV] at q;omega
theorem fW {i n:Nat} (h:i<n) (aV:n<=4611686018427387904):IntKind.i64.wrap ((i:Int)+1)=((i+1:Nat):Int):=by rw [wrap_i64 (by omega) (by omega)];rfl
def gA (i:Int):List D:=[.i .i64 i]
theorem bN.yM {F:aO->Prop} {h:ae} {l:List Int} {v:V} (H:bN F h 1 (l.map gA) v) {k:IntKind} {i:Nat} (ax:i<l.length):
 ∃b off,f' 1 v (.int k i)=some (.ptr b (off+i * 1))/\∀aa,Ext h aa->fy (aa.get b) (off+i * 1)=some (.int .i64 l[i]):=by
 obtain ⟨b,off,u,av,aK,bF,_,bZ⟩:=H.at (k:=k) (i:=i) (by rw [apv];exact ax);rw [aqZ,gA] at aK;obtain ⟨us,rfl,df⟩:=b6.int aK;obtain rfl:=df.no;exact ⟨b,off,av,fun aa e=>by simpa using bZ aa e 0 (by omega)⟩
end
end Go.Proofs.YtgmhjhgoamjeeaaGreatDoor.aZ
