/- The chapter's functions, walked by the abstract machine: plain lemmas, no condition. Printed by a program from longer texts: names made short. -/
import Derived.Test.YtahfljfikfkpnaaGreatDoorM14
import Derived.Test.YtahfljfikfkpnaaGreatDoorM9
import Derived.Test.YtahfljfikfkpnaaGreatDoorM7
import Derived.Test.YtahfljfikfkpnaaGreatDoorM11
import Derived.Test.YtahfljfikfkpnaaGreatDoorM4
import Derived.Lay
import Derived.LaidLaws
import Derived.PinnedBridge
import Derived.Lib.LaidU8T
import Derived.Shelf.Vars
import Derived.MakeChecks
set_option linter.unusedSectionVars false
set_option linter.unusedSimpArgs false
set_option linter.unusedVariables false
set_option maxHeartbeats 64000000
noncomputable section
namespace Go.Proofs.YtahfljfikfkpnaaGreatDoor
section
open Go bg
section
variable {W:List aq} {ab ak n d:Nat} {ws:List aq} {r:bH (List aq)}
def qj (r bq:bH (List aq)):Prop:=∀w',bq=.ok w'->∃w,r=.ok w/\w'.length<=w.length
section
variable {bq SH:bH (List aq)} {α:Type} {p:α} {h af g:ah} {aA:V} {B hl:Nat} {dE:Nat}
theorem qj.trans (a:qj r bq) (b:qj bq SH):qj r SH:=fun w' e=>by obtain ⟨w,aP,iR⟩:=b w' e;obtain ⟨aQ,bu,xC⟩:=a w aP;exact ⟨aQ,bu,ao6 iR xC⟩
theorem u9 {F:List aq->bH (α × List aq)} {P:Int × Nat->Prop} (ay:∀w,eK P w (F w)) (E:(r >>= F)=bq.map (fun ws=>(p,ws))):qj r bq:=by
 rintro w' rfl;cases r with
 | error e=>cases E
 | ok w=>
   refine ⟨w,rfl,?_⟩;have:=ay w;replace E:F w=_:=E;rw [E] at this;exact ap4 this
theorem DT {s:List UInt8} (E:bq=(r >>= ec ab s)):qj r bq:=by
 rintro w' rfl;cases r with
 | error e=>cases E
 | ok w=>exact ⟨w,rfl,ap4 (zS (ab:=ab) E.symm)⟩
theorem O2 {k:Int} {b9:aq} (E:(r >>= fg ab k)=bq.map (fun ws=>(b9,ws))):qj r bq:=u9 (P:=fun _=>True) (fun w=>kF (fun _ _=>trivial)) E
theorem aat {F:Nat->List aq->bH (α × List aq)} (ay:∀a w,eK (fun _=>True) w (F a w)) (E:(r >>= fun ws=>ec ab mH ws >>= fun b9=>F (bG ab ws) b9)=bq.map (fun ws=>(p,ws))):qj r bq:=by refine u9 (P:=fun _=>True) (F:=fun ws=>ec ab mH ws >>= fun b9=>F (bG ab ws) b9) (fun w=>?_) E;refine kz (fun _ _=>trivial) (fun _ _=>trivial) fun b9 aH=>?_;exact eK.le (ay _ b9) (ap4 aH)
theorem Zr {β γ:Type} {a:List aq->bH (List aq)} {b:List aq->List aq->bH β} {Eh:β->bH γ} {res:bH γ} (U:(r >>= fun x=>a x >>= fun y=>b x y >>= Eh)=res):(r >>= fun x=>(a x >>= fun y=>b x y) >>= Eh)=res:=by
 rw [<-U];cases r with
 | error e=>rfl
 | ok x=>
   show ((a x >>= fun y=>b x y) >>= Eh)=(a x >>= fun y=>b x y >>= Eh);cases a x<;>rfl
theorem dw.qf (C:dw W ab ak h aA (.ok ws) d):ws.length<=1000000:=by obtain ⟨i,G,q,_⟩:=C;rw [q,apr];have:=G.nF;omega
theorem JQ {vf:ah} {w':List aq} (C:dw W ab ak g aA r d) (fo:dw W ab ak vf aA (.ok w'.tail) d) (D:qj r (.ok w')) (dY:w'≠[]):mI W ak vf<mI W ak g:=by obtain ⟨w,rfl,aH⟩:=D w' rfl;exact sS C fo fun x e=>by cases e;have:=yc dY;omega
theorem aau {w':List aq} (D:qj (.ok ws) (.ok w')):w'.length<=ws.length:=by obtain ⟨w,e,aH⟩:=D w' rfl;cases e;exact aH
theorem cE.xK {z:List V} {p:aN} {v:V} {k:ah} {aW:bH (List aq)} {d0:Nat} (C:dw W ab ak h aA aW d0) (Up:dw W ab ak k aA r d) (M:Mod (b3 ak) h k) (A:Has k h.next z) (P:dq (Fr B) k p v) (cj:h.next<B):cE W ab ak h k aA r d [(h.next,z)] [(p,v)]:=
 ⟨⟨_,_,C⟩,Up,M,(fun x au=>by rw [ap2] at au;subst au;exact ⟨ao1 _,A⟩),(by simp),fun x au=>by
   rw [ap2] at au;subst au
   exact P.eW fun b q=>⟨ao6 (ap4 cj) q,fun y bm z=>by rw [ap2] at bm;subst bm;unfold Fr at q;rw [z,dk] at q;simp only at q;omega⟩⟩
end
theorem WA (J:∀m,m<=n->jB W ab ak m) (d:Nat) (ws:List aq) (h:ah) (aA:V) (C:dw W ab ak h aA (.ok ws) d) (a8:(aU ab (n+1)).binds d [] ws≠.error b7):dW Tryz.prog 71 [.ptr (an ak) 0] h (GJ W ab ak h aA d ((aU ab (n+1)).binds d [] ws)):=by
 generalize U:(aU ab (n+1)).binds d [] ws=res at a8 ⊢;replace U:yL ab (aU ab n) d [] ws=res:=U;refine YG.z rfl (cl ?_);unfold Oh;have bX:=C.lt;simp only [↓aa,ad,simprocAttr];refine gf (fun r g=>r 0=.ptr (an ak) 0/\Mod (b3 ak) h g/\∃m l dm,m<=n/\dz h.next (Fr h.next) g 5 (List.map aN.enc l) (r 3)/\l.length+dm.length<=1000000/\dw W ab ak g aA (.ok dm) d/\yL ab (aU ab m) d l dm=res) (fun _ g=>mI W ak g) ?_ ?_
 . exact ⟨by simp only [↓aa,cQ,simprocAttr],Mod.refl _ _,n,[],_,ao1 _,by simp only [↓aa,cQ,simprocAttr];exact dz.nil _ _ _ _,by have:=C.qf;simpa using this,C,U⟩
 rintro r ae ⟨aW,cw,m,l,dm,hm,O,jc,cy,U⟩;have I:=J m hm;unfold yL at U;have ee:=cE.start cy;simp only [aW,↓aa,ad,simprocAttr];refine aX (yd ee.C 3) ?_;rintro x ag ⟨m2,aQ,bf,bY,rfl,e8,bx⟩;replace U:=e_ (r:=(.ok dm)) U bY
 try dsimp only at U
 have bL:=ee.call m2 bx;obtain ⟨ar,aC,bl⟩:=bL.st [.int .i64 0,.int .i64 0,.int .i64 0,.str []] [.int .i64 aQ.kind,.int .i64 aQ.num,.int .i64 aQ.pos,.str aQ.text];simp only [aq.enc,aC,aW,↓aa,ad,simprocAttr];refine aX (iB bl.C gQ) ?_;rintro x aT ⟨m4,cU,j4,cf⟩;replace U:=i_ (r:=bf) U j4
 try dsimp only at U
 have a7:=bl.call m4 cf;replace U:=Zr U;simp only [aW,↓aa,ad,simprocAttr];refine aX (I.fn d _ aT aA a7.C (fC (r:=cU) U a8)) ?_;rintro x bC ⟨f,Db,b4,eY,rfl,jn,m5,bV⟩;replace U:=e_ (r:=cU) U eY
 try dsimp only at U
 have bO:=a7.eO m5 bV jn;have eQ:=bO.bj.one;obtain ⟨bA,cD,cg⟩:=bO.st b8 (vcs f Db);have fc:=cg.bj.one;obtain ⟨cd,dy,dI,cV⟩:=cg.vC cg.bj 46 aQ.pos (s:=aQ.text) (iJ.fj cg.C e8);simp only [eQ.1,eQ.2.1,eQ.2.2,cD,cg.bW.g,cg.a'.g,fc.1,fc.2.1,fc.2.2,dy,aW,↓aa,ad,simprocAttr];refine aX (gh 46 aQ.pos aQ.text cV.bj.c7) ?_;rintro x et ⟨rfl,ga⟩;have dJ:=cV.ext ga;have D:=((O2 bY).trans (DT j4)).trans (aat ((shorter ab m).fn d · · (.inl trivial)) eY);have lX:=hv O dJ.M (bX) (bX);obtain ⟨v9,fD,mg,oQ,xJ,_,_⟩:=pt lX (dJ.bj.eW (eZ:=Fr ae.next) fun b q=>q.1) (lk O (ao1 _)) cw.next dJ.M.next (by omega)
 try simp only [vcs,bR] at mg
 have op:=dJ.bj.one;have fS:=C.own dJ.C xJ (fun b q=>ao6 (ao1 _) q.1);have ib:=ot (cw.trans dJ.M) xJ (ao1 _);have er:=cE.start fS;simp only [op.1,op.2.1,op.2.2,mg,vcs,bR,aW,↓aa,ad,simprocAttr];refine bQ (jO er.C) ?_;cases b4 with
 | error e=>
   replace U:=k4 U;simp only [aY,kr,aW,↓aa,ad,simprocAttr];exact ⟨l++[(aN.mk 46 0 aQ.pos aQ.text [f])],.error e,U,oQ,by rw [apb,aps];omega,ib,fS⟩
 | ok uR=>
   replace U:=hp U
   try dsimp only at U
   simp only [j6,aW,↓aa,ad,simprocAttr];refine bQ (fi er.C zB) ?_;cases b_:bb zB uR with
   | true=>
     simp only [b_,apd] at U;obtain ⟨i10,iN,yq,Lv,mf,m10,iZ⟩:=er.C.iK (gS b_);have fp:=er.call m10 iZ;simp only [yq.g,Lv,mf,aW,↓aa,ad,simprocAttr];have nI:=aau D;have ED:=yc (gS b_);cases m with
     | zero=>exact (a8 U.symm).elim
     | succ m=>
       exact ⟨⟨ib.trans m10,m,l++[(aN.mk 46 0 aQ.pos aQ.text [f])],_,by omega,hv oQ m10 bX bX,by rw [apb,aps];omega,iZ,U⟩,JQ cy iZ D (gS b_)⟩
   | false=>
     simp only [b_,ao2,apa] at U;simp only [aY,aW,↓aa,ad,simprocAttr];exact ⟨l++[(aN.mk 46 0 aQ.pos aQ.text [f])],(.ok uR),U.symm,oQ,by rw [apb,aps];omega,ib,fS⟩
theorem agT (I:jB W ab ak n) (d:Nat) (ws:List aq) (dY:ws≠[]):e6 W ab ak 156 [] d (fun ws=>(aU ab (n+1)).lt d (bG ab ws) ws.tail) (.ok ws):=by
 refine lp fun h aA res C U a8=>Xx.z rfl (cl ?_);replace U:ug ab (aU ab n) d (bG ab ws) ws.tail=res:=U;unfold ug at U;unfold Nn;have bX:=C.lt;have ee:=cE.start C;obtain ⟨ae,ao,b2⟩:=ee.new b8;simp only [ao,↓aa,ad,simprocAttr];refine bQ (sA b2.C) ?_;obtain ⟨i2,ag,ft,ml,av,m2,bx⟩:=b2.C.iK dY;have bL:=b2.call m2 bx;simp only [ft.g,ml,av,↓aa,ad,simprocAttr];refine bQ (fi bL.C oo) ?_;cases b_:bb oo ws.tail with
 | true=>
   simp only [b_,apd] at U;obtain ⟨i3,ar,fl,yk,aC,m3,cq⟩:=bL.C.iK (gS b_);have bl:=bL.call m3 cq;simp only [fl.g,yk,aC,↓aa,ad,simprocAttr];refine aX (I.binds d _ ar aA bl.C (fun q=>by rw [q] at U;exact a8 U.symm)) ?_;rintro x aT ⟨l,cU,j4,oP,aH,m4,cf⟩;replace U:=e_ (r:=(.ok ws.tail.tail)) (f:=(aU ab n).binds d []) U j4
   try dsimp only at U
   have ol:=oP.one;have a7:=bl.call m4 cf;simp only [ol.1,ol.2.1,ol.2.2,↓aa,ad,simprocAttr];refine aX (iB a7.C vA) ?_;rintro x bC ⟨m5,b4,eY,bV⟩;replace U:=i_ (r:=cU) U eY
   try dsimp only at U
   have bO:=a7.call m5 bV;simp only [↓aa,ad,simprocAttr];refine aX (I.seq d _ bC aA bO.C (fC (r:=b4) U a8)) ?_;rintro x bA ⟨b,eM,ea,i',rfl,k2,m6,cv⟩;replace U:=e_ (r:=b4) U i'
   try dsimp only at U
   have cg:=bO.eO m6 cv k2;have gn:=cg.bj.one;obtain ⟨cd,dy,dI,r'⟩:=fq bA b8 (vcs b eM);have Vj:=k2.ext dI;have cV:=cg.box dI r';have yB:=hv oP m5 (by have:=bl.M.next;omega) (by have:=bl.M.next;omega);have U3:=(hv yB m6 (by have:=bl.M.next;omega) (by have:=bl.M.next;omega)).ext dI;obtain ⟨amD,et,dH,U2,uh,_,_⟩:=pt U3 Vj (lk yB (ao1 _)) (ao6 m4.next m5.next) (ao6 m6.next dI.next) (by omega);have op:=cV.bj.one;have bz:=cV.bW;have cj:h.next<ar.next:=bl.a'.lt
   have L7:=cE.xK C (C.own cV.C uh (fun b q=>ao6 (ap4 cj) q.1)) (ot cV.M uh (ap4 cj)) (n_ bz uh (.inl cj)) (rX U2 (by rw [apb,aps];omega) 30 0 (bG ab ws) (s:=[]) (api _)) cj;simp only [gn.1,gn.2.1,gn.2.2,dy,cV.a'.g,op.1,op.2.1,op.2.2,dH,↓aa,ad,simprocAttr];refine aX (gh 30 (bG ab ws) [] L7.bj.c7) ?_;rintro x fD ⟨rfl,jD⟩;have er:=L7.ext jD;have o:=er.bj.one;have bd:=er.dt (vcs (aN.mk 30 0 (bG ab ws) [] (l++[b])) amD);simp only [bd.a'.g,o.1,o.2.1,o.2.2,aY,vcs,bR,er.a'.g,↓aa,ad,simprocAttr];exact bd.fin (jo U)
 | false=>
   simp only [b_,ao2,apa] at U;simp only [↓aa,ad,simprocAttr];refine aX (I.pat d _ ag aA bL.C (fC (r:=(.ok ws.tail)) U a8)) ?_;rintro x ar ⟨a,b5,bU,fT,rfl,gC,m3,cq⟩;replace U:=e_ (r:=(.ok ws.tail)) U fT
   try dsimp only at U
   have bl:=bL.eO m3 cq gC;have c2:=bl.bj.one;obtain ⟨aT,bs,a7⟩:=bl.st b8 (vcs a b5);simp only [c2.1,c2.2.1,c2.2.2,bs,↓aa,ad,simprocAttr];refine aX (iB a7.C gQ) ?_;rintro x bC ⟨m5,b4,eY,bV⟩;replace U:=i_ (r:=bU) U eY
   try dsimp only at U
   have bO:=a7.call m5 bV;simp only [↓aa,ad,simprocAttr];refine aX (I.seq d _ bC aA bO.C (fC (r:=b4) U a8)) ?_;rintro x bA ⟨b,eM,ea,i',rfl,k2,m6,cv⟩;replace U:=e_ (r:=b4) U i'
   try dsimp only at U
   have cg:=bO.eO m6 cv k2;have gn:=cg.bj.one;obtain ⟨cd,dy,cV⟩:=cg.st b8 (vcs b eM);simp only [gn.1,gn.2.1,gn.2.2,dy,↓aa,ad,simprocAttr];refine aX (iB cV.C vA) ?_;rintro x et ⟨m8,hd,Gr,gj⟩;replace U:=i_ (r:=ea) U Gr
   try dsimp only at U
   have dJ:=cV.call m8 gj;simp only [↓aa,ad,simprocAttr];refine aX (I.seq d _ et aA dJ.C (fC (r:=hd) U a8)) ?_;rintro x fD ⟨c,ev,py,Gs,rfl,yD,m9,fS⟩;replace U:=e_ (r:=hd) U Gs
   try dsimp only at U
   have er:=dJ.eO m9 fS yD;have xQ:=er.bj.one;obtain ⟨iN,mf,fp⟩:=er.st b8 (vcs c ev);have xT:=fp.c0.one;have xU:=fp.ck.one;have xV:=fp.bj.one;obtain ⟨ly,px,DW,lW⟩:=fp.Rt fp.c0 fp.ck fp.bj 29 (bG ab ws) (s:=[]) (api _);simp only [vcs,apm,apx] at px;simp only [xQ.1,xQ.2.1,xQ.2.2,mf,fp.df.g,fp.bW.g,fp.a'.g,xT.1,xT.2.1,xT.2.2,xU.1,xU.2.1,xU.2.2,xV.1,xV.2.1,xV.2.2,px,↓aa,ad,simprocAttr];refine aX (gh 29 (bG ab ws) [] lW.bj.c7) ?_;rintro x BE ⟨rfl,tz⟩;have nA:=lW.ext tz;have o:=nA.bj.one;have bd:=nA.drop.drop.drop.dt (vcs (aN.mk 29 0 (bG ab ws) [] [a,b,c]) (.slice (an iN.next) 0 3 3));simp only [bd.a'.g,o.1,o.2.1,o.2.2,aY,vcs,bR,nA.a'.g,nA.bW.g,nA.df.g,nA.ic.g,↓aa,ad,simprocAttr];exact bd.fin (jo U)
end
section
variable {W:List aq} {ab ak n d:Nat} {ws:List aq} {r:bH (List aq)}
theorem WE {α β:Type} {r:bH α} {f k:α->bH β} {res:bH β} (U:(r >>= f)=res) (h:∀x,f x=k x):(r >>= k)=res:=by rw [<-U,show f=k from funext h]
theorem Y8 {β:Type} {T:qs} {l:List aN} {fin:List aN × List aq->bH β} (ws:List aq):(yQ ab T d l ws >>= fin)=(T.pat d ws >>= fun q=>ec ab jY q.2 >>= fun b9=>T.seq d b9 >>= fun z=>if bb jZ z.2=true then (T.cases d (l++[two 45 q.1 z.1]) z.2.tail >>= fin) else fin (l++[two 45 q.1 z.1],z.2)):=by
 unfold yQ;cases T.pat d ws with
 | error e=>rfl
 | ok q=>
   show ((ec ab jY q.2 >>= fun b9=>T.seq d b9 >>= fun z=>_) >>= fin)=(ec ab jY q.2 >>= _);cases ec ab jY q.2 with
   | error e=>rfl
   | ok b9=>
     show ((T.seq d b9 >>= fun z=>_) >>= fin)=(T.seq d b9 >>= _);cases T.seq d b9 with
     | error e=>rfl
     | ok z=>
       show ((if bb jZ z.2=true then _ else _) >>= fin)=if bb jZ z.2=true then _ else _
       split<;>rfl
def Cz:cc->Option cc
 | .seq a b=>match Cz a with
   | some x=>some x
   | none=>Cz b
 | .block _ b=>Cz b
 | .loop b=>some b
 | _=>none
def No:{c:cc // (Cz Hc.1).getD .skip=c}:=⟨_,by conv=>lhs;reduce;simp only [cx,simprocAttr]⟩
def Nz:{c:cc // (Cz He.1).getD .skip=c}:=⟨_,by conv=>lhs;reduce;simp only [cx,simprocAttr]⟩
def LZ (W:List aq) (ab ak n d:Nat) (k:Int) (h:ah) (B:Nat) (aA:V) (a:aN) (dO:Nat) (fin:List aN × List aq->bH (aN × List aq)) (res:bH (aN × List aq)) (r:a6) (g:ah):Prop:=
 r 0=.ptr (an ak) 0/\r 1=.int .i64 k/\r 4=.ptr (an h.next) 0/\r 5=.int .i64 dO/\Mod (b3 ak) h g/\Has g h.next b8/\B<=g.next/\∃m l rg,m<=n/\dz B (Fr B) g 5 (List.map aN.enc (a::l)) (r 7)/\l.length<=1000000/\(∀w,rg=.ok w->l.length+w.length<=1000000)/\dw W ab ak g aA rg d/\(rg >>= fun ws=>yQ ab (aU ab m) d l ws >>= fin)=res
theorem Hu (J:∀m,m<=n->jB W ab ak m) {k:Int} {h:ah} {B:Nat} {aA:V} {a:aN} {dO:Nat} {fin:List aN × List aq->bH (aN × List aq)} {res:bH (aN × List aq)} (acO:fin=fun q=>.ok (aN.mk k 0 dO [] (a::q.1),q.2)) (C:dw W ab ak h aA (.ok ws) d) (cj:h.next<B) (a8:res≠.error b7) (r:a6) (g:ah) (rB:LZ W ab ak n d k h B aA a dO fin res r g):
 zM Tryz.prog No.1 [iy.bn 0] r g (fun e r af=>e.ends/\∃aj,hz r af [.eB 4 5]=some aj/\Out W ab ak h aA d res (oneOf aj) af):=by
 refine gf (LZ W ab ak n d k h B aA a dO fin res) (fun _ g=>mI W ak g) rB ?_;rintro r ae ⟨z0,cZ,z4,z5,cw,bz,aF,m,l,rg,hm,O,aH,jc,cy,U⟩;have I:=J m hm;replace U:=WE U Y8;have bX:=C.lt;have sy:ak<B:=by omega
 unfold No;have ee:=cE.start cy;have ant:=aF;simp only [z0,cZ,z4,z5,↓aa,ad,simprocAttr];refine aX (I.pat d _ ae aA ee.C (fC (r:=rg) U a8)) ?_;rintro x ag ⟨q,amH,bf,bY,rfl,gJ,m2,bx⟩;replace U:=e_ (r:=rg) U bY
 try dsimp only at U
 have bL:=ee.eO m2 bx gJ;have dx:=bL.bj.one;obtain ⟨ar,aC,bl⟩:=bL.st b8 (vcs q amH);simp only [dx.1,dx.2.1,dx.2.2,aC,z0,cZ,z4,z5,↓aa,ad,simprocAttr];refine aX (iB bl.C jY) ?_;rintro x aT ⟨m4,cU,j4,cf⟩;replace U:=i_ (r:=bf) U j4
 try dsimp only at U
 have a7:=bl.call m4 cf;simp only [z0,cZ,z4,z5,↓aa,ad,simprocAttr];refine aX (I.seq d _ aT aA a7.C (fC (r:=cU) U a8)) ?_;rintro x bC ⟨b,eM,b4,eY,rfl,jn,m5,bV⟩;replace U:=e_ (r:=cU) U eY
 try dsimp only at U
 have bO:=a7.eO m5 bV jn;have eQ:=bO.bj.one;obtain ⟨bA,cD,cg⟩:=bO.st b8 (vcs b eM);have fc:=cg.ck.one;have mc:=cg.bj.one;obtain ⟨cd,dy,dI,cV⟩:=cg.qQ cg.ck cg.bj 45 q.a (s:=[]) (api _);simp only [vcs,apm,apx] at dy;simp only [eQ.1,eQ.2.1,eQ.2.2,cD,cg.bW.g,cg.a'.g,fc.1,fc.2.1,fc.2.2,mc.1,mc.2.1,mc.2.2,dy,z0,cZ,z4,z5,↓aa,ad,simprocAttr];refine aX (gh 45 q.a [] cV.bj.c7) ?_;rintro x et ⟨rfl,ga⟩;have dJ:=cV.ext ga;have D:=((u9 ((shorter ab m).pat d · (.inl trivial)) bY).trans (DT j4)).trans (u9 ((shorter ab m).seq d · (.inl trivial)) eY);have lX:=hv O dJ.M (sy) (sy);obtain ⟨v9,fD,mg,oQ,xJ,_,_⟩:=pt lX (dJ.bj.eW (eZ:=Fr ae.next) fun b q=>q.1) (lk O (ao1 _)) aF dJ.M.next (by (try simp only [ao9]);omega)
 try simp only [vcs,bR] at mg
 have op:=dJ.bj.one;have fS:=C.own dJ.C xJ (fun b q=>ao6 (ap4 cj) q.1);have ib:=ot (cw.trans dJ.M) xJ (ap4 cj);have oH:=n_ (bz.mod dJ.M (bT bX)) xJ (.inl cj);have adl:=ao6 aF (ao6 dJ.M.next xJ.next);have er:=cE.start fS;simp only [op.1,op.2.1,op.2.2,mg,vcs,bR,z0,cZ,z4,z5,↓aa,ad,simprocAttr];refine bQ (jO er.C) ?_;cases b4 with
 | error e=>
   replace U:=k4 U;simp only [kr,z0,cZ,z4,z5,↓aa,ad,simprocAttr];have ct:=oQ.one;refine aX (gh k dO [] (uv oQ (by simp only [apb,ao9,aph];omega))) ?_;rintro x iN ⟨rfl,wU⟩;have bd:=(cE.xK C fS ib oH (rX oQ (by simp only [apb,ao9,aph];omega) k 0 dO (s:=[]) (api _)) cj).ext wU;have mV:=bd.dt (vcs (aN.mk k 0 dO [] (a::l++[(aN.mk 45 0 q.a [] [q,b])])) v9);simp only [bd.a'.g,mV.a'.g,ct.1,ct.2.1,ct.2.2,aY,vcs,bR,z0,cZ,z4,z5,↓aa,ad,simprocAttr];exact mV.fin (r:=.error e) U
 | ok uR=>
   replace U:=hp U
   try dsimp only at U
   simp only [j6,z0,cZ,z4,z5,↓aa,ad,simprocAttr];refine bQ (fi er.C jZ) ?_;cases b_:bb jZ uR with
   | true=>
     simp only [b_,apd] at U;obtain ⟨i10,iN,yq,Lv,mf,m10,iZ⟩:=er.C.iK (gS b_);have fp:=er.call m10 iZ;simp only [yq.g,Lv,mf,z0,cZ,z4,z5,↓aa,ad,simprocAttr];have ED:=yc (gS b_);obtain ⟨yj,rfl,BW⟩:=D _ rfl;have qC:=jc _ rfl;cases m with
     | zero=>exact (a8 U.symm).elim
     | succ m=>
       exact ⟨⟨z0,cZ,z4,z5,ib.trans m10,oH.mod m10 (bT bX),ao6 adl m10.next,m,l++[(aN.mk 45 0 q.a [] [q,b])],.ok uR.tail,by omega,hv oQ m10 sy sy,by rw [apb,aps];omega,fun w e=>by cases e;rw [apb,aps];omega,iZ,U⟩,JQ cy iZ D (gS b_)⟩
   | false=>
     simp only [b_,ao2,apa] at U;rw [acO] at U;simp only [z0,cZ,z4,z5,↓aa,ad,simprocAttr];have ct:=oQ.one;refine aX (gh k dO [] (uv oQ (by simp only [apb,ao9,aph];omega))) ?_;rintro x iN ⟨rfl,wU⟩;have bd:=(cE.xK C fS ib oH (rX oQ (by simp only [apb,ao9,aph];omega) k 0 dO (s:=[]) (api _)) cj).ext wU;have mV:=bd.dt (vcs (aN.mk k 0 dO [] (a::l++[(aN.mk 45 0 q.a [] [q,b])])) v9);simp only [bd.a'.g,mV.a'.g,ct.1,ct.2.1,ct.2.2,aY,vcs,bR,z0,cZ,z4,z5,↓aa,ad,simprocAttr];exact mV.fin (r:=.ok uR) U.symm
theorem Y9 (J:∀m,m<=n->jB W ab ak m) (d:Nat) (k:Int) (ws:List aq) (dY:ws≠[]):e6 W ab ak 157 [.int .i64 k] d (fun ws=>(aU ab (n+1)).hq d k (bG ab ws) ws.tail) (.ok ws):=by
 have I:=J n (ao1 n);refine lp fun h aA res C U a8=>Xy.z rfl (cl ?_);replace U:Bi ab (aU ab n) d k (bG ab ws) ws.tail=res:=U;unfold Bi at U;unfold Hc;have bX:=C.lt;have IP:=C.qf;have ee:=cE.start C;obtain ⟨ae,ao,b2⟩:=ee.new b8;simp only [ao,↓aa,ad,simprocAttr];refine bQ (sA b2.C) ?_;obtain ⟨i2,ag,ft,ml,av,m2,bx⟩:=b2.C.iK dY;have bL:=b2.call m2 bx;simp only [ft.g,ml,av,↓aa,ad,simprocAttr];refine aX (I.seq d _ ag aA bL.C (fC (r:=(.ok ws.tail)) U a8)) ?_;rintro x ar ⟨a,b5,bU,fT,rfl,gC,m3,cq⟩;replace U:=e_ (r:=(.ok ws.tail)) U fT
 try dsimp only at U
 have bl:=bL.eO m3 cq gC;have c2:=bl.bj.one;obtain ⟨aT,bs,cN,eF⟩:=fq ar b8 (vcs a b5);have GP:=gC.ext cN;have a7:=bl.box cN eF;obtain ⟨bC,ca,e7,th⟩:=z8 GP (ao6 m3.next cN.next);have cj:h.next<ag.next:=bL.a'.lt
 have bO:=(a7.ext e7).drop.only;simp only [c2.1,c2.2.1,c2.2.2,bs,a7.a'.g,ca,↓aa,ad,simprocAttr];refine aX (iB bO.C Cl) ?_;rintro x bA ⟨m6,ea,i',cv⟩;replace U:=i_ (r:=bU) U i'
 try dsimp only at U
 have cg:=bO.call m6 cv;have yB:=hv th m6 (by omega) (by omega);have j9:ag.next<=bA.next:=by have:=m3.next;have:=cN.next;have:=e7.next;have:=m6.next;omega
 have D:=(u9 ((shorter ab n).seq d · (.inl trivial)) fT).trans (DT i');simp only [↓aa,ad,simprocAttr];refine bQ (jO cg.C) ?_;cases ea with
 | error e=>
   replace U:=k4 U;simp only [kr,↓aa,ad,simprocAttr];refine Hu (k:=k) (a:=a) (dO:=bG ab ws) J rfl C cj a8 _ _ ⟨by simp only [↓aa,cQ,simprocAttr],by simp only [↓aa,cQ,simprocAttr],by simp only [↓aa,cQ,simprocAttr],by simp only [↓aa,cQ,simprocAttr],cg.M,cg.a',j9,n,[],.error e,ao1 _,by simp only [↓aa,cQ,simprocAttr];exact yB,by simp,?_,cg.C,U.symm⟩;intro w e;cases e
 | ok jz=>
   replace U:=hp U
   try dsimp only at U
   simp only [j6,↓aa,ad,simprocAttr];refine bQ (fi cg.C jZ) ?_;cases b_:bb jZ jz with
   | true=>
     simp only [b_,apd] at U;obtain ⟨i7,cd,r',amM,dy,m7,eR⟩:=cg.C.iK (gS b_);have cV:=cg.call m7 eR;obtain ⟨yj,jD,BW⟩:=D _ rfl;cases jD;have qC:=At ws;have an':=At jz;cases n with
     | zero=>exact (a8 U.symm).elim
     | succ m=>
       simp only [r'.g,amM,dy,↓aa,ad,simprocAttr];refine Hu (n:=m+1) (k:=k) (a:=a) (dO:=bG ab ws) J rfl C cj a8 _ _ ⟨by simp only [↓aa,cQ,simprocAttr],by simp only [↓aa,cQ,simprocAttr],by simp only [↓aa,cQ,simprocAttr],by simp only [↓aa,cQ,simprocAttr],cV.M,cV.a',ao6 j9 m7.next,m,[],.ok jz.tail,by omega,by simp only [↓aa,cQ,simprocAttr];exact hv yB m7 (by omega) (by omega),by simp,fun w e=>by cases e;simp only [aph];omega,cV.C,U⟩
   | false=>
     simp only [b_,ao2,apa] at U;obtain ⟨yj,jD,BW⟩:=D _ rfl;cases jD;have qC:=At ws;cases n with
     | zero=>exact (a8 U.symm).elim
     | succ m=>
       simp only [↓aa,ad,simprocAttr];refine Hu (n:=m+1) (k:=k) (a:=a) (dO:=bG ab ws) J rfl C cj a8 _ _ ⟨by simp only [↓aa,cQ,simprocAttr],by simp only [↓aa,cQ,simprocAttr],by simp only [↓aa,cQ,simprocAttr],by simp only [↓aa,cQ,simprocAttr],cg.M,cg.a',j9,m,[],.ok jz,by omega,by simp only [↓aa,cQ,simprocAttr];exact yB,by simp,fun w e=>by cases e;simp only [aph];omega,cg.C,U⟩
theorem amp {β:Type} {T:qs} {l:List aN} {fin:List aN × List aq->bH β} {bq:bH (List aq)} (al:bb hh ws=true) (E:bq=((Except.ok ws.tail:bH (List aq)) >>= fun ws=>js ab l ws >>= fun _=>.ok ws)):(nv ab T d l ws >>= fin)=(bq >>= fun w=>T.ty d w >>= fun q=>T.iX d (l++[q.1]) q.2 >>= fin):=by
 unfold nv;rw [ape al,E];show ((js ab l ws.tail >>= fun _=>T.ty d ws.tail >>= fun q=>T.iX d (l++[q.1]) q.2) >>= fin)=((js ab l ws.tail >>= fun _=>.ok ws.tail) >>= _);cases js ab l ws.tail with
 | error e=>rfl
 | ok u=>
   show ((T.ty d ws.tail >>= fun q=>T.iX d (l++[q.1]) q.2) >>= fin)=(T.ty d ws.tail >>= _);cases T.ty d ws.tail<;>rfl
theorem O1 {l:List aN} {bq:bH (List aq)} (E:bq=(r >>= fun ws=>js ab l ws >>= fun _=>.ok ws)):qj r bq:=by
 rintro w' rfl;cases r with
 | error e=>cases E
 | ok w=>
   replace E:Except.ok w'=(js ab l w >>= fun _=>Except.ok w):=E;cases aE:js ab l w with
   | error e=>rw [aE] at E;cases E
   | ok u=>rw [aE] at E;cases E;exact ⟨_,rfl,ao1 _⟩
def C_ (ab:Nat) (a:aN) (dO:Nat) (q:List aN × List aq):bH (aN × List aq):=ec ab ej q.2 >>= fun ws=>if q.1.length=1 then .ok (a,ws) else fg ab 3 ws >>= fun z=>.ok (aN.mk 2 0 dO z.1.text q.1,z.2)
def L1 (W:List aq) (ab ak n d:Nat) (h:ah) (B:Nat) (aA:V) (a:aN) (dO:Nat) (res:bH (aN × List aq)) (r:a6) (g:ah):Prop:=
 r 0=.ptr (an ak) 0/\r 2=.ptr (an h.next) 0/\r 3=.int .i64 dO/\Mod (b3 ak) h g/\Has g h.next b8/\B<=g.next/\∃m l rg,m<=n/\dz B (Fr B) g 5 (List.map aN.enc l) (r 7)/\l.length<=1000002/\l.length≠0/\(l.length=1->∃w,rg=.ok w/\bb hh w=true)/\(∀w,rg=.ok w->l.length+w.length<=1000001)/\dw W ab ak g aA rg d/\(rg >>= fun ws=>(aU ab m).iX d l ws >>= C_ ab a dO)=res
theorem ame (J:∀m,m<=n->jB W ab ak m) {h:ah} {B:Nat} {aA:V} {a:aN} {dO:Nat} {res:bH (aN × List aq)} (C:dw W ab ak h aA (.ok ws) d) (cj:h.next<B) (a8:res≠.error b7) (r:a6) (g:ah) (aR:List iy) (Q:eb->a6->ah->Prop) (rB:L1 W ab ak n d h B aA a dO res r g)
 (b':∀(r:a6) (g:ah) l rg,r 0=.ptr (an ak) 0->r 2=.ptr (an h.next) 0->r 3=.int .i64 dO->Mod (b3 ak) h g->Has g h.next b8->dz B (Fr B) g 5 (List.map aN.enc l) (r 7)->l.length<=1000002->dw W ab ak g aA rg d->(rg >>= fun ws=>ec ab ej ws >>= fun ws=>fg ab 3 ws >>= fun z=>.ok (aN.mk 2 0 dO z.1.text l,z.2))=res->bK Tryz.prog aR .normal r g Q):zM Tryz.prog Nz.1 (iy.bn 0::aR) r g Q:=by
 refine gf (L1 W ab ak n d h B aA a dO res) (fun _ g=>mI W ak g) rB ?_;rintro r ae ⟨z0,z2,z3,cw,bz,aF,m,l,rg,hm,O,aH,tP,mB,jc,cy,U⟩;have bX:=C.lt;have sy:ak<B:=by omega
 unfold Nz;have ol:=O.one;have ee:=cE.start cy;simp only [z0,z2,z3,ol.1,ol.2.1,ol.2.2,↓aa,ad,simprocAttr];refine bQ (jO ee.C) ?_;cases rg with
 | error e=>
   replace U:=k4 U;simp only [kr,z0,z2,z3,ol.1,ol.2.1,ol.2.2,↓aa,ad,simprocAttr];refine b' _ _ l (.error e) (by simp only [z0,↓aa,cQ,simprocAttr]) (by simp only [z2,↓aa,cQ,simprocAttr]) (by simp only [z3,↓aa,cQ,simprocAttr]) cw bz (by simp only [↓aa,cQ,simprocAttr]<;>exact O) aH cy ?_;exact U.symm
 | ok ba=>
   replace U:=hp U
   try dsimp only at U
   simp only [j6,z0,z2,z3,ol.1,ol.2.1,ol.2.2,↓aa,ad,simprocAttr];refine bQ (fi ee.C hh) ?_;cases b_:bb hh ba with
   | true=>
     cases m with
     | zero=>exact (a8 U.symm).elim
     | succ m=>
       have I:=J m (by omega);obtain ⟨i2,ag,ft,ml,av,m2,bx⟩:=ee.C.iK (gS b_);have bL:=ee.call m2 bx;have cW:=O.len;rw [apD] at cW;simp only [ft.g,ml,av,z0,z2,z3,ol.1,ol.2.1,ol.2.2,↓aa,ad,simprocAttr];refine aX (Pr bL.C (l:=l) cW) ?_;rintro x ar ⟨m3,bU,fT,cq⟩;have bl:=bL.call m3 cq;replace U:=(amp (T:=aU ab m) (d:=d) (fin:=C_ ab a dO) b_ fT).symm.trans U;simp only [z0,z2,z3,ol.1,ol.2.1,ol.2.2,↓aa,ad,simprocAttr];refine aX (I.ty d _ ar aA bl.C (fC (r:=bU) U a8)) ?_;rintro x aT ⟨b,eM,cU,j4,rfl,sb,m4,cf⟩;replace U:=e_ (r:=bU) U j4
       try dsimp only at U
       have a7:=bl.eO m4 cf sb;have gX:=a7.bj.one;obtain ⟨bC,ca,bO⟩:=a7.st b8 (vcs b eM);have D:=(O1 fT).trans (u9 ((shorter ab m).ty d · (.inl trivial)) j4);have lX:=hv O bO.M (sy) (sy);obtain ⟨v6,bA,cD,wu,lG,_,_⟩:=pt lX (bO.bj.eW (eZ:=Fr ae.next) fun b q=>q.1) (lk O (ao1 _)) aF bO.M.next (by (try simp only [ao9]);omega)
       try simp only [vcs,bR] at cD
       have op:=bO.bj.one;have cv:=C.own bO.C lG (fun b q=>ao6 (ap4 cj) q.1);have de:=ot (cw.trans bO.M) lG (ap4 cj);have jN:=n_ (bz.mod bO.M (bT bX)) lG (.inl cj);have Qs:=ao6 aF (ao6 bO.M.next lG.next);have cg:=cE.start cv;simp only [gX.1,gX.2.1,gX.2.2,ca,bO.a'.g,op.1,op.2.1,op.2.2,cD,vcs,bR,z0,z2,z3,ol.1,ol.2.1,ol.2.2,↓aa,ad,simprocAttr];have qC:=jc _ rfl;have BW:=yc (gS b_);have key:∀w,cU=.ok w->w.length<ba.length:=fun w e=>by obtain ⟨x,bu,au⟩:=D w e;cases bu;omega
       exact ⟨⟨z0,z2,z3,de,jN,Qs,m,l++[b],cU,by omega,wu,by rw [apb,aps];omega,by rw [apb,aps];omega,fun q=>by rw [apb,aps] at q;omega,fun w e=>by have:=key w e;rw [apb,aps];omega,cv,U⟩,sS cy cv key⟩
   | false=>
     have rM:¬l.length=1:=fun q=>by obtain ⟨w,e,al⟩:=mB q;cases e;rw [b_] at al;cases al
     cases m with
     | zero=>exact (a8 U.symm).elim
     | succ m=>
       simp only [z0,z2,z3,ol.1,ol.2.1,ol.2.2,↓aa,ad,simprocAttr];refine b' _ _ l (.ok ba) (by simp only [z0,↓aa,cQ,simprocAttr]) (by simp only [z2,↓aa,cQ,simprocAttr]) (by simp only [z3,↓aa,cQ,simprocAttr]) cw bz (by simp only [↓aa,cQ,simprocAttr]<;>exact O) aH cy ?_;replace U:(nv ab (aU ab m) d l ba >>= C_ ab a dO)=res:=U;unfold nv at U;rw [ao_ (by rw [b_];exact apu)] at U;replace U:=hp U;unfold C_ at U;simp only [ao_ rM] at U;exact U
end
section
variable {W:List aq} {ab ak n d:Nat} {ws:List aq} {r:bH (List aq)}
theorem amd (J:∀m,m<=n->jB W ab ak m) (d:Nat) (ws:List aq):e6 W ab ak 210 [] d ((aU ab (n+1)).jk d) (.ok ws):=by
 have I:=J n (ao1 n);refine lp fun h aA res C U a8=>XO.z rfl (cl ?_);replace U:qc ab (aU ab n) d ws=res:=U;unfold qc at U;unfold He;have ee:=cE.start C;dsimp only at U;have bX:=C.lt;have IP:=C.qf;obtain ⟨ae,ao,b2⟩:=ee.new b8;simp only [ao,↓aa,ad,simprocAttr];refine bQ (sA b2.C) ?_;simp only [↓aa,ad,simprocAttr];refine bQ (lF b2.C 5) ?_;cases b_:cJ 5 ws with
 | true=>
   simp only [b_,apd] at U;simp only [↓aa,ad,simprocAttr];refine aX (qb b2.C b_) ?_;rintro x ag ⟨m2,aQ,bY,rfl,e8,bx⟩;rw [bY] at U
   try replace U:=hp U
   try dsimp only at U
   have bL:=b2.call m2 bx;obtain ⟨ar,aC,bl⟩:=bL.st [.int .i64 0,.int .i64 0,.int .i64 0,.str []] [.int .i64 aQ.kind,.int .i64 aQ.num,.int .i64 aQ.pos,.str aQ.text];have gB:=bl.leaf 1 0 (bG ab ws) (s:=aQ.text) (iJ.fj bl.C e8);simp only [aq.enc,aC,bl.a'.g,↓aa,ad,simprocAttr];refine aX (gh 1 (bG ab ws) aQ.text gB.bj.c7) ?_;rintro x aT ⟨rfl,cN⟩;have a7:=gB.ext cN;have o:=a7.bj.one;have bd:=a7.drop.dt (vcs (aN.mk 1 0 (bG ab ws) aQ.text []) .cS);simp only [bd.a'.g,o.1,o.2.1,o.2.2,aY,vcs,bR,a7.a'.g,a7.bW.g,↓aa,ad,simprocAttr];exact bd.fin U.symm
 | false=>
   simp only [b_,ao2,apa] at U;simp only [↓aa,ad,simprocAttr];refine bQ (lF b2.C 3) ?_;cases dC:cJ 3 ws with
   | true=>
     simp only [dC,apd] at U;simp only [↓aa,ad,simprocAttr];refine aX (qb b2.C dC) ?_;rintro x ag ⟨m2,aQ,bY,rfl,e8,bx⟩;rw [bY] at U
     try replace U:=hp U
     try dsimp only at U
     have bL:=b2.call m2 bx;obtain ⟨ar,aC,bl⟩:=bL.st [.int .i64 0,.int .i64 0,.int .i64 0,.str []] [.int .i64 aQ.kind,.int .i64 aQ.num,.int .i64 aQ.pos,.str aQ.text];have gB:=bl.leaf 2 0 (bG ab ws) (s:=aQ.text) (iJ.fj bl.C e8);simp only [aq.enc,aC,bl.a'.g,↓aa,ad,simprocAttr];refine aX (gh 2 (bG ab ws) aQ.text gB.bj.c7) ?_;rintro x aT ⟨rfl,cN⟩;have a7:=gB.ext cN;have o:=a7.bj.one;have bd:=a7.drop.dt (vcs (aN.mk 2 0 (bG ab ws) aQ.text []) .cS);simp only [bd.a'.g,o.1,o.2.1,o.2.2,aY,vcs,bR,a7.a'.g,a7.bW.g,↓aa,ad,simprocAttr];exact bd.fin U.symm
   | false=>
     simp only [dC,ao2,apa] at U;simp only [↓aa,ad,simprocAttr];refine aX (iB b2.C e9) ?_;rintro x ag ⟨m2,bf,bY,bx⟩;replace U:=i_ (r:=(.ok ws)) U bY
     try dsimp only at U
     have bL:=b2.call m2 bx;simp only [↓aa,ad,simprocAttr];refine aX (I.ty d _ ag aA bL.C (fC (r:=bf) U a8)) ?_;rintro x ar ⟨a,b5,bU,fT,rfl,gC,m3,cq⟩;replace U:=e_ (r:=bf) U fT
     try dsimp only at U
     have bl:=bL.eO m3 cq gC;have c2:=bl.bj.one;obtain ⟨aT,bs,cN,eF⟩:=fq ar b8 (vcs a b5);have GP:=gC.ext cN;have a7:=bl.box cN eF;have D:=(DT bY).trans (u9 ((shorter ab n).ty d · (.inl trivial)) fT);simp only [c2.1,c2.2.1,c2.2.2,bs,↓aa,ad,simprocAttr];refine bQ (jO a7.C) ?_;cases bU with
     | error e=>
       replace U:=k4 U;replace U:(Except.error e >>= fun ws=>ec ab ej ws >>= fun w=>.ok (a,w))=res:=U.symm;simp only [kr,↓aa,ad,simprocAttr];refine aX (iB a7.C ej) ?_;rintro x bC ⟨m5,b4,eY,bV⟩;replace U:=i_ (r:=(.error e)) U eY
       try dsimp only at U
       have bO:=a7.call m5 bV;have o:=bO.bj.one;have bd:=bO.drop.dt (vcs a b5);simp only [bd.a'.g,o.1,o.2.1,o.2.2,aY,vcs,bR,bO.a'.g,bO.bW.g,↓aa,ad,simprocAttr];exact bd.fin (jo U)
     | ok dj=>
       replace U:=hp U
       try dsimp only at U
       simp only [j6,↓aa,ad,simprocAttr];refine bQ (fi a7.C hh) ?_;cases eP:bb hh dj with
       | true=>
         obtain ⟨bC,ca,e7,th⟩:=z8 GP (ao6 m3.next cN.next);have cj:h.next<ag.next:=bL.a'.lt
         have bO:=(a7.ext e7).drop;simp only [a7.a'.g,ca,↓aa,ad,simprocAttr];have qC:=bO.C.qf;refine ame (dO:=bG ab ws) J C cj a8 _ _ _ _ ⟨by simp only [↓aa,cQ,simprocAttr],by simp only [↓aa,cQ,simprocAttr],by simp only [↓aa,cQ,simprocAttr],bO.M,bO.a',by have:=m3.next;have:=cN.next;have:=e7.next;omega,n,[a],.ok dj,ao1 _,by simp only [↓aa,cQ,simprocAttr];exact th,by simp,by simp,fun _=>⟨_,rfl,eP⟩,fun w e=>by cases e;simp only [ao9,aph];omega,bO.C,U⟩ ?_;rintro r ae l rg z0 z2 z3 cw bz O aH cy U;have ee:=cE.start cy;simp only [z0,z2,z3,↓aa,ad,simprocAttr];refine aX (iB ee.C ej) ?_;rintro x ag ⟨m2,bf,bY,bx⟩;replace U:=i_ (r:=rg) U bY
         try dsimp only at U
         have bL:=ee.call m2 bx;simp only [z0,z2,z3,↓aa,ad,simprocAttr];refine aX (yd bL.C 3) ?_;rintro x ar ⟨m3,eI,bU,fT,rfl,pZ,cq⟩;replace U:=e_ (r:=bf) U fT
         try dsimp only at U
         have bl:=bL.call m3 cq;obtain ⟨aT,bs,a7⟩:=bl.st [.int .i64 0,.int .i64 0,.int .i64 0,.str []] [.int .i64 eI.kind,.int .i64 eI.num,.int .i64 eI.pos,.str eI.text];have lX:=hv O a7.M (by omega) (by omega);have ct:=lX.one;have Uc:=bz.mod a7.M (bT bX);simp only [aq.enc,bs,a7.a'.g,ct.1,ct.2.1,ct.2.2,z0,z2,z3,↓aa,ad,simprocAttr];refine aX (gh 2 (bG ab ws) eI.text (uv lX (by omega))) ?_;rintro x bN ⟨rfl,wU⟩;have bd:=(cE.xK C a7.C (cw.trans a7.M) Uc (rX lX (by omega) 2 0 (bG ab ws) (iJ.fj a7.C pZ)) cj).ext wU;have mV:=bd.dt (vcs (aN.mk 2 0 (bG ab ws) eI.text l) (r 7));simp only [bd.a'.g,mV.a'.g,ct.1,ct.2.1,ct.2.2,aY,vcs,bR,z0,z2,z3,↓aa,ad,simprocAttr];exact mV.fin (jo U)
       | false=>
         cases n with
         | zero=>exact (a8 U.symm).elim
         | succ m=>
           replace U:(nv ab (aU ab m) d [a] dj >>= C_ ab a (bG ab ws))=res:=U;unfold nv at U;rw [ao_ (by rw [eP];exact apu)] at U;replace U:(ec ab ej dj >>= fun w=>.ok (a,w))=res:=U;simp only [↓aa,ad,simprocAttr];refine aX (iB a7.C ej) ?_;rintro x bC ⟨m5,b4,eY,bV⟩;replace U:=i_ (r:=(.ok dj)) U eY
           try dsimp only at U
           have bO:=a7.call m5 bV;have o:=bO.bj.one;have bd:=bO.drop.dt (vcs a b5);simp only [bd.a'.g,o.1,o.2.1,o.2.2,aY,vcs,bR,bO.a'.g,bO.bW.g,↓aa,ad,simprocAttr];exact bd.fin (jo U)
theorem ajv (m:Nat) (d:Nat) (ws:List aq) (h:ah) (aA:V) (C:dw W ab ak h aA (.ok ws) d) (a8:pv ab m ws≠.error b7):dW Tryz.prog 68 [.ptr (an ak) 0] h (GJ W ab ak h aA d (pv ab m ws)):=by
 generalize U:pv ab m ws=res at a8 ⊢;unfold pv at U;refine YD.z rfl (cl ?_);unfold Od;have bX:=C.lt;have IP:=C.qf;have ee:=cE.start C;simp only [↓aa,ad,simprocAttr];refine bQ (lF ee.C 5) ?_;cases b_:cJ 5 ws with
 | true=>
   simp only [b_,apd] at U;simp only [↓aa,ad,simprocAttr];refine aX (qb ee.C b_) ?_;rintro x ae ⟨m1,b9,kH,rfl,xp,cy⟩;rw [kH] at U
   try replace U:=hp U
   try dsimp only at U
   have b2:=ee.call m1 cy;obtain ⟨ag,av,bL⟩:=b2.st [.int .i64 0,.int .i64 0,.int .i64 0,.str []] [.int .i64 b9.kind,.int .i64 b9.num,.int .i64 b9.pos,.str b9.text];have AR:=bL.leaf 1 0 b9.pos (s:=b9.text) (iJ.fj bL.C xp);simp only [aq.enc,av,bL.a'.g,↓aa,ad,simprocAttr];refine aX (gh 1 b9.pos b9.text AR.bj.c7) ?_;rintro x ar ⟨rfl,cT⟩;have bl:=AR.ext cT;have O:=dz.nil h.next (Fr h.next) ar 5
   obtain ⟨v4,aT,bs,oP,zQ,_,_⟩:=pt (l:=[]) (hl:=h.next) O (bl.bj.eW (eZ:=Fr h.next) fun b q=>q.1) (fun b q=>by cases q) (ao1 _) bl.M.next (by simp)
   simp only [vcs,bR] at bs;simp only [aY,bs,vcs,bR,↓aa,ad,simprocAttr];exact ⟨[h9 b9],.ok ws.tail,U.symm,oP,by simp,ot bl.M zQ (ao1 _),C.own bl.C zQ (fun b q=>q.1)⟩
 | false=>
   simp only [b_,ao2,apa] at U;simp only [↓aa,ad,simprocAttr];refine bQ (fi ee.C e9) ?_;cases dC:bb e9 ws with
   | true=>
     simp only [dC,apd] at U;obtain ⟨i1,ae,bz,amK,ao,m1,cy⟩:=ee.C.iK (gS dC);have b2:=ee.call m1 cy;simp only [bz.g,amK,ao,↓aa,ad,simprocAttr];have BW:=At ws;refine gf (fun r g=>r 0=.ptr (an ak) 0/\Mod (b3 ak) h g/\∃m l rg,dz h.next (Fr h.next) g 5 (List.map aN.enc l) (r 3)/\l.length<=1000002/\(∀w,rg=.ok w->l.length+w.length<=1000001)/\dw W ab ak g aA rg d/\(rg >>= fun ws=>fg ab 5 ws >>= fun q=>kS ab m (l++[h9 q.1]) q.2 >>= fun z=>ec ab ej z.2 >>= fun w=>.ok (z.1,w))=res) (fun _ g=>mI W ak g) ?_ ?_
     . exact ⟨by simp only [↓aa,cQ,simprocAttr],b2.M,m,[],.ok ws.tail,by simp only [↓aa,cQ,simprocAttr];exact dz.nil _ _ _ _,by simp,fun w e=>by cases e;simp only [aph];omega,b2.C,U⟩
     rintro r ae ⟨z0,cw,m,l,rg,O,aH,jc,cy,U⟩;have ee:=cE.start cy;simp only [z0,↓aa,ad,simprocAttr];refine aX (yd ee.C 5) ?_;rintro x ag ⟨m2,aQ,bf,bY,rfl,e8,bx⟩;replace U:=e_ (r:=rg) U bY
     try dsimp only at U
     have bL:=ee.call m2 bx;obtain ⟨ar,aC,bl⟩:=bL.st [.int .i64 0,.int .i64 0,.int .i64 0,.str []] [.int .i64 aQ.kind,.int .i64 aQ.num,.int .i64 aQ.pos,.str aQ.text];have gB:=bl.leaf 1 0 aQ.pos (s:=aQ.text) (iJ.fj bl.C e8);simp only [aq.enc,aC,bl.a'.g,z0,↓aa,ad,simprocAttr];refine aX (gh 1 aQ.pos aQ.text gB.bj.c7) ?_;rintro x aT ⟨rfl,cN⟩;have a7:=gB.ext cN;have D:=O2 bY;have lX:=hv O a7.M (bX) (bX);obtain ⟨v5,bC,ca,th,RE,_,_⟩:=pt lX (a7.bj.eW (eZ:=Fr ae.next) fun b q=>q.1) (lk O (ao1 _)) cw.next a7.M.next (by omega)
     try simp only [vcs,bR] at ca
     have op:=a7.bj.one;have bV:=C.own a7.C RE (fun b q=>ao6 (ao1 _) q.1);have cR:=ot (cw.trans a7.M) RE (ao1 _);have bO:=cE.start bV;have on:=th.one;simp only [op.1,op.2.1,op.2.2,ca,vcs,bR,z0,↓aa,ad,simprocAttr];refine bQ (jO bO.C) ?_;cases bf with
     | error e=>
       replace U:=k4 U;replace U:((.error e) >>= fun ws=>ec ab ej ws >>= fun w=>.ok (l++[h9 aQ],w))=res:=U.symm;simp only [kr,on.1,on.2.1,on.2.2,z0,↓aa,ad,simprocAttr];refine aX (iB bO.C ej) ?_;rintro x bA ⟨m6,ea,i',cv⟩;replace U:=i_ (r:=(.error e)) U i'
       try dsimp only at U
       have cg:=bO.call m6 cv;simp only [aY,z0,↓aa,ad,simprocAttr];exact ⟨l++[h9 aQ],_,jo U,hv th m6 bX bX,by rw [apb,aps];omega,cR.trans m6,cv⟩
     | ok fs=>
       replace U:=hp U
       try dsimp only at U
       simp only [j6,z0,↓aa,ad,simprocAttr];refine bQ (fi bO.C hh) ?_;cases eP:bb hh fs with
       | true=>
         cases m with
         | zero=>exact (a8 U.symm).elim
         | succ m=>
           replace U:(kS ab (m+1) (l++[h9 aQ]) fs >>= fun z=>ec ab ej z.2 >>= fun w=>.ok (z.1,w))=res:=U;unfold kS at U;rw [ape eP] at U;obtain ⟨i6,bA,jN,amL,cD,m6,cv⟩:=bO.C.iK (gS eP);have cg:=bO.call m6 cv;have cW:=th.len;rw [apD] at cW;simp only [jN.g,amL,cD,z0,↓aa,ad,simprocAttr];refine aX (Pr cg.C (l:=(l++[h9 aQ])) cW) ?_;rintro x cd ⟨m7,e3,LR,eR⟩;have cV:=cg.call m7 eR;replace U:(e3 >>= fun ws=>fg ab 5 ws >>= fun q=>kS ab m (l++[h9 aQ]++[h9 q.1]) q.2 >>= fun z=>ec ab ej z.2 >>= fun w=>.ok (z.1,w))=res:=by
            rw [<-U,LR];show ((js ab (l++[h9 aQ]) fs.tail >>= fun _=>.ok fs.tail) >>= _)=((js ab (l++[h9 aQ]) fs.tail >>= fun _=>fg ab 5 fs.tail >>= fun q=>kS ab m (l++[h9 aQ]++[h9 q.1]) q.2) >>= _);cases js ab (l++[h9 aQ]) fs.tail with
            | error e=>rfl
            | ok u=>
              show (fg ab 5 fs.tail >>= _)=((fg ab 5 fs.tail >>= _) >>= _);cases fg ab 5 fs.tail<;>rfl
           simp only [z0,↓aa,ad,simprocAttr];obtain ⟨yj,rfl,an9⟩:=D _ rfl;have qC:=jc _ rfl;have an8:=yc (gS eP);have Gp:=O1 LR;have key:∀w,e3=.ok w->w.length<yj.length:=fun w e=>by obtain ⟨x,bu,au⟩:=Gp w e;cases bu;omega
           exact ⟨⟨cR.trans (m6.trans m7),m,l++[h9 aQ],e3,hv (hv th m6 bX bX) m7 bX bX,by rw [apb,aps];omega,fun w e=>by have:=key w e;rw [apb,aps];omega,eR,U⟩,sS cy eR key⟩
       | false=>
         cases m with
         | zero=>exact (a8 U.symm).elim
         | succ m=>
           replace U:(kS ab (m+1) (l++[h9 aQ]) fs >>= fun z=>ec ab ej z.2 >>= fun w=>.ok (z.1,w))=res:=U;unfold kS at U;rw [ao_ (by rw [eP];exact apu)] at U;replace U:((.ok fs) >>= fun ws=>ec ab ej ws >>= fun w=>.ok (l++[h9 aQ],w))=res:=U;simp only [on.1,on.2.1,on.2.2,z0,↓aa,ad,simprocAttr];refine aX (iB bO.C ej) ?_;rintro x bA ⟨m6,ea,i',cv⟩;replace U:=i_ (r:=(.ok fs)) U i'
           try dsimp only at U
           have cg:=bO.call m6 cv;simp only [aY,z0,↓aa,ad,simprocAttr];exact ⟨l++[h9 aQ],_,jo U,hv th m6 bX bX,by rw [apb,aps];omega,cR.trans m6,cv⟩
   | false=>
     simp only [dC,ao2,apa] at U;simp only [aY,↓aa,ad,simprocAttr];exact ⟨[],.ok ws,U.symm,dz.nil _ _ _ _,by simp,Mod.refl _ _,C⟩
end
section
variable {W:List aq} {ab ak n d:Nat} {ws:List aq} {r:bH (List aq)}
theorem akn {B:aO->Prop} {h:ah} {c:aN} {v:V} {a:Int} (A:dq B h c v):dq B h (.mk c.k c.n a c.s c.l) v:=⟨A.c7,A.str⟩
theorem aas {k:Int} {bq:bH (List aq)} {p:aN} {N:Nat} (E:(r >>= ko ab (aU ab N) k)=bq.map (fun ws=>(p,ws))):qj r bq:=by
 refine u9 (P:=fun _=>True) (fun w=>?_) E;unfold ko;refine (kF (fun _ _=>trivial)).bind (fun _ _=>trivial) fun b9 ba ae=>?_
 try simp only
 split
 . rename_i al;have:=fx al;exact ((shorter ab N).ty 0 _ (.inl trivial)).bind (fun _ _=>trivial) fun b bt ag=>by show bt.length<_;omega
 . exact ae
theorem aad (I:jB W ab ak n) (m0:Nat) (d:Nat) (a_:d=0) (ws:List aq):e6 W ab ak 28 [] d (kK ab (aU ab n) m0) (.ok ws):=by
 refine lp fun h aA res C U a8=>X9.z rfl (cl ?_);replace U:kK ab (aU ab n) m0 ws=res:=U;unfold kK at U;dsimp only at U;rw [show (aU ab n).pat 0=(aU ab n).pat d from by rw [a_],show (aU ab n).seq 0=(aU ab n).seq d from by rw [a_],show (aU ab n).binds 0=(aU ab n).binds d from by rw [a_]] at U;unfold NR;have bX:=C.lt;have IP:=C.qf;have ee:=cE.start C;obtain ⟨ae,ao,b2⟩:=ee.new b8;simp only [ao,↓aa,ad,simprocAttr];refine bQ (sA b2.C) ?_;simp only [↓aa,ad,simprocAttr];refine bQ (fi b2.C zF) ?_;cases b_:bb zF ws with
 | true=>
   simp only [b_,apd] at U;obtain ⟨i2,ag,ft,ml,av,m2,bx⟩:=b2.C.iK (gS b_);have bL:=b2.call m2 bx;simp only [ft.g,ml,av,↓aa,ad,simprocAttr];refine aX (ajv m0 d _ ag aA bL.C (fun q=>by rw [q] at U;exact a8 U.symm)) ?_;rintro x ar ⟨kc,bU,fT,Du,tP,m3,cq⟩;replace U:=e_ (r:=(.ok ws.tail)) (f:=pv ab m0) U fT
   try dsimp only at U
   have ol:=Du.one;have zK:=Du.len;rw [apD] at zK;have bl:=bL.call m3 cq;simp only [ol.1,ol.2.1,ol.2.2,zK,↓aa,ad,simprocAttr];refine aX (yd bl.C 3) ?_;rintro x aT ⟨m4,gp,cU,j4,rfl,xq,cf⟩;replace U:=e_ (r:=bU) U j4
   try dsimp only at U
   have a7:=bl.call m4 cf;obtain ⟨bC,ca,e7,iF⟩:=fq aT [.int .i64 0,.int .i64 0,.int .i64 0,.str []] [.int .i64 gp.kind,.int .i64 gp.num,.int .i64 gp.pos,.str gp.text];have bO:=a7.box e7 iF;simp only [aq.enc,ca,↓aa,ad,simprocAttr];refine aX (iB bO.C gQ) ?_;rintro x bA ⟨m6,ea,i',cv⟩;replace U:=i_ (r:=cU) U i'
   try dsimp only at U
   have cg:=bO.call m6 cv;have cj:h.next<ag.next:=bL.a'.lt
   have GK:=Sf ((hv Du m4 (by omega) (by omega))) (ao1 _);have dG:=fun q=>dh (ao1 _) ((hv Du m4 (by omega) (by omega)).R1 (b:=an aT.next) q);have U9:=z7 (GK.ext e7) m6 (by omega);have AG:=cg.a';have anY:ag.next<=aT.next:=by have:=m3.next;have:=m4.next;omega
   have ER:aT.next<bA.next:=AG.lt
   generalize Qs:aT.next=n6 at *
   obtain ⟨dO,P6⟩:∃dO:Int,dO=(bG ab ws:Nat):=⟨_,rfl⟩;rw [<-P6] at U;simp only [↓aa,ad,simprocAttr];refine gf (fun r g=>r 0=.ptr (an ak) 0/\r 2=.ptr (an h.next) 0/\r 3=.int .i64 (bG ab ws)/\r 5=.int .i64 kc.length/\r 6=.ptr (an n6) 0/\Mod (b3 ak) h g/\Has g h.next b8/\Has g n6 [.int .i64 gp.kind,.int .i64 gp.num,.int .i64 gp.pos,.str gp.text]/\∃m l rg,dz ag.next (lv ag.next n6) g 5 (List.map aN.enc (kc++l)) (r 4)/\¬(r 4).bn (an n6)/\l.length<=1000000/\(∀w,rg=.ok w->l.length+w.length<=1000000)/\dw W ab ak g aA rg d/\(rg >>= fun ws=>ko ab (aU ab n) 47 ws >>= fun q=>oY ab (aU ab n) m (kc++l++[q.1]) q.2 >>= fun z=>.ok (aN.mk 50 kc.length dO gp.text z.1,z.2))=res) (fun _ g=>mI W ak g) ?_ ?_
   . exact ⟨by simp only [↓aa,cQ,simprocAttr],by simp only [↓aa,cQ,simprocAttr],by simp only [↓aa,cQ,simprocAttr],by simp only [↓aa,cQ,simprocAttr],by simp only [↓aa,cQ,simprocAttr],cg.M,cg.bW,AG,m0,[],ea,by simp only [↓aa,cQ,simprocAttr];rw [apo];exact U9,by simp only [↓aa,cQ,simprocAttr];exact dG,by simp,fun w e=>by have:=dw.qf (e ▸ cg.C);simp only [aph];omega,cg.C,by rw [apo];exact U⟩
   clear U;subst P6;rintro r ae ⟨z0,z2,z3,z5,kj,cw,bz,AG,m,l,rg,O,dG,aH,jc,cy,U⟩;have sy:ak<ag.next:=by omega
   have ee:=cE.start cy;simp only [z0,z2,z3,z5,kj,↓aa,ad,simprocAttr];refine aX (OM I d a_ 47 _ ae aA ee.C (fC (r:=rg) U a8)) ?_;rintro x ag ⟨c,ev,bf,bY,rfl,gJ,m2,bx⟩;replace U:=e_ (r:=rg) U bY
   try dsimp only at U
   have bL:=ee.eO m2 bx gJ;have dx:=bL.bj.one;obtain ⟨ar,aC,bl⟩:=bL.st b8 (vcs c ev);have D:=aas bY;have adk:=AG.lt;have lX:=z7 O bl.M sy;obtain ⟨v4,aT,bs,oP,zQ,ahr,ad4⟩:=Ki lX (bl.bj.eW (eZ:=Fr ae.next) fun b q=>q.1) (lk O (ao1 _)) adk (by omega) bl.M.next (by rw [apb];omega)
   have op:=bl.CP;have cf:=C.own bl.C zQ (fun b q=>ao6 (ap4 cj) q.1);have cX:=ot (cw.trans bl.M) zQ (ap4 cj);have eF:=n_ (bz.mod bl.M (bT bX)) zQ (.inl cj);have AH:=(AG.mod bl.M (bT (by omega))).mod ahr dG;have ahC:¬V.bn v4 (an n6):=fun q=>by
    rcases ad4 _ q with q | q
    . exact dG q
    . rw [dk] at q;have:=bl.M.next;omega
   have a7:=cE.start cf;simp only [dx.1,dx.2.1,dx.2.2,aC,bl.a'.g,op.1,op.2.1,op.2.2,bs,z0,z2,z3,z5,kj,↓aa,ad,simprocAttr];refine bQ (jO a7.C) ?_;cases bf with
   | error e=>
     replace U:=k4 U;have ct:=oP.one;have bd:=cE.xK C cf cX eF (rX (oP.eW fun b q=>q.1) (by simp only [apb,ao9,aph];omega) 50 kc.length (bG ab ws) (iJ.fj cf xq)) cj;have mV:=bd.dt (vcs (aN.mk 50 kc.length (bG ab ws) gp.text (kc++l++[c])) v4);simp only [eF.g,AH.g,bd.a'.g,mV.a'.g,ct.1,ct.2.1,ct.2.2,aY,vcs,bR,kr,z0,z2,z3,z5,kj,↓aa,ad,simprocAttr];exact mV.fin (r:=.error e) U
   | ok dj=>
     replace U:=hp U
     try dsimp only at U
     simp only [j6,z0,z2,z3,z5,kj,↓aa,ad,simprocAttr];refine bQ (fi a7.C jZ) ?_;cases dC:bb jZ dj with
     | true=>
       obtain ⟨i5,bC,iF,uP,ca,m5,bV⟩:=a7.C.iK (gS dC);have bO:=a7.call m5 bV;simp only [iF.g,uP,ca,z0,z2,z3,z5,kj,↓aa,ad,simprocAttr];have ED:=yc (gS dC);obtain ⟨yj,rfl,BW⟩:=D _ rfl;have qC:=jc _ rfl;cases m with
       | zero=>exact (a8 U.symm).elim
       | succ m=>
         replace U:(oY ab (aU ab n) (m+1) (kc++l++[c]) dj >>= fun z=>.ok (aN.mk 50 kc.length (bG ab ws) gp.text z.1,z.2))=res:=U;unfold oY at U;rw [ape dC] at U;refine ⟨⟨cX.trans m5,eF.mod m5 (bT bX),AH.mod m5 (bT (by omega)),m,l++[c],.ok dj.tail,by rw [<-List.append_assoc];exact z7 oP m5 sy,ahC,by rw [apb,aps];omega,fun w e=>by cases e;rw [apb,aps];omega,bV,?_⟩,JQ cy bV D (gS dC)⟩;rw [<-U];show (ko ab (aU ab n) 47 dj.tail >>= _)=((ko ab (aU ab n) 47 dj.tail >>= _) >>= _);rw [<-List.append_assoc];cases ko ab (aU ab n) 47 dj.tail<;>rfl
     | false=>
       cases m with
       | zero=>exact (a8 U.symm).elim
       | succ m=>
         replace U:(oY ab (aU ab n) (m+1) (kc++l++[c]) dj >>= fun z=>.ok (aN.mk 50 kc.length (bG ab ws) gp.text z.1,z.2))=res:=U;unfold oY at U;rw [ao_ (by rw [dC];exact apu)] at U;have ct:=oP.one;have bd:=cE.xK C cf cX eF (rX (oP.eW fun b q=>q.1) (by simp only [apb,ao9,aph];omega) 50 kc.length (bG ab ws) (iJ.fj cf xq)) cj;have mV:=bd.dt (vcs (aN.mk 50 kc.length (bG ab ws) gp.text (kc++l++[c])) v4);simp only [eF.g,AH.g,bd.a'.g,mV.a'.g,ct.1,ct.2.1,ct.2.2,aY,vcs,bR,z0,z2,z3,z5,kj,↓aa,ad,simprocAttr];exact mV.fin (r:=.ok dj) U.symm
 | false=>
   simp only [b_,ao2,apa] at U;simp only [↓aa,ad,simprocAttr];refine bQ (fi b2.C sM) ?_;cases dC:bb sM ws with
   | true=>
     simp only [dC,apd] at U;obtain ⟨i2,ag,ft,ml,av,m2,bx⟩:=b2.C.iK (gS dC);have bL:=b2.call m2 bx;simp only [ft.g,ml,av,↓aa,ad,simprocAttr];refine aX (OM I d a_ 51 _ ag aA bL.C (fC (r:=(.ok ws.tail)) U a8)) ?_;rintro x ar ⟨c,ev,bU,fT,rfl,gC,m3,cq⟩;replace U:=e_ (r:=(.ok ws.tail)) U fT
     try dsimp only at U
     have bl:=bL.eO m3 cq gC;have c2:=bl.bj.one;obtain ⟨aT,bs,a7⟩:=bl.st b8 (vcs c ev);have bO:=a7.dt [.int .i64 c.k,.int .i64 c.n,.int .i64 (bG ab ws),.str c.s,ev];generalize ca:aT.set _ _=bC at bO;have gV:=bO.A1 (akn (a:=bG ab ws) bO.bj);have o:=gV.bj.one;have bd:=gV.drop.dt (vcs (aN.mk c.k c.n (bG ab ws) c.s c.l) ev);simp only [bd.a'.g,o.1,o.2.1,o.2.2,aY,vcs,bR,c2.1,c2.2.1,c2.2.2,bs,a7.a'.g,ca,bO.a'.g,gV.a'.g,gV.bW.g,↓aa,ad,simprocAttr];exact bd.fin (jo U)
   | false=>
     simp only [dC,ao2,apa] at U;simp only [↓aa,ad,simprocAttr];refine aX (iB b2.C pk) ?_;rintro x ag ⟨m2,bf,bY,bx⟩;replace U:=i_ (r:=(.ok ws)) U bY
     try dsimp only at U
     have bL:=b2.call m2 bx;simp only [↓aa,ad,simprocAttr];refine bQ (jO bL.C) ?_;cases bf with
     | error e=>
       replace U:=k4 U;replace U:(Except.error e >>= fun aB=>(aU ab n).pat d aB >>= fun q=>ec ab gQ q.2 >>= fun w=>(aU ab n).seq d w >>= fun z=>.ok (aN.mk 52 0 (bG ab ws) [] [q.1,z.1],z.2))=res:=U.symm;simp only [kr,↓aa,ad,simprocAttr];refine aX (I.pat d _ ag aA bL.C (fC (r:=(.error e)) U a8)) ?_;rintro x ar ⟨a,b5,bU,fT,rfl,gC,m3,cq⟩;replace U:=e_ (r:=(.error e)) U fT
       try dsimp only at U
       have bl:=bL.eO m3 cq gC;have c2:=bl.bj.one;obtain ⟨aT,bs,a7⟩:=bl.st b8 (vcs a b5);simp only [c2.1,c2.2.1,c2.2.2,bs,↓aa,ad,simprocAttr];refine aX (iB a7.C gQ) ?_;rintro x bC ⟨m5,b4,eY,bV⟩;replace U:=i_ (r:=bU) U eY
       try dsimp only at U
       have bO:=a7.call m5 bV;simp only [↓aa,ad,simprocAttr];refine aX (I.seq d _ bC aA bO.C (fC (r:=b4) U a8)) ?_;rintro x bA ⟨b,eM,ea,i',rfl,k2,m6,cv⟩;replace U:=e_ (r:=b4) U i'
       try dsimp only at U
       have cg:=bO.eO m6 cv k2;have gn:=cg.bj.one;obtain ⟨cd,dy,cV⟩:=cg.st b8 (vcs b eM);have kA:=cV.ck.one;have kB:=cV.bj.one;obtain ⟨et,dH,ga,dJ⟩:=cV.qQ cV.ck cV.bj 52 (bG ab ws) (s:=[]) (api _);simp only [vcs,apm,apx] at dH;simp only [gn.1,gn.2.1,gn.2.2,dy,cV.bW.g,cV.a'.g,kA.1,kA.2.1,kA.2.2,kB.1,kB.2.1,kB.2.2,dH,↓aa,ad,simprocAttr];refine aX (gh 52 (bG ab ws) [] dJ.bj.c7) ?_;rintro x fD ⟨rfl,jD⟩;have er:=dJ.ext jD;have o:=er.bj.one;have bd:=er.drop.drop.dt (vcs (aN.mk 52 0 (bG ab ws) [] [a,b]) (.slice (an cd.next) 0 2 2));simp only [bd.a'.g,o.1,o.2.1,o.2.2,aY,vcs,bR,er.a'.g,er.bW.g,er.df.g,↓aa,ad,simprocAttr];exact bd.fin (jo U)
     | ok bt=>
       replace U:=hp U
       try dsimp only at U
       simp only [j6,↓aa,ad,simprocAttr];refine bQ (fi bL.C oo) ?_;cases eP:bb oo bt with
       | true=>
         simp only [eP,apd] at U;obtain ⟨i3,ar,fl,yk,aC,m3,cq⟩:=bL.C.iK (gS eP);have bl:=bL.call m3 cq;simp only [fl.g,yk,aC,↓aa,ad,simprocAttr];refine aX (I.binds d _ ar aA bl.C (fun q=>by rw [q] at U;exact a8 U.symm)) ?_;rintro x aT ⟨l,cU,j4,oP,aH,m4,cf⟩;replace U:=e_ (r:=(.ok bt.tail)) (f:=(aU ab n).binds d []) U j4
         try dsimp only at U
         have ol:=oP.one;have a7:=bl.call m4 cf;have cj:h.next<ar.next:=bl.a'.lt
         simp only [ol.1,ol.2.1,ol.2.2,↓aa,ad,simprocAttr];refine aX (gh 53 (bG ab ws) [] (uv oP (by omega))) ?_;rintro aoS bN ⟨rfl,wU⟩;have bd:=(cE.xK C a7.C a7.M a7.a' (rX oP (by omega) 53 0 (bG ab ws) (s:=[]) (api _)) cj).ext wU;have mV:=bd.dt (vcs (aN.mk 53 0 (bG ab ws) [] l) x);simp only [bd.a'.g,mV.a'.g,ol.1,ol.2.1,ol.2.2,aY,vcs,bR,↓aa,ad,simprocAttr];exact mV.fin (jo U)
       | false=>
         simp only [eP,ao2,apa] at U;simp only [↓aa,ad,simprocAttr];refine aX (I.pat d _ ag aA bL.C (fC (r:=(.ok bt)) U a8)) ?_;rintro x ar ⟨a,b5,bU,fT,rfl,gC,m3,cq⟩;replace U:=e_ (r:=(.ok bt)) U fT
         try dsimp only at U
         have bl:=bL.eO m3 cq gC;have c2:=bl.bj.one;obtain ⟨aT,bs,a7⟩:=bl.st b8 (vcs a b5);simp only [c2.1,c2.2.1,c2.2.2,bs,↓aa,ad,simprocAttr];refine aX (iB a7.C gQ) ?_;rintro x bC ⟨m5,b4,eY,bV⟩;replace U:=i_ (r:=bU) U eY
         try dsimp only at U
         have bO:=a7.call m5 bV;simp only [↓aa,ad,simprocAttr];refine aX (I.seq d _ bC aA bO.C (fC (r:=b4) U a8)) ?_;rintro x bA ⟨b,eM,ea,i',rfl,k2,m6,cv⟩;replace U:=e_ (r:=b4) U i'
         try dsimp only at U
         have cg:=bO.eO m6 cv k2;have gn:=cg.bj.one;obtain ⟨cd,dy,cV⟩:=cg.st b8 (vcs b eM);have kA:=cV.ck.one;have kB:=cV.bj.one;obtain ⟨et,dH,ga,dJ⟩:=cV.qQ cV.ck cV.bj 52 (bG ab ws) (s:=[]) (api _);simp only [vcs,apm,apx] at dH;simp only [gn.1,gn.2.1,gn.2.2,dy,cV.bW.g,cV.a'.g,kA.1,kA.2.1,kA.2.2,kB.1,kB.2.1,kB.2.2,dH,↓aa,ad,simprocAttr];refine aX (gh 52 (bG ab ws) [] dJ.bj.c7) ?_;rintro x fD ⟨rfl,jD⟩;have er:=dJ.ext jD;have o:=er.bj.one;have bd:=er.drop.drop.dt (vcs (aN.mk 52 0 (bG ab ws) [] [a,b]) (.slice (an cd.next) 0 2 2));simp only [bd.a'.g,o.1,o.2.1,o.2.2,aY,vcs,bR,er.a'.g,er.bW.g,er.df.g,↓aa,ad,simprocAttr];exact bd.fin (jo U)
end
section
variable {W:List aq} {ab ak n d:Nat} {ws:List aq} {r:bH (List aq)}
theorem kX {f:Nat} {args:List V} {F:List aq->bH (aN × List aq)} (h:F ws=.error b7):e6 W ab ak f args d F (.ok ws):=fun _ _ _ q=>(q ws rfl h).elim
theorem ajS (d:Nat) (e:Int × Nat) (F:List aq->bH (aN × List aq)):e6 W ab ak 73 [] d F (.error e):=fun h aA C _=>DZ (re:=fun _=>.error b7) (tc:=fun _=>.error b7) (s:=hh) Oj (by decide) (by decide) (fun _=>kX rfl) (fun _=>kX rfl) rfl h aA C (fun _ q=>by cases q)
theorem alc (d:Nat) (e:Int × Nat) (F:List aq->bH (aN × List aq)):e6 W ab ak 74 [] d F (.error e):=fun h aA C _=>DZ (re:=fun _=>.error b7) (tc:=fun _=>.error b7) (s:=Ai) Ok (by decide) (by decide) (fun _=>kX rfl) (fun _=>kX rfl) rfl h aA C (fun _ q=>by cases q)
theorem aml (d:Nat) (e:Int × Nat) (F:List aq->bH (aN × List aq)):e6 W ab ak 120 [] d F (.error e):=by
 refine lp fun h aA res C U a8=>M3.z rfl (cl ?_);unfold Hb;have ee:=cE.start C;obtain ⟨ae,ao,b2⟩:=ee.new b8;simp only [ao,↓aa,ad,simprocAttr];refine aX (D0 b2.C) ?_;rintro x ag ⟨m2,⟨_,_,q,_⟩ | ⟨rfl,fk,bx,eh⟩⟩
 . cases q
 have aaI:e=fk:=by have:=eh fun _=>.error b7;cases this;rfl
 subst aaI;have bL:=b2.call m2 bx;have gV:=bL.leaf 0 0 0 (s:=[]) (api _);have o:=gV.bj.one;have bd:=gV.dt (vcs (.mk 0 0 0 [] []) .cS);simp only [bd.a'.g,o.1,o.2.1,o.2.2,aY,vcs,bR,gV.a'.g,↓aa,ad,simprocAttr];exact bd.fin (r:=.error e) U.symm
theorem aj0 (W:List aq) (ab ak:Nat):jB W ab ak 0:=by
 have PS:∀d r,e6 W ab ak 73 [] d (fun _=>.error b7) r:=fun d r=>by cases r with | ok w=>exact kX rfl | error e=>exact ajS d e _
 have gs:∀d r,e6 W ab ak 74 [] d (fun _=>.error b7) r:=fun d r=>by cases r with | ok w=>exact kX rfl | error e=>exact alc d e _
 exact {
  ty:=fun d r=>by cases r with | ok w=>exact kX rfl | error e=>exact aml d e _
  hx:=fun d ws=>kX rfl
  named:=fun d ws=>kX rfl
  jk:=fun d ws=>kX rfl
  pat:=PS
  iU:=fun d ws=>kX rfl
  gP:=fun d ws=>kX rfl
  seq:=gs
  fn:=fun d r=>PL d (PS d) (gs d) r
  one:=fun d ws=>kX rfl
  hq:=fun d k ws _=>kX rfl
  lt:=fun d ws _=>kX rfl
  binds:=fun d ws h aA _ q=>(q rfl).elim
  pair:=fun d ws=>kX rfl
  ja:=fun d ws=>kX rfl
  hF:=fun d ws=>kX rfl
  hG:=fun d ws=>kX rfl
  pre:=fun d ws=>kX rfl
  app:=fun d ws=>kX rfl
  atom:=fun d ws=>kX rfl}
theorem Sm (W:List aq) (ab ak:Nat):∀n,∀m,m<=n->jB W ab ak m
 | 0,m,hm=>by
   obtain rfl:m=0:=by omega
   exact aj0 W ab ak
 | n+1,m,hm=>by
   have J:=Sm W ab ak n;by_cases h:m<=n
   . exact J m h
   obtain rfl:m=n+1:=by omega
   have I:=J n (ao1 n);exact {
    ty:=amk I
    hx:=ajl I
    named:=ahx I
    jk:=amd J
    pat:=ajR I
    iU:=ajN I
    gP:=ajP I
    seq:=alb I
    fn:=fun d r=>PL d (I.pat d) (I.seq d) r
    one:=aii I
    hq:=Y9 J
    lt:=agT I
    binds:=WA J
    pair:=ajh I
    ja:=Zy I
    hF:=alQ J
    hG:=alS J
    pre:=aj_ I
    app:=V0 J
    atom:=Wi I}
end
section
variable {W:List aq} {ab ak n:Nat}
theorem ajO (I:iI W ab ak n) (d:Nat) (ws:List aq):gD W ab ak 105 [] d ws ((aU ab (n+1)).iU d ws):=by
 intro h aA i C a8;generalize U:(aU ab (n+1)).iU d ws=res at a8 ⊢;replace U:ox ab (aU ab n) d ws=res:=U;unfold ox at U;refine WX.x rfl (cl ?_);unfold MN;have bX:=C.at_.lt;obtain ⟨ae,ao,aP,bz⟩:=fU h b8;have m1:Mod (b3 ak) h ae:=aP.mod _;have cw:=m1;have cy:=C.ext aP;simp only [ao,↓aa,ad,simprocAttr];refine bQ (kb cy 4) ?_;cases b_:cJ 4 ws with
 | true=>
   simp only [b_,apd,ao2,apa,bB] at U;simp only [↓aa,ad,simprocAttr];refine cH (mQ cy 4) ?_ ?_
   rotate_left
   . rintro x ag ⟨e,he,rfl,m,bo⟩;simp only [cF,aY,↓aa,ad,simprocAttr];exact ⟨e,by rw [he] at U;exact U.symm,rfl,(cw.trans m),bo⟩
   rintro x ag ⟨⟨aQ,bt⟩,bf,rfl,⟨e8,tN⟩,m2,i2,bx⟩;rw [bf] at U
   try simp only [bB] at U
   have M2:=cw.trans m2;obtain ⟨ar,aC,cT,fl⟩:=fq ag [.int .i64 0,.int .i64 0,.int .i64 0,.str []] [.int .i64 aQ.kind,.int .i64 aQ.num,.int .i64 aQ.pos,.str aQ.text];have m3:Mod (b3 ak) ag ar:=cT.mod _;have cu:=M2.trans m3;have cq:=bx.ext cT;obtain ⟨aT,bs,cN,eF⟩:=fq ar b8 [.int .i64 16,.int .i64 0,.int .i64 aQ.pos,.str aQ.text,.cS];have m4:Mod (b3 ak) ar aT:=cN.mod _;have cX:=cu.trans m4;have cf:=cq.ext cN;obtain ⟨bC,ca,e7,sa,_⟩:=Cx aT 1 5 [.str iW,.str hN,.str e9,.str h3,.str iE] rfl (by unfold top;omega);simp only [iW,hN,e9,h3,iE] at ca;have m5:Mod (b3 ak) aT bC:=e7.mod _;have cR:=cX.trans m5;have bV:=cf.ext e7;simp only [aq.enc,aC,fl.g,bs,ca,↓aa,ad,simprocAttr];refine bQ (Tj bV [iW,hN,e9,h3,iE] sa (by simp)) ?_;simp +contextual only [↓aa,ad,simprocAttr];refine jE (.bool (cJ 3 bt)) (fun ax=>by simp only [ax,↓aa,ad,simprocAttr];exact kb bV 3) ?_;simp +contextual only [im,↓aa,ad,simprocAttr];refine jE (.bool (cJ 1 bt)) (fun ax=>by simp only [ax,↓aa,ad,simprocAttr];exact kb bV 1) ?_;simp +contextual only [im,↓aa,ad,simprocAttr];refine jE (.bool (cJ 4 bt)) (fun ax=>by simp only [ax,↓aa,ad,simprocAttr];exact kb bV 4) ?_;have di:(r6 [iW,hN,e9,h3,iE] bt||cJ 3 bt||cJ 1 bt||cJ 4 bt)=ya bt:=rfl;cases dC:ya bt with
   | true=>
     simp only [dC,apd,ao2,apa,bB] at U;simp only [im,di,dC,↓aa,ad,simprocAttr];have g6:(aU ab n).gP d bt≠.error b7:=fun q=>by rw [q] at U;exact a8 U.symm
     refine cH (I.gP d bt bC aA i2 bV g6) ?_ ?_
     rotate_left
     . rintro x bA ⟨e,he,rfl,m,bo⟩;simp only [cF,aY,↓aa,ad,simprocAttr];exact ⟨e,by rw [he] at U;exact U.symm,rfl,(cR.trans m),bo⟩
     rintro x bA ⟨a,jz,b5,i6,ea,rfl,aO,m6,cv⟩;rw [ea] at U
     try simp only [bB] at U
     have de:=cR.trans m6;have fc:=aO.one;obtain ⟨cd,dy,dI,rf⟩:=sR (F:=Fr bC.next) (h:=bA) (size:=5) rfl aO.cs (ry m6.next);have m7:Mod (b3 ak) bA cd:=dI.mod _;have ew:=de.trans m7;have eR:=cv.ext dI;have ef:=oy (l:=[a]) 16 0 aQ.pos aQ.text rf rfl (le_top (C.fj aQ e8));have k0:=eF.mod (m5.trans (m6.trans m7)) (bT (by have:=cu.next;omega));obtain ⟨et,dH⟩:∃g,cd.set (an ar.next) (.bc [.int .i64 16,.int .i64 0,.int .i64 aQ.pos,.str aQ.text,(.slice (an bA.next) 0 1 1)] 0 false)=g:=⟨_,rfl⟩;have pD:=k0.put [.int .i64 16,.int .i64 0,.int .i64 aQ.pos,.str aQ.text,(.slice (an bA.next) 0 1 1)];rw [dH] at pD;have gj:=C.box eR (n:=ar.next) cu.next (.bc [.int .i64 16,.int .i64 0,.int .i64 aQ.pos,.str aQ.text,(.slice (an bA.next) 0 1 1)] 0 false)
     rw [dH] at gj;have g':Mod (b3 ak) h et:=by rw [<-dH];exact ew.set (fun o=>absurd o (dh cu.next)) _
     have qn:=aO.mod m7 (by have:=cR.next;omega);have wx:=qn.box (n:=ar.next) (by have:=m5.next;have:=eF.lt;omega) (.bc [.int .i64 16,.int .i64 0,.int .i64 aQ.pos,.str aQ.text,(.slice (an bA.next) 0 1 1)] 0 false);rw [dH] at wx;have oR:=ef.box (n:=ar.next) (by have:=m5.next;have:=eF.lt;omega) (.bc [.int .i64 16,.int .i64 0,.int .i64 aQ.pos,.str aQ.text,(.slice (an bA.next) 0 1 1)] 0 false);rw [dH] at oR;have hH:=bz.mod (m2.trans (m3.trans (m4.trans (m5.trans (m6.trans m7))))) (bT bX);have qh:=hH.set (m:=ar.next) (by have:=bz.lt;have:=(m2.trans m3).next;omega) (.bc [.int .i64 16,.int .i64 0,.int .i64 aQ.pos,.str aQ.text,(.slice (an bA.next) 0 1 1)] 0 false);rw [dH] at qh;have pC:=fl.mod (m4.trans (m5.trans (m6.trans m7))) (bT (by have:=M2.next;omega));have Uf:=pC.set (m:=ar.next) (by have:=fl.lt;omega) (.bc [.int .i64 16,.int .i64 0,.int .i64 aQ.pos,.str aQ.text,(.slice (an bA.next) 0 1 1)] 0 false);rw [dH] at Uf;have m8:Mod (fun b=>b=an ar.next) cd et:=by rw [<-dH];exact (Mod.refl (fun b=>b=an ar.next) _).set (fun _=>rfl) _
     have o:=oR.one;simp only [o.1,o.2.1,o.2.2,aY,vcs,bR,fc.1,fc.2.1,fc.2.2,dy,k0.g,dH,pD.g,qh.g,↓aa,ad,simprocAttr];exact ⟨_,_,_,_,U.symm,rfl,(oR.box (by have:=(ao6 m2.next (ao6 m3.next (ao6 m4.next m5.next)));have:=bz.lt;omega) _).cO (by have:=cR.next;omega),g'.set (fun o=>absurd o (dh (ao1 _))) _,C.box gj (ao1 _) _⟩
   | false=>
     simp only [dC,apd,ao2,apa,bB] at U;have hk:=eF.mod m5 (bT (by have:=cu.next;omega));have hY:=bz.mod (m2.trans (m3.trans (m4.trans m5))) (bT bX);simp only [aY,vcs,bR,im,di,dC,hk.g,hY.g,↓aa,ad,simprocAttr];exact ⟨_,_,_,_,U.symm,rfl,iV _ _ _ _ _ (le_top (C.fj aQ e8)),cR.set (fun o=>absurd o (dh (ao1 _))) _,C.box bV (ao1 _) _⟩
 | false=>
   simp only [b_,apd,ao2,apa,bB] at U;simp only [↓aa,ad,simprocAttr];have g2:(aU ab n).gP d ws≠.error b7:=fun q=>by rw [q] at U;exact a8 U.symm
   refine cH (I.gP d ws ae aA i cy g2) ?_ ?_
   rotate_left
   . rintro x ag ⟨e,he,rfl,m,bo⟩;simp only [cF,aY,↓aa,ad,simprocAttr];exact ⟨e,by rw [he] at U;exact U.symm,rfl,(cw.trans m),bo⟩
   rintro x ag ⟨a,bt,b5,i2,bf,rfl,aO,m2,bx⟩;rw [bf] at U
   try simp only [bB] at U
   have M2:=cw.trans m2;have kk:=bz.mod m2 (bT bX);have o:=aO.one;simp only [o.1,o.2.1,o.2.2,aY,vcs,bR,kk.g,↓aa,ad,simprocAttr];exact ⟨_,_,_,_,U.symm,rfl,(aO.box (by have:=bX;have:=bz.lt;omega) _).cO (by have:=cw.next;omega),M2.set (fun o=>absurd o (dh (ao1 _))) _,C.box bx (ao1 _) _⟩
theorem Tq (I:iI W ab ak n) (d:Nat) (ws:List aq):gD W ab ak 207 [.int .i64 3] d ws ((aU ab n).pre d ws):=by
 intro h aA i C a8;generalize U:(aU ab n).pre d ws=res at a8 ⊢;refine Hd.x rfl (cl ?_);unfold DL;have bX:=C.at_.lt;obtain ⟨ae,ao,aP,bz⟩:=fU h b8;have m1:Mod (b3 ak) h ae:=aP.mod _;have cw:=m1;have cy:=C.ext aP;simp only [ao,↓aa,ad,simprocAttr];have g2:(aU ab n).pre d ws≠.error b7:=fun q=>by rw [q] at U;exact a8 U.symm
 refine cH (I.pre d ws ae aA i cy g2) ?_ ?_
 rotate_left
 . rintro x ag ⟨e,he,rfl,m,bo⟩;simp only [cF,aY,↓aa,ad,simprocAttr];exact ⟨e,by rw [he] at U;exact U.symm,rfl,(cw.trans m),bo⟩
 rintro x ag ⟨a,bt,b5,i2,bf,rfl,aO,m2,bx⟩;rw [bf] at U
 try simp only [bB] at U
 have M2:=cw.trans m2;have kk:=bz.mod m2 (bT bX);have o:=aO.one;simp only [o.1,o.2.1,o.2.2,aY,vcs,bR,kk.g,↓aa,ad,simprocAttr];exact ⟨_,_,_,_,U.symm,rfl,(aO.box (by have:=bX;have:=bz.lt;omega) _).cO (by have:=cw.next;omega),M2.set (fun o=>absurd o (dh (ao1 _))) _,C.box bx (ao1 _) _⟩
theorem alR (J:∀m,m<=n->iI W ab ak m) (d:Nat) (ws:List aq):gD W ab ak 207 [.int .i64 1] d ws ((aU ab (n+1)).hF d ws):=by
 have I:=J n (ao1 n);intro h aA i C a8;generalize U:(aU ab (n+1)).hF d ws=res at a8 ⊢;replace U:C7 (aU ab n) d ws=res:=U;unfold C7 at U;refine Hd.x rfl (cl ?_);unfold DL;have bX:=C.at_.lt;obtain ⟨ae,ao,aP,bz⟩:=fU h b8;have m1:Mod (b3 ak) h ae:=aP.mod _;have cw:=m1;have cy:=C.ext aP;simp only [ao,↓aa,ad,simprocAttr];have g2:(aU ab n).hG d ws≠.error b7:=fun q=>by rw [q] at U;exact a8 U.symm
 refine cH (I.hG d ws ae aA i cy g2) ?_ ?_
 rotate_left
 . rintro x ag ⟨e,he,rfl,m,bo⟩;simp only [cF,aY,↓aa,ad,simprocAttr];exact ⟨e,by rw [he] at U;exact U.symm,rfl,(cw.trans m),bo⟩
 rintro x ag ⟨a,bt,b5,i2,bf,rfl,aO,m2,bx⟩;rw [bf] at U
 try simp only [bB] at U
 have M2:=cw.trans m2;have dx:=aO.one;obtain ⟨ar,aC,cT,fl⟩:=fq ag b8 (vcs a b5);have m3:Mod (b3 ak) ag ar:=cT.mod _;have cu:=M2.trans m3;have cq:=bx.ext cT;have mm:=bz.mod (m2.trans m3) (bT bX);have tb:=aO.BD cT;have ou:ae.next<=ag.next:=m2.next
 simp only [dx.1,dx.2.1,dx.2.2,aC,fl.g,mm.g,↓aa,ad,simprocAttr];refine gf (fun r g=>r 0=.ptr (an ak) 0/\r 1=.int .i64 1/\r 4=.ptr (an h.next) 0/\r 5=.ptr (an ag.next) 0/\Has g h.next b8/\Mod (b3 ak) h g/\∃m a b5 dm jd,m<=n/\Has g ag.next (vcs a b5)/\dq (lv ae.next ag.next) g a b5/\ed W ab ak g d dm aA jd/\(aU ab m).lL d a dm=res) (fun _ g=>qS W ak g) ?_ ?_
 . exact ⟨by simp only [↓aa,cQ,simprocAttr],by simp only [↓aa,cQ,simprocAttr],by simp only [↓aa,cQ,simprocAttr],by simp only [↓aa,cQ,simprocAttr],mm,cu,n,_,_,_,_,ao1 _,fl,tb,cq,U⟩
 rintro r aT ⟨aW,cL,cU,b4,R,cX,m,a,b5,dm,jd,hm,A,P,cf,U⟩;cases m with
 | zero=>exact (a8 U.symm).elim
 | succ m=>
   replace U:ur (aU ab m) d a dm=res:=U;unfold ur at U;have I:=J m (by omega);have jf:=A.lt;simp only [aW,cL,cU,b4,↓aa,ad,simprocAttr];refine aX (Kc cf (k:=1) (by omega)) ?_;rintro x bC ⟨rfl,m5,i5,bV⟩;rw [abn] at bV ⊢;have cR:=cX.trans m5;cases bJ:nR dm with
   | none=>
     simp only [bJ,Option.isSome,Option.getD,apd,ao2,apa,bB] at U bV;have AU:=P.xL m5 (by have:=cw.next;omega);have hY:=R.mod m5 (bT bX);have gz:=A.mod m5 (bT (by have:=M2.next;omega));have o:=AU.one;simp only [o.1,o.2.1,o.2.2,aY,vcs,bR,aW,cL,cU,b4,Option.isSome,Option.getD,hY.g,gz.g,↓aa,ad,simprocAttr];exact ⟨_,_,_,_,U.symm,rfl,AU.Df (by have:=bz.lt;have:=bX;omega) (by have:=cw.next;omega) _,cR.set (fun o=>absurd o (dh (ao1 _))) _,C.box bV (ao1 _) _⟩
   | some uC=>
     simp only [bJ,Option.isSome,Option.getD,apd,ao2,apa,bB] at U bV;have gz:=A.mod m5 (bT (by have:=M2.next;omega));simp only [Option.isSome,Option.getD,gz.g,aW,cL,cU,b4,↓aa,ad,simprocAttr];have g6:(aU ab m).hG d dm.tail≠.error b7:=fun q=>by rw [q] at U;exact a8 U.symm
     refine cH (I.hG d dm.tail bC aA i5 bV g6) ?_ ?_
     rotate_left
     . rintro x bA ⟨e,he,rfl,m,bo⟩;simp only [cF,aY,gz.g,aW,cL,cU,b4,kY,↓aa,ad,simprocAttr];exact ⟨rfl,e,by rw [he] at U;exact U.symm,rfl,(cR.trans m),bo⟩
     rintro x bA ⟨b,jz,eM,i6,ea,rfl,fO,m6,cv⟩;rw [ea] at U
     try simp only [bB] at U
     have de:=cR.trans m6;have kl:=gz.mod m6 (bT (by have:=M2.next;omega));simp only [aW,cL,cU,b4,gz.g,kl.g,↓aa,ad,simprocAttr];have yE:=P.xL (m5.trans m6) (by have:=cw.next;omega);refine aX (Ka uC (R4 bJ) yE (fO.HZ (ia:=ae.next) (n:=ag.next) (by have:=cX.next;have:=m5.next;have:=jf;have:=ou;omega) (by have:=m5.next;have:=jf;have:=ou;omega))) ?_;rintro x cd ⟨ev,rfl,k3,dI⟩;have ef:=H0 k3 (by have:=cX.next;have:=(ao6 m5.next m6.next);have:=jf;have:=ou;omega) (by have:=(ao6 m5.next m6.next);have:=jf;have:=ou;omega);have m7:Mod (b3 ak) bA cd:=dI.mod _;have ew:=de.trans m7;have eR:=cv.ext dI;have o:=ef.one;have pC:=kl.mod m7 (bT (by have:=M2.next;omega));have hH:=R.mod (m5.trans (m6.trans m7)) (bT bX);simp only [o.1,o.2.1,o.2.2,vcs,bR,aW,cL,cU,b4,pC.g,gz.g,kl.g,↓aa,ad,simprocAttr];have fo:=C.box eR (n:=ag.next) M2.next (.bc (vcs (p8 uC a b) ev) 0 false)
     exact ⟨⟨hH.set (by have:=bz.lt;have:=m2.next;omega) _,ew.set (fun o=>absurd o (dh M2.next)) _,m,(p8 uC a b),ev,_,_,by omega,pC.put _,ef.set (fun q=>q.2 rfl) _,fo,U⟩,by rw [lH cf,lH fo];have:=R5 bJ;have:=vg ((shorter ab m).hG d dm.tail (.inl trivial)) ea;omega⟩
theorem alT (J:∀m,m<=n->iI W ab ak m) (d:Nat) (ws:List aq):gD W ab ak 207 [.int .i64 2] d ws ((aU ab (n+1)).hG d ws):=by
 have I:=J n (ao1 n);intro h aA i C a8;generalize U:(aU ab (n+1)).hG d ws=res at a8 ⊢;replace U:C8 (aU ab n) d ws=res:=U;unfold C8 at U;refine Hd.x rfl (cl ?_);unfold DL;have bX:=C.at_.lt;obtain ⟨ae,ao,aP,bz⟩:=fU h b8;have m1:Mod (b3 ak) h ae:=aP.mod _;have cw:=m1;have cy:=C.ext aP;simp only [ao,↓aa,ad,simprocAttr];have g2:(aU ab n).pre d ws≠.error b7:=fun q=>by rw [q] at U;exact a8 U.symm
 refine cH ((Tq I) d ws ae aA i cy g2) ?_ ?_
 rotate_left
 . rintro x ag ⟨e,he,rfl,m,bo⟩;simp only [cF,aY,↓aa,ad,simprocAttr];exact ⟨e,by rw [he] at U;exact U.symm,rfl,(cw.trans m),bo⟩
 rintro x ag ⟨a,bt,b5,i2,bf,rfl,aO,m2,bx⟩;rw [bf] at U
 try simp only [bB] at U
 have M2:=cw.trans m2;have dx:=aO.one;obtain ⟨ar,aC,cT,fl⟩:=fq ag b8 (vcs a b5);have m3:Mod (b3 ak) ag ar:=cT.mod _;have cu:=M2.trans m3;have cq:=bx.ext cT;have mm:=bz.mod (m2.trans m3) (bT bX);have tb:=aO.BD cT;have ou:ae.next<=ag.next:=m2.next
 simp only [dx.1,dx.2.1,dx.2.2,aC,fl.g,mm.g,↓aa,ad,simprocAttr];refine gf (fun r g=>r 0=.ptr (an ak) 0/\r 1=.int .i64 2/\r 4=.ptr (an h.next) 0/\r 5=.ptr (an ag.next) 0/\Has g h.next b8/\Mod (b3 ak) h g/\∃m a b5 dm jd,m<=n/\Has g ag.next (vcs a b5)/\dq (lv ae.next ag.next) g a b5/\ed W ab ak g d dm aA jd/\(aU ab m).lM d a dm=res) (fun _ g=>qS W ak g) ?_ ?_
 . exact ⟨by simp only [↓aa,cQ,simprocAttr],by simp only [↓aa,cQ,simprocAttr],by simp only [↓aa,cQ,simprocAttr],by simp only [↓aa,cQ,simprocAttr],mm,cu,n,_,_,_,_,ao1 _,fl,tb,cq,U⟩
 rintro r aT ⟨aW,cL,cU,b4,R,cX,m,a,b5,dm,jd,hm,A,P,cf,U⟩;cases m with
 | zero=>exact (a8 U.symm).elim
 | succ m=>
   replace U:uu (aU ab m) d a dm=res:=U;unfold uu at U;have I:=J m (by omega);have jf:=A.lt;simp only [aW,cL,cU,b4,↓aa,ad,simprocAttr];refine aX (Kc cf (k:=2) (by omega)) ?_;rintro x bC ⟨rfl,m5,i5,bV⟩;rw [abo] at bV ⊢;have cR:=cX.trans m5;cases bJ:nS dm with
   | none=>
     simp only [bJ,Option.isSome,Option.getD,apd,ao2,apa,bB] at U bV;have AU:=P.xL m5 (by have:=cw.next;omega);have hY:=R.mod m5 (bT bX);have gz:=A.mod m5 (bT (by have:=M2.next;omega));have o:=AU.one;simp only [o.1,o.2.1,o.2.2,aY,vcs,bR,aW,cL,cU,b4,Option.isSome,Option.getD,hY.g,gz.g,↓aa,ad,simprocAttr];exact ⟨_,_,_,_,U.symm,rfl,AU.Df (by have:=bz.lt;have:=bX;omega) (by have:=cw.next;omega) _,cR.set (fun o=>absurd o (dh (ao1 _))) _,C.box bV (ao1 _) _⟩
   | some uC=>
     simp only [bJ,Option.isSome,Option.getD,apd,ao2,apa,bB] at U bV;have gz:=A.mod m5 (bT (by have:=M2.next;omega));simp only [Option.isSome,Option.getD,gz.g,aW,cL,cU,b4,↓aa,ad,simprocAttr];have g6:(aU ab m).pre d dm.tail≠.error b7:=fun q=>by rw [q] at U;exact a8 U.symm
     refine cH ((Tq I) d dm.tail bC aA i5 bV g6) ?_ ?_
     rotate_left
     . rintro x bA ⟨e,he,rfl,m,bo⟩;simp only [cF,aY,gz.g,aW,cL,cU,b4,kY,↓aa,ad,simprocAttr];exact ⟨rfl,e,by rw [he] at U;exact U.symm,rfl,(cR.trans m),bo⟩
     rintro x bA ⟨b,jz,eM,i6,ea,rfl,fO,m6,cv⟩;rw [ea] at U
     try simp only [bB] at U
     have de:=cR.trans m6;have kl:=gz.mod m6 (bT (by have:=M2.next;omega));simp only [aW,cL,cU,b4,gz.g,kl.g,↓aa,ad,simprocAttr];have yE:=P.xL (m5.trans m6) (by have:=cw.next;omega);refine aX (Ka uC (R6 bJ) yE (fO.HZ (ia:=ae.next) (n:=ag.next) (by have:=cX.next;have:=m5.next;have:=jf;have:=ou;omega) (by have:=m5.next;have:=jf;have:=ou;omega))) ?_;rintro x cd ⟨ev,rfl,k3,dI⟩;have ef:=H0 k3 (by have:=cX.next;have:=(ao6 m5.next m6.next);have:=jf;have:=ou;omega) (by have:=(ao6 m5.next m6.next);have:=jf;have:=ou;omega);have m7:Mod (b3 ak) bA cd:=dI.mod _;have ew:=de.trans m7;have eR:=cv.ext dI;have o:=ef.one;have pC:=kl.mod m7 (bT (by have:=M2.next;omega));have hH:=R.mod (m5.trans (m6.trans m7)) (bT bX);simp only [o.1,o.2.1,o.2.2,vcs,bR,aW,cL,cU,b4,pC.g,gz.g,kl.g,↓aa,ad,simprocAttr];have fo:=C.box eR (n:=ag.next) M2.next (.bc (vcs (p8 uC a b) ev) 0 false)
     exact ⟨⟨hH.set (by have:=bz.lt;have:=m2.next;omega) _,ew.set (fun o=>absurd o (dh M2.next)) _,m,(p8 uC a b),ev,_,_,by omega,pC.put _,ef.set (fun q=>q.2 rfl) _,fo,U⟩,by rw [lH cf,lH fo];have:=R7 bJ;have:=vg ((shorter ab m).pre d dm.tail (.inl trivial)) ea;omega⟩
end
section
variable {W:List aq} {ab ak n:Nat}
theorem ahy (I:iI W ab ak n) (d:Nat) (ws:List aq):gD W ab ak 184 [] d ws ((aU ab (n+1)).named d ws):=by
 intro h aA i C a8;generalize U:(aU ab (n+1)).named d ws=res at a8 ⊢;replace U:CI (aU ab n) d ws=res:=U;unfold CI at U;refine XC.x rfl (cl ?_);unfold Nq;have bX:=C.at_.lt;obtain ⟨ae,ao,aP,bz⟩:=fU h b8;have m1:Mod (b3 ak) h ae:=aP.mod _;have cw:=m1;have cy:=C.ext aP;simp only [ao,↓aa,ad,simprocAttr];have g2:(aU ab n).jk d ws≠.error b7:=fun q=>by rw [q] at U;exact a8 U.symm
 refine cH (I.jk d ws ae aA i cy g2) ?_ ?_
 rotate_left
 . rintro x ag ⟨e,he,rfl,m,bo⟩;simp only [cF,aY,↓aa,ad,simprocAttr];exact ⟨e,by rw [he] at U;exact U.symm,rfl,(cw.trans m),bo⟩
 rintro x ag ⟨a,bt,b5,i2,bf,rfl,aO,m2,bx⟩;rw [bf] at U
 try simp only [bB] at U
 have M2:=cw.trans m2;have dx:=aO.one;obtain ⟨ar,aC,cT,fl⟩:=fq ag b8 (vcs a b5);have m3:Mod (b3 ak) ag ar:=cT.mod _;have cu:=M2.trans m3;have cq:=bx.ext cT;have mm:=bz.mod (m2.trans m3) (bT bX);have tb:=aO.BD cT;have ou:ae.next<=ag.next:=(m2.next)
 simp only [dx.1,dx.2.1,dx.2.2,aC,fl.g,mm.g,↓aa,ad,simprocAttr];refine gf (fun r g=>r 0=.ptr (an ak) 0/\r 2=.ptr (an h.next) 0/\r 3=.ptr (an ag.next) 0/\Has g h.next b8/\Mod (b3 ak) h g/\∃a b5 dm jd,Has g ag.next (vcs a b5)/\dq (lv ae.next ag.next) g a b5/\ed W ab ak g d dm aA jd/\(.ok (jT a dm):bH (aN × List aq))=res) (fun _ g=>qS W ak g) ?_ ?_
 . exact ⟨by simp only [↓aa,cQ,simprocAttr],by simp only [↓aa,cQ,simprocAttr],by simp only [↓aa,cQ,simprocAttr],mm,cu,_,_,_,_,fl,tb,cq,U⟩
 rintro r aT ⟨aW,bf,bU,R,cX,a,b5,dm,jd,A,P,cf,U⟩;have jf:=A.lt;simp only [aW,bf,bU,↓aa,ad,simprocAttr];refine bQ (kb cf 3) ?_;cases dm with
 | nil=>
   have aD:cJ 3 []=false:=rfl;have aF:jT a []=(a,[]):=rfl;rw [aF] at U;have o:=P.one;simp only [o.1,o.2.1,o.2.2,aY,vcs,bR,aW,bf,bU,aD,R.g,A.g,↓aa,ad,simprocAttr];exact ⟨_,_,_,_,U.symm,rfl,P.Df (by have:=bz.lt;have:=bX;omega) (by have:=cw.next;omega) _,cX.set (fun o=>absurd o (dh (ao1 _))) _,C.box cf (ao1 _) _⟩
 | cons w dm=>
   by_cases pa:w.kind=3
   . have aD:cJ 3 (w::dm)=true:=by simp [cJ,pa]
     have aF:jT a (w::dm)=jT (.mk 2 0 a.a w.text [a]) dm:=by simp [jT,pa]
     rw [aF] at U;have gX:=P.one;obtain ⟨bC,ca,e7,sa⟩:=sR (F:=lv ae.next ag.next) (h:=aT) (size:=5) rfl P.cs ⟨by rw [dk];have:=jf;omega,fun z=>by rw [lN] at z;have:=jf;omega⟩;have m5:Mod (b3 ak) aT bC:=e7.mod _;have cR:=cX.trans m5;have bV:=cf.ext e7;have gz:=A.mod m5 (bT (by have:=M2.next;omega));simp only [aD,A.g,gX.1,gX.2.1,gX.2.2,ca,vcs,bR,gz.g,aW,bf,bU,↓aa,ad,simprocAttr];refine cH (mQ bV 3) ?_ ?_
     rotate_left
     . rintro x af ⟨e,he,_⟩;rw [show fg ab 3 (w::dm)=.ok (w,dm) from by simp [fg,pa]] at he;cases he
     rintro x bA ⟨⟨w',bS⟩,bq,rfl,⟨hw,an7⟩,m6,i6,cv⟩;rw [show fg ab 3 (w::dm)=.ok (w,dm) from by simp [fg,pa]] at bq;cases bq;have de:=cR.trans m6;have ef:=(oy (l:=[a]) 2 0 a.a w.text sa rfl (le_top (C.fj w hw))).xL m6 (by have:=cw.next;omega);have kl:=gz.mod m6 (bT (by have:=M2.next;omega));have jl:=R.mod (m5.trans m6) (bT bX);simp only [aq.enc,vcs,bR,gz.g,kl.g,aW,bf,bU,↓aa,ad,simprocAttr];have fo:=C.box cv (n:=ag.next) M2.next (.bc (vcs (.mk 2 0 a.a w.text [a]) (.slice (an aT.next) 0 1 1)) 0 false)
     exact ⟨⟨jl.set (by have:=bz.lt;have:=m2.next;omega) _,de.set (fun o=>absurd o (dh M2.next)) _,(.mk 2 0 a.a w.text [a]),(.slice (an aT.next) 0 1 1),dm,_,kl.put _,ef.set (fun q=>q.2 rfl) _,fo,U⟩,by rw [lH cf];exact Nat.lt_of_le_of_lt (Nat.le_of_eq (lH fo)) (by simp)⟩
   . skip
     have aD:cJ 3 (w::dm)=false:=by simp [cJ,pa]
     have aF:jT a (w::dm)=(a,(w::dm)):=by simp [jT,pa]
     rw [aF] at U;have o:=P.one;simp only [o.1,o.2.1,o.2.2,aY,vcs,bR,aW,bf,bU,aD,R.g,A.g,↓aa,ad,simprocAttr];exact ⟨_,_,_,_,U.symm,rfl,P.Df (by have:=bz.lt;have:=bX;omega) (by have:=cw.next;omega) _,cX.set (fun o=>absurd o (dh (ao1 _))) _,C.box cf (ao1 _) _⟩
theorem Y' (J:∀m,m<=n->iI W ab ak m) (d:Nat) (ws:List aq):AX W ab ak 186 [] d ws ((aU ab (n+1)).cases d [] (if bb jZ ws then ws.tail else ws)):=by
 intro h aA i C a8;generalize U:(aU ab (n+1)).cases d [] (if bb jZ ws then ws.tail else ws)=res at a8 ⊢;refine XE.x rfl (cl ?_);unfold Ns;have bX:=C.at_.lt;simp only [↓aa,ad,simprocAttr];refine aX (hs C jZ) ?_;rintro x ae ⟨rfl,m1,i1,cy⟩;have cw:=m1;simp only [↓aa,ad,simprocAttr];refine gf (fun r g=>r 0=.ptr (an ak) 0/\Mod (b3 ak) h g/\∃m l dm jd,m<=n+1/\dz h.next (Fr h.next) g 5 (List.map aN.enc l) (r 3)/\l.length+dm.length<=1000000/\ed W ab ak g d dm aA jd/\(aU ab m).cases d l dm=res) (fun _ g=>qS W ak g) ?_ ?_
 . exact ⟨by simp only [↓aa,cQ,simprocAttr],cw,n+1,[],_,_,ao1 _,by simp only [↓aa,cQ,simprocAttr];exact dz.nil _ _ _ _,by have:=cy.qf;simpa using this,cy,U⟩
 rintro r ag ⟨gx,M2,m,l,dm,jd,hm,O,aH,bx,U⟩;obtain ⟨da,fI⟩:∃da,r 3=da:=⟨_,rfl⟩;rw [fI] at O;cases m with
 | zero=>exact (a8 U.symm).elim
 | succ m=>
   replace U:yQ ab (aU ab m) d l dm=res:=U;unfold yQ at U;have I:=J m (by omega);have ct:=O.one;simp only [gx,fI,ct.1,ct.2.1,ct.2.2,↓aa,ad,simprocAttr];have g3:(aU ab m).pat d dm≠.error b7:=fun q=>by rw [q] at U;exact a8 U.symm
   refine cH (I.pat d dm ag aA jd bx g3) ?_ ?_
   rotate_left
   . rintro x ar ⟨e,he,rfl,m,bo⟩;simp only [cF,aY,gx,fI,kY,↓aa,ad,simprocAttr];exact ⟨e,by rw [he] at U;exact U.symm,rfl,(M2.trans m),bo⟩
   rintro x ar ⟨a,db,b5,i3,bU,rfl,aO,m3,cq⟩;rw [bU] at U
   try simp only [bB] at U
   have cu:=M2.trans m3;have c2:=aO.one;obtain ⟨aT,bs,cN,eF⟩:=fq ar b8 (vcs a b5);have m4:Mod (b3 ak) ar aT:=cN.mod _;have cX:=cu.trans m4;have cf:=cq.ext cN;simp only [c2.1,c2.2.1,c2.2.2,bs,gx,fI,ct.1,ct.2.1,ct.2.2,↓aa,ad,simprocAttr];refine cH (kR cf jY) ?_ ?_
   rotate_left
   . rintro x bC ⟨e,he,rfl,m,bo⟩;simp only [cF,aY,gx,fI,kY,↓aa,ad,simprocAttr];exact ⟨e,by rw [he] at U;exact U.symm,rfl,(cX.trans m),bo⟩
   rintro x bC ⟨fs,b4,m5,i5,bV⟩;rw [b4] at U
   try simp only [bB] at U
   have cR:=cX.trans m5;have hk:=eF.mod m5 (bT (by have:=cu.next;omega));simp only [hk.g,gx,fI,ct.1,ct.2.1,ct.2.2,↓aa,ad,simprocAttr];have g6:(aU ab m).seq d fs≠.error b7:=fun q=>by rw [q] at U;exact a8 U.symm
   refine cH (I.seq d fs bC aA i5 bV g6) ?_ ?_
   rotate_left
   . rintro x bA ⟨e,he,rfl,m,bo⟩;simp only [cF,aY,hk.g,gx,fI,kY,↓aa,ad,simprocAttr];exact ⟨rfl,e,by rw [he] at U;exact U.symm,rfl,(cR.trans m),bo⟩
   rintro x bA ⟨b,jz,eM,i6,ea,rfl,fO,m6,cv⟩;rw [ea] at U
   try simp only [bB] at U
   have de:=cR.trans m6;have jM:=hk.mod m6 (bT (by have:=cu.next;omega));have uJ:=vg ((shorter ab m).pat d dm (.inl trivial)) bU;have vZ:=zS b4;have Lm:=vg ((shorter ab m).seq d fs (.inl trivial)) ea;simp only [jM.g,gx,fI,ct.1,ct.2.1,ct.2.2,hk.g,↓aa,ad,simprocAttr];have u2:=aO.mod (m4.trans (m5.trans m6)) (by have:=M2.next;omega);refine aX (uI 45 u2 (fO.cO (by have:=(ao6 m3.next (ao6 m4.next m5.next));omega))) ?_;rintro x cd ⟨ev,rfl,k3,dI⟩;have ef:=k3.eW (eZ:=Fr ag.next) fun b q=>q.elim (fun q=>q.1) (fun q=>by have:=(ao6 m3.next (ao6 m4.next (ao6 m5.next m6.next)));unfold Fr;omega);have m7:Mod (b3 ak) bA cd:=dI.mod _;have ew:=de.trans m7;have eR:=cv.ext dI;have pI:=hv O (m3.trans (m4.trans (m5.trans (m6.trans m7)))) bX bX;have jy:=ef.one;obtain ⟨ut,et,dH,nB,m8,uh,A8⟩:=pt pI (ef.cO (ao1 _)) (lk O (ao1 _)) (M2.next) ((ao6 m3.next (ao6 m4.next (ao6 m5.next (ao6 m6.next m7.next))))) (by omega);have k0:=jM.mod m7 (bT (by have:=cu.next;omega));have HQ:(cd.next=ar.next)=False:=apl (by have:=k0.lt;omega);have gj:=C.l1 eR m8 (by have:=bX;omega);have g':=ot ew m8 (by have:=bX;omega);have Ug:=n_ k0 m8 (.inr (m3.next));have qn:=u2.mod m7 (by have:=M2.next;omega);have wx:=qn.l1 m8 (ao1 _);have Ve:=fO.mod m7 (by have:=cR.next;omega);have Vf:=Ve.l1 m8 ((ao6 m3.next (ao6 m4.next m5.next)));have oR:=ef.l1 m8 (ao1 _);have il:=nB.one;have s9:(l++[(two 45 a b)]).length=l.length+1:=by simp<;>omega
   simp only [jy.1,jy.2.1,jy.2.2,dH,HQ,gx,fI,ct.1,ct.2.1,ct.2.2,hk.g,jM.g,il.1,il.2.1,il.2.2,↓aa,ad,simprocAttr];refine aX (hs gj jZ) ?_;rintro x fD ⟨rfl,m9,i9,fS⟩;have ib:=g'.trans m9;cases b_:bb jZ jz with
   | true=>
     simp only [b_,apd,ao2,apa,bB] at U fS;have wv:=hv nB m9 bX bX;simp only [gx,fI,ct.1,ct.2.1,ct.2.2,hk.g,jM.g,il.1,il.2.1,il.2.2,↓aa,ad,simprocAttr];exact ⟨⟨ib,m,_,_,_,by omega,wv,by have:=fx b_;rw [s9];omega,fS,U⟩,by rw [lH bx,lH fS];have:=fx b_;omega⟩
   | false=>
     simp only [b_,apd,ao2,apa,bB] at U fS;have wv:=hv nB m9 bX bX;simp only [aY,gx,fI,ct.1,ct.2.1,ct.2.2,hk.g,jM.g,il.1,il.2.1,il.2.2,↓aa,ad,simprocAttr];exact ⟨_,_,_,U.symm,wv,by rw [s9];omega,ib,fS⟩
theorem WB (J:∀m,m<=n->iI W ab ak m) (d:Nat) (ws:List aq):AX W ab ak 54 [] d ws ((aU ab (n+1)).binds d [] ws):=by
 intro h aA i C a8;generalize U:(aU ab (n+1)).binds d [] ws=res at a8 ⊢;refine Yo.x rfl (cl ?_);unfold N4;have bX:=C.at_.lt;simp only [↓aa,ad,simprocAttr];refine gf (fun r g=>r 0=.ptr (an ak) 0/\Mod (b3 ak) h g/\∃m l dm jd,m<=n+1/\dz h.next (Fr h.next) g 5 (List.map aN.enc l) (r 3)/\l.length+dm.length<=1000000/\ed W ab ak g d dm aA jd/\(aU ab m).binds d l dm=res) (fun _ g=>qS W ak g) ?_ ?_
 . exact ⟨by simp only [↓aa,cQ,simprocAttr],(Mod.refl (b3 ak) h),n+1,[],_,_,ao1 _,by simp only [↓aa,cQ,simprocAttr];exact dz.nil _ _ _ _,by have:=C.qf;simpa using this,C,U⟩
 rintro r ae ⟨gx,cw,m,l,dm,jd,hm,O,aH,cy,U⟩;obtain ⟨da,fI⟩:∃da,r 3=da:=⟨_,rfl⟩;rw [fI] at O;cases m with
 | zero=>exact (a8 U.symm).elim
 | succ m=>
   replace U:yL ab (aU ab m) d l dm=res:=U;unfold yL at U;have I:=J m (by omega);have ct:=O.one;simp only [gx,fI,ct.1,ct.2.1,ct.2.2,↓aa,ad,simprocAttr];refine cH (mQ cy 3) ?_ ?_
   rotate_left
   . rintro x ag ⟨e,he,rfl,m,bo⟩;simp only [cF,aY,gx,fI,kY,↓aa,ad,simprocAttr];exact ⟨e,by rw [he] at U;exact U.symm,rfl,(cw.trans m),bo⟩
   rintro x ag ⟨⟨aQ,bt⟩,bf,rfl,⟨e8,tN⟩,m2,i2,bx⟩;rw [bf] at U
   try simp only [bB] at U
   have M2:=cw.trans m2;obtain ⟨ar,aC,cT,fl⟩:=fq ag [.int .i64 0,.int .i64 0,.int .i64 0,.str []] [.int .i64 aQ.kind,.int .i64 aQ.num,.int .i64 aQ.pos,.str aQ.text];have m3:Mod (b3 ak) ag ar:=cT.mod _;have cu:=M2.trans m3;have cq:=bx.ext cT;simp only [aq.enc,aC,gx,fI,ct.1,ct.2.1,ct.2.2,↓aa,ad,simprocAttr];refine cH (kR cq gQ) ?_ ?_
   rotate_left
   . rintro x aT ⟨e,he,rfl,m,bo⟩;simp only [cF,aY,gx,fI,kY,↓aa,ad,simprocAttr];exact ⟨e,by rw [he] at U;exact U.symm,rfl,(cu.trans m),bo⟩
   rintro x aT ⟨dj,cU,m4,i4,cf⟩;rw [cU] at U
   try simp only [bB] at U
   have cX:=cu.trans m4;simp only [gx,fI,ct.1,ct.2.1,ct.2.2,↓aa,ad,simprocAttr];refine bQ (q2 cf) ?_;simp only [gx,fI,ct.1,ct.2.1,ct.2.2,↓aa,ad,simprocAttr];refine cH (kR cf mH) ?_ ?_
   rotate_left
   . rintro x bC ⟨e,he,rfl,m,bo⟩;simp only [cF,aY,gx,fI,kY,↓aa,ad,simprocAttr];exact ⟨e,by rw [he] at U;exact U.symm,rfl,(cX.trans m),bo⟩
   rintro x bC ⟨fs,b4,m5,i5,bV⟩;rw [b4] at U
   try simp only [bB] at U
   have cR:=cX.trans m5;have gz:=fl.mod (m4.trans m5) (bT (by have:=M2.next;omega));simp only [gz.g,gx,fI,ct.1,ct.2.1,ct.2.2,↓aa,ad,simprocAttr];have g6:(aU ab m).fn d (bG ab dj) fs≠.error b7:=fun q=>by rw [q] at U;exact a8 U.symm
   refine cH (I.fn d (bG ab dj) fs bC aA i5 bV g6) ?_ ?_
   rotate_left
   . rintro x bA ⟨e,he,rfl,m,bo⟩;simp only [cF,aY,gz.g,gx,fI,kY,↓aa,ad,simprocAttr];exact ⟨rfl,e,by rw [he] at U;exact U.symm,rfl,(cR.trans m),bo⟩
   rintro x bA ⟨a,jz,b5,i6,ea,rfl,aO,m6,cv⟩;rw [ea] at U
   try simp only [bB] at U
   have de:=cR.trans m6;have kl:=gz.mod m6 (bT (by have:=M2.next;omega));have uJ:bt.length<dm.length:=Tv bf;have vZ:dj.length<bt.length:=zS cU;have Lm:=zS b4;have TI:=vg ((shorter ab m).fn d (bG ab dj) fs (.inl trivial)) ea;have fc:=aO.one;obtain ⟨cd,dy,dI,rf⟩:=sR (F:=Fr bC.next) (h:=bA) (size:=5) rfl aO.cs (ry m6.next);have m7:Mod (b3 ak) bA cd:=dI.mod _;have ew:=de.trans m7;have eR:=cv.ext dI;have ef:=oy (l:=[a]) 46 0 aQ.pos aQ.text rf rfl (le_top (C.fj aQ e8));have pC:=kl.mod m7 (bT (by have:=M2.next;omega));have pI:=hv O (m2.trans (m3.trans (m4.trans (m5.trans (m6.trans m7))))) bX bX;have jy:=ef.one;obtain ⟨ut,et,dH,nB,m8,uh,A8⟩:=pt pI (ef.cO ((ao6 m2.next (ao6 m3.next (ao6 m4.next m5.next))))) (lk O (ao1 _)) (cw.next) ((ao6 m2.next (ao6 m3.next (ao6 m4.next (ao6 m5.next (ao6 m6.next m7.next)))))) (by omega);simp only [vcs,bR] at dH;have HQ:(cd.next=ag.next)=False:=apl (by have:=pC.lt;omega);have gj:=C.l1 eR m8 (by have:=bX;omega);have g':=ot ew m8 (by have:=bX;omega);have Ug:=n_ pC m8 (.inr (m2.next));have qn:=aO.mod m7 (by have:=cR.next;omega);have wx:=qn.l1 m8 ((ao6 m2.next (ao6 m3.next (ao6 m4.next m5.next))));have oR:=ef.l1 m8 ((ao6 m2.next (ao6 m3.next (ao6 m4.next m5.next))));have il:=nB.one;have s9:(l++[(aN.mk 46 0 aQ.pos aQ.text [a])]).length=l.length+1:=by simp<;>omega
   simp only [fc.1,fc.2.1,fc.2.2,dy,pC.g,jy.1,jy.2.1,jy.2.2,dH,HQ,vcs,bR,gx,fI,ct.1,ct.2.1,ct.2.2,gz.g,kl.g,il.1,il.2.1,il.2.2,↓aa,ad,simprocAttr];refine aX (hs gj zB) ?_;rintro x fD ⟨rfl,m9,i9,fS⟩;have ib:=g'.trans m9;cases b_:bb zB jz with
   | true=>
     simp only [b_,apd,ao2,apa,bB] at U fS;have wv:=hv nB m9 bX bX;simp only [gx,fI,ct.1,ct.2.1,ct.2.2,gz.g,kl.g,il.1,il.2.1,il.2.2,↓aa,ad,simprocAttr];exact ⟨⟨ib,m,_,_,_,by omega,wv,by have:=fx b_;rw [s9];omega,fS,U⟩,by rw [lH cy,lH fS];have:=fx b_;omega⟩
   | false=>
     simp only [b_,apd,ao2,apa,bB] at U fS;have wv:=hv nB m9 bX bX;simp only [aY,gx,fI,ct.1,ct.2.1,ct.2.2,gz.g,kl.g,il.1,il.2.1,il.2.2,↓aa,ad,simprocAttr];exact ⟨_,_,_,U.symm,wv,by rw [s9];omega,ib,fS⟩
end
section
variable {W:List aq} {ab ak n:Nat}
theorem amf (J:∀m,m<=n->iI W ab ak m) (d:Nat) (ws:List aq):gD W ab ak 206 [] d ws ((aU ab (n+1)).jk d ws):=by
 have I:=J n (ao1 n);intro h aA i C a8;generalize U:(aU ab (n+1)).jk d ws=res at a8 ⊢;replace U:qc ab (aU ab n) d ws=res:=U;unfold qc at U;dsimp only at U;refine XK.x rfl (cl ?_);unfold c206;have bX:=C.at_.lt;obtain ⟨ae,ao,aP,bz⟩:=fU h b8;have m1:Mod (b3 ak) h ae:=aP.mod _;have cw:=m1;have cy:=C.ext aP;simp only [ao,↓aa,ad,simprocAttr];refine bQ (q2 cy) ?_;simp only [↓aa,ad,simprocAttr];refine bQ (kb cy 5) ?_;cases b_:cJ 5 ws with
 | true=>
   simp only [b_,apd,ao2,apa,bB] at U;simp only [↓aa,ad,simprocAttr];refine cH (mQ cy 5) ?_ ?_
   rotate_left
   . rintro x ag ⟨e,he,rfl,m,bo⟩;simp only [cF,aY,↓aa,ad,simprocAttr];exact ⟨e,by rw [he] at U;exact U.symm,rfl,(cw.trans m),bo⟩
   rintro x ag ⟨⟨aQ,bt⟩,bf,rfl,⟨e8,tN⟩,m2,i2,bx⟩;rw [bf] at U
   try simp only [bB] at U
   have M2:=cw.trans m2;have kk:=bz.mod m2 (bT bX);simp only [aY,vcs,bR,aq.enc,kk.g,↓aa,ad,simprocAttr];exact ⟨_,_,_,_,U.symm,rfl,iV _ _ _ _ _ (le_top (C.fj aQ e8)),M2.set (fun o=>absurd o (dh (ao1 _))) _,C.box bx (ao1 _) _⟩
 | false=>
   simp only [b_,apd,ao2,apa,bB] at U;simp only [↓aa,ad,simprocAttr];refine bQ (kb cy 3) ?_;cases dC:cJ 3 ws with
   | true=>
     simp only [dC,apd,ao2,apa,bB] at U;simp only [↓aa,ad,simprocAttr];refine cH (mQ cy 3) ?_ ?_
     rotate_left
     . rintro x ag ⟨e,he,rfl,m,bo⟩;simp only [cF,aY,↓aa,ad,simprocAttr];exact ⟨e,by rw [he] at U;exact U.symm,rfl,(cw.trans m),bo⟩
     rintro x ag ⟨⟨aQ,bt⟩,bf,rfl,⟨e8,tN⟩,m2,i2,bx⟩;rw [bf] at U
     try simp only [bB] at U
     have M2:=cw.trans m2;have kk:=bz.mod m2 (bT bX);simp only [aY,vcs,bR,aq.enc,kk.g,↓aa,ad,simprocAttr];exact ⟨_,_,_,_,U.symm,rfl,iV _ _ _ _ _ (le_top (C.fj aQ e8)),M2.set (fun o=>absurd o (dh (ao1 _))) _,C.box bx (ao1 _) _⟩
   | false=>
     simp only [dC,apd,ao2,apa,bB] at U;simp only [↓aa,ad,simprocAttr];refine cH (kR cy e9) ?_ ?_
     rotate_left
     . rintro x ag ⟨e,he,rfl,m,bo⟩;simp only [cF,aY,↓aa,ad,simprocAttr];exact ⟨e,by rw [he] at U;exact U.symm,rfl,(cw.trans m),bo⟩
     rintro x ag ⟨bt,bf,m2,i2,bx⟩;rw [bf] at U
     try simp only [bB] at U
     have M2:=cw.trans m2;simp only [↓aa,ad,simprocAttr];have g3:(aU ab n).ty d bt≠.error b7:=fun q=>by rw [q] at U;exact a8 U.symm
     refine cH (I.ty d bt ag aA i2 bx g3) ?_ ?_
     rotate_left
     . rintro x ar ⟨e,he,rfl,m,bo⟩;simp only [cF,aY,↓aa,ad,simprocAttr];exact ⟨e,by rw [he] at U;exact U.symm,rfl,(M2.trans m),bo⟩
     rintro x ar ⟨a,db,b5,i3,bU,rfl,aO,m3,cq⟩;rw [bU] at U
     try simp only [bB] at U
     have cu:=M2.trans m3;have c2:=aO.one;obtain ⟨aT,bs,cN,lY⟩:=z8 aO (m3.next);have m4:Mod (b3 ak) ar aT:=cN.mod _;have cX:=cu.trans m4;have cf:=cq.ext cN;have kZ:=bz.mod (m2.trans (m3.trans m4)) (bT bX);generalize az:(aU ab n).iX d [a] db=rt at U;have xn:rt≠.error b7:=fun q=>by rw [q] at U;exact a8 U.symm
     simp only [c2.1,c2.2.1,c2.2.2,bs,kZ.g,↓aa,ad,simprocAttr];refine gf (fun r g=>r 0=.ptr (an ak) 0/\r 2=.ptr (an h.next) 0/\r 3=.int .i64 (bG ab ws)/\Has g h.next b8/\Mod (b3 ak) h g/\ag.next<=g.next/\∃m t dm jd,m<=n/\dz ag.next (Fr ag.next) g 5 (List.map aN.enc (a::t)) (r 4)/\(a::t).length<=64/\ed W ab ak g d dm aA jd/\(aU ab m).iX d (a::t) dm=rt) (fun _ g=>qS W ak g) ?_ ?_
     . exact ⟨by simp only [↓aa,cQ,simprocAttr],by simp only [↓aa,cQ,simprocAttr],by simp only [↓aa,cQ,simprocAttr],kZ,cX,((ao6 m3.next m4.next)),n,[],_,_,ao1 _,by simp only [↓aa,cQ,simprocAttr];exact lY,by simp,cf,az⟩
     have pV:=U;have B7:=a8;clear U a8;rintro r bC ⟨gx,mN,fI,R,cR,jf,m,t,dm,jd,hm,O,aH,bV,U⟩;obtain ⟨da,iq⟩:∃da,r 4=da:=⟨_,rfl⟩;rw [iq] at O;have a8:=xn;cases m with
     | zero=>exact (a8 U.symm).elim
     | succ m=>
       replace U:nv ab (aU ab m) d (a::t) dm=rt:=U;unfold nv at U;have I:=J m (by omega);have ct:=O.one;simp only [gx,mN,fI,iq,ct.1,ct.2.1,ct.2.2,↓aa,ad,simprocAttr];refine aX (hs bV hh) ?_;rintro x bA ⟨rfl,m6,i6,cv⟩;have de:=cR.trans m6;cases eP:bb hh dm with
       | true=>
         simp only [eP,apd,ao2,apa,bB] at U cv;have AT:=hv O m6 (by have:=M2.next;omega) (by have:=M2.next;omega);have hlen:l9 da=some (.int .i64 (a::t).length):=by have:=AT.len;rwa [apD] at this
         simp only [gx,mN,fI,iq,ct.1,ct.2.1,ct.2.2,↓aa,ad,simprocAttr];refine cH (Pt cv hlen) ?_ ?_
         rotate_left
         . rintro x cd ⟨e,he,rfl,m,bo⟩;simp only [cF,aY,gx,mN,fI,iq,kY,↓aa,ad,simprocAttr];exact ⟨e,by rw [he] at U;rw [<-pV,<-U];rfl,rfl,(de.trans m),bo⟩
         rintro x af ⟨fN,bM⟩;cases bM;rw [fN] at U;have vi:(a::t).length<64:=by unfold js at fN;split at fN;cases fN;omega
         try simp only [bB] at U
         simp only [gx,mN,fI,iq,ct.1,ct.2.1,ct.2.2,↓aa,ad,simprocAttr];have g7:(aU ab m).ty d dm.tail≠.error b7:=fun q=>by rw [q] at U;exact a8 U.symm
         refine cH (I.ty d dm.tail bA aA i6 cv g7) ?_ ?_
         rotate_left
         . rintro x cd ⟨e,he,rfl,m,bo⟩;simp only [cF,aY,gx,mN,fI,iq,kY,↓aa,ad,simprocAttr];exact ⟨e,by rw [he] at U;rw [<-pV,<-U];rfl,rfl,(de.trans m),bo⟩
         rintro x cd ⟨b,mS,eM,i7,e3,rfl,fO,m7,eR⟩;rw [e3] at U
         try simp only [bB] at U
         have ew:=de.trans m7;have pI:=hv AT m7 (by have:=M2.next;omega) (by have:=M2.next;omega);have jy:=fO.one;obtain ⟨ut,et,dH,nB,m8,uh,A8⟩:=pt pI (fO.cO (m6.next)) (lk O (ao1 _)) (jf) ((ao6 m6.next m7.next)) (by omega);have hH:=R.mod (m6.trans m7) (bT bX);have HR:(cd.next=h.next)=False:=apl (by have:=hH.lt;omega);have gj:=C.l1 eR m8 (by have:=M2.next;omega);have g':=ot ew m8 (by have:=M2.next;omega);have qh:=n_ hH m8 (.inl (by have:=bz.lt;have:=m2.next;omega));have Vf:=fO.l1 m8 (m6.next);have il:=nB.one;have s9:((a::t)++[b]).length=(a::t).length+1:=by simp<;>omega
         simp only [jy.1,jy.2.1,jy.2.2,dH,HR,gx,mN,fI,iq,ct.1,ct.2.1,ct.2.2,il.1,il.2.1,il.2.2,↓aa,ad,simprocAttr];exact ⟨⟨qh,g',((ao6 jf (ao6 m6.next (ao6 m7.next m8.next)))),m,t++[b],_,_,by omega,nB,by simp only [apb,ao9,aph] at vi ⊢;omega,gj,U⟩,by rw [lH bV,lH gj];have:=fx eP;have:=vg ((shorter ab m).ty d dm.tail (.inl trivial)) e3;omega⟩
       | false=>
         simp only [eP,apd,ao2,apa,bB] at U cv;rw [<-U] at pV;clear U a8;have U:=pV;have a8:=B7
         try simp only [bB] at U
         simp only [gx,mN,fI,iq,ct.1,ct.2.1,ct.2.2,↓aa,ad,simprocAttr];refine cH (kR cv ej) ?_ ?_
         rotate_left
         . rintro x cd ⟨e,he,rfl,m,bo⟩;simp only [cF,aY,gx,mN,fI,iq,kY,↓aa,ad,simprocAttr];exact ⟨e,by rw [he] at U;exact U.symm,rfl,(de.trans m),bo⟩
         rintro x cd ⟨mS,e3,m7,i7,eR⟩;rw [e3] at U
         try simp only [bB] at U
         have ew:=de.trans m7;have pI:=hv O (m6.trans m7) (by have:=M2.next;omega) (by have:=M2.next;omega);have hlen:l9 da=some (.int .i64 (List.map aN.enc (a::t)).length):=pI.len;cases t with
         | nil=>
           have f0:((List.map aN.enc [a]).length:Int)=1:=rfl;rw [ape (show [a].length=1 from rfl)] at U;obtain ⟨cp,off,aoI,dp,fz,L9⟩:=ai5 pI (by simp);have hH:=R.mod (m6.trans m7) (bT bX);have o:=L9.one;simp only [o.1,o.2.1,o.2.2,aY,vcs,bR,hlen,f0,dp,fz,hH.g,gx,mN,fI,iq,ct.1,ct.2.1,ct.2.2,↓aa,ad,simprocAttr];exact ⟨_,_,_,_,U.symm,rfl,(L9.box (by have:=m2.next;have:=bz.lt;omega) _).cO (by have:=M2.next;omega),ew.set (fun o=>absurd o (dh (ao1 _))) _,C.box eR (ao1 _) _⟩
         | cons b t=>
           have f0:((List.map aN.enc (a::b::t)).length:Int)≠1:=by simp only [apD,ao9];omega
           have f1:(((List.map aN.enc (a::b::t)).length:Int)=1)=False:=apl f0;rw [ao_ (by simp)] at U;simp only [hlen,f1,gx,mN,fI,iq,ct.1,ct.2.1,ct.2.2,↓aa,ad,simprocAttr];refine cH (mQ eR 3) ?_ ?_
           rotate_left
           . rintro x et ⟨e,he,rfl,m,bo⟩;simp only [cF,aY,gx,mN,fI,iq,kY,↓aa,ad,simprocAttr];exact ⟨e,by rw [he] at U;exact U.symm,rfl,(ew.trans m),bo⟩
           rintro x et ⟨⟨F9,v_⟩,hd,rfl,⟨ad8,an6⟩,m8,i8,gj⟩;rw [hd] at U
           try simp only [bB] at U
           have g':=ew.trans m8;have U6:=hv pI m8 (by have:=M2.next;omega) (by have:=M2.next;omega);have qo:=rX U6 (by omega) 2 0 (bG ab ws) (s:=F9.text) (le_top (C.fj F9 ad8));have Gg:=R.mod (m6.trans (m7.trans m8)) (bT bX);have o:=qo.one;simp only [o.1,o.2.1,o.2.2,aY,vcs,bR,aq.enc,Gg.g,gx,mN,fI,iq,ct.1,ct.2.1,ct.2.2,↓aa,ad,simprocAttr];exact ⟨_,_,_,_,U.symm,rfl,(qo.box (by have:=m2.next;have:=bz.lt;omega) _).cO (by have:=M2.next;omega),g'.set (fun o=>absurd o (dh (ao1 _))) _,C.box gj (ao1 _) _⟩
theorem Zs (I:iI W ab ak n) (d:Nat) (k:Int) (a0:Nat) (ws:List aq):gD W ab ak 150 [.int .i64 k,.int .i64 a0] d ws ((aU ab (n+1)).hq d k a0 ws):=by
 intro h aA i C a8;generalize U:(aU ab (n+1)).hq d k a0 ws=res at a8 ⊢;replace U:Bi ab (aU ab n) d k a0 ws=res:=U;unfold Bi at U;refine Xq.x rfl (cl ?_);unfold Nh;have bX:=C.at_.lt;obtain ⟨ae,ao,aP,bz⟩:=fU h b8;have m1:Mod (b3 ak) h ae:=aP.mod _;have cw:=m1;have cy:=C.ext aP;simp only [ao,↓aa,ad,simprocAttr];have g2:(aU ab n).seq d ws≠.error b7:=fun q=>by rw [q] at U;exact a8 U.symm
 refine cH (I.seq d ws ae aA i cy g2) ?_ ?_
 rotate_left
 . rintro x ag ⟨e,he,rfl,m,bo⟩;simp only [cF,aY,↓aa,ad,simprocAttr];exact ⟨e,by rw [he] at U;exact U.symm,rfl,(cw.trans m),bo⟩
 rintro x ag ⟨a,bt,b5,i2,bf,rfl,aO,m2,bx⟩;rw [bf] at U
 try simp only [bB] at U
 have M2:=cw.trans m2;have dx:=aO.one;obtain ⟨ar,aC,cT,lY⟩:=z8 aO (m2.next);have m3:Mod (b3 ak) ag ar:=cT.mod _;have cu:=M2.trans m3;have cq:=bx.ext cT;simp only [dx.1,dx.2.1,dx.2.2,aC,↓aa,ad,simprocAttr];refine cH (kR cq Cl) ?_ ?_
 rotate_left
 . rintro x aT ⟨e,he,rfl,m,bo⟩;simp only [cF,aY,↓aa,ad,simprocAttr];exact ⟨e,by rw [he] at U;exact U.symm,rfl,(cu.trans m),bo⟩
 rintro x aT ⟨dj,cU,m4,i4,cf⟩;rw [cU] at U
 try simp only [bB] at U
 have cX:=cu.trans m4;simp only [↓aa,ad,simprocAttr];have g5:(aU ab n).cases d [] (if bb jZ dj then dj.tail else dj)≠.error b7:=fun q=>by rw [q] at U;exact a8 U.symm
 refine cH (I.cases d dj aT aA i4 cf g5) ?_ ?_
 rotate_left
 . rintro x bC ⟨e,he,rfl,m,bo⟩;simp only [cF,aY,↓aa,ad,simprocAttr];exact ⟨e,by rw [he] at U;exact U.symm,rfl,(cX.trans m),bo⟩
 rintro aoF bC ⟨lc,fs,i5,b4,L8,T4,m5,bV⟩;rw [b4] at U
 try simp only [bB] at U
 have cR:=cX.trans m5;have J_:=L8.one;have GH:=hv lY (m4.trans m5) (by have:=cw.next;omega) (by have:=cw.next;omega);obtain ⟨amA,bA,cD,AS,m6⟩:=ai4 GH L8 (lk lY (m4.next)) ((ao6 m2.next (ao6 m3.next m4.next))) (m5.next) (by simp) (ao6 T4 (by decide));have cv:=C.l1 bV m6 (by have:=cw.next;omega);have de:=ot cR m6 (by have:=cw.next;omega);have hY:=bz.mod (m2.trans (m3.trans (m4.trans m5))) (bT bX);have yt:=n_ hY m6 (.inl (by have:=bz.lt;have:=ao1 0;omega));have x1:=AS.one;have LH:([a]++lc).length=1+lc.length:=by simp<;>omega
 have oS:=rX AS (by have:=(rfl:[a].length=1);have:=T4;have:=LH;omega) k 0 a0 (s:=[]) (api _);have o:=oS.one;simp only [o.1,o.2.1,o.2.2,aY,vcs,bR,cD,yt.g,J_.1,J_.2.1,J_.2.2,x1.1,x1.2.1,x1.2.2,↓aa,ad,simprocAttr];exact ⟨_,_,_,_,U.symm,rfl,(oS.box (by have:=bX;have:=bz.lt;omega) _).cO (by have:=cw.next;omega),de.set (fun o=>absurd o (dh (ao1 _))) _,C.box cv (ao1 _) _⟩
theorem ahb (I:iI W ab ak n) (d:Nat) (a0:Nat) (ws:List aq):gD W ab ak 149 [.int .i64 a0] d ws ((aU ab (n+1)).lt d a0 ws):=by
 intro h aA i C a8;generalize U:(aU ab (n+1)).lt d a0 ws=res at a8 ⊢;replace U:ug ab (aU ab n) d a0 ws=res:=U;unfold ug at U;refine Xp.x rfl (cl ?_);unfold Ng;have bX:=C.at_.lt;obtain ⟨ae,ao,aP,bz⟩:=fU h b8;have m1:Mod (b3 ak) h ae:=aP.mod _;have cw:=m1;have cy:=C.ext aP;simp only [ao,↓aa,ad,simprocAttr];refine aX (hs cy oo) ?_;rintro x ag ⟨rfl,m2,i2,bx⟩;have M2:=cw.trans m2;cases b_:bb oo ws with
 | true=>
   simp only [b_,apd,ao2,apa,bB] at U bx;simp only [↓aa,ad,simprocAttr];have g3:(aU ab n).binds d [] ws.tail≠.error b7:=fun q=>by rw [q] at U;exact a8 U.symm
   refine cH (I.binds d ws.tail ag aA i2 bx g3) ?_ ?_
   rotate_left
   . rintro x ar ⟨e,he,rfl,m,bo⟩;simp only [cF,aY,↓aa,ad,simprocAttr];exact ⟨e,by rw [he] at U;exact U.symm,rfl,(M2.trans m),bo⟩
   rintro ul ar ⟨zK,db,i3,bU,lY,Gf,m3,cq⟩;rw [bU] at U
   try simp only [bB] at U
   have cu:=M2.trans m3;have ns:=lY.one;simp only [ns.1,ns.2.1,ns.2.2,↓aa,ad,simprocAttr];refine cH (kR cq vA) ?_ ?_
   rotate_left
   . rintro x aT ⟨e,he,rfl,m,bo⟩;simp only [cF,aY,↓aa,ad,simprocAttr];exact ⟨e,by rw [he] at U;exact U.symm,rfl,(cu.trans m),bo⟩
   rintro x aT ⟨dj,cU,m4,i4,cf⟩;rw [cU] at U
   try simp only [bB] at U
   have cX:=cu.trans m4;simp only [ns.1,ns.2.1,ns.2.2,↓aa,ad,simprocAttr];have g5:(aU ab n).seq d dj≠.error b7:=fun q=>by rw [q] at U;exact a8 U.symm
   refine cH (I.seq d dj aT aA i4 cf g5) ?_ ?_
   rotate_left
   . rintro x bC ⟨e,he,rfl,m,bo⟩;simp only [cF,aY,↓aa,ad,simprocAttr];exact ⟨e,by rw [he] at U;exact U.symm,rfl,(cX.trans m),bo⟩
   rintro x bC ⟨b,fs,eM,i5,b4,rfl,fO,m5,bV⟩;rw [b4] at U
   try simp only [bB] at U
   have cR:=cX.trans m5;have GH:=hv lY (m4.trans m5) (by have:=M2.next;omega) (by have:=M2.next;omega);have eQ:=fO.one;obtain ⟨amA,bA,cD,AS,m6,lG,anB⟩:=pt GH (fO.cO (m4.next)) (lk lY (ao1 _)) (m3.next) ((ao6 m4.next m5.next)) (ao6 Gf (by decide));have hY:=bz.mod (m2.trans (m3.trans (m4.trans m5))) (bT bX);have aa':(bC.next=h.next)=False:=apl (by have:=hY.lt;omega);have cv:=C.l1 bV m6 (by have:=M2.next;omega);have de:=ot cR m6 (by have:=M2.next;omega);have yt:=n_ hY m6 (.inl (by have:=bz.lt;have:=m2.next;omega));have anv:=fO.l1 m6 (m4.next);have x1:=AS.one;have LH:(zK++[b]).length=zK.length+1:=by simp<;>omega
   have oS:=rX AS (by have:=Gf;have:=LH;omega) 30 0 a0 (s:=[]) (api _);have o:=oS.one;simp only [o.1,o.2.1,o.2.2,aY,vcs,bR,eQ.1,eQ.2.1,eQ.2.2,cD,aa',yt.g,ns.1,ns.2.1,ns.2.2,x1.1,x1.2.1,x1.2.2,↓aa,ad,simprocAttr];exact ⟨_,_,_,_,U.symm,rfl,(oS.box (by have:=m2.next;have:=bz.lt;omega) _).cO (by have:=M2.next;omega),de.set (fun o=>absurd o (dh (ao1 _))) _,C.box cv (ao1 _) _⟩
 | false=>
   simp only [b_,apd,ao2,apa,bB] at U bx;simp only [↓aa,ad,simprocAttr];have g3:(aU ab n).pat d ws≠.error b7:=fun q=>by rw [q] at U;exact a8 U.symm
   refine cH (I.pat d ws ag aA i2 bx g3) ?_ ?_
   rotate_left
   . rintro x ar ⟨e,he,rfl,m,bo⟩;simp only [cF,aY,↓aa,ad,simprocAttr];exact ⟨e,by rw [he] at U;exact U.symm,rfl,(M2.trans m),bo⟩
   rintro x ar ⟨p,db,uN,i3,bU,rfl,oS,m3,cq⟩;rw [bU] at U
   try simp only [bB] at U
   have cu:=M2.trans m3;have c2:=oS.one;obtain ⟨aT,bs,cN,eF⟩:=fq ar b8 (vcs p uN);have m4:Mod (b3 ak) ar aT:=cN.mod _;have cX:=cu.trans m4;have cf:=cq.ext cN;simp only [c2.1,c2.2.1,c2.2.2,bs,↓aa,ad,simprocAttr];refine cH (kR cf gQ) ?_ ?_
   rotate_left
   . rintro x bC ⟨e,he,rfl,m,bo⟩;simp only [cF,aY,↓aa,ad,simprocAttr];exact ⟨e,by rw [he] at U;exact U.symm,rfl,(cX.trans m),bo⟩
   rintro x bC ⟨fs,b4,m5,i5,bV⟩;rw [b4] at U
   try simp only [bB] at U
   have cR:=cX.trans m5;simp only [↓aa,ad,simprocAttr];have g6:(aU ab n).seq d fs≠.error b7:=fun q=>by rw [q] at U;exact a8 U.symm
   refine cH (I.seq d fs bC aA i5 bV g6) ?_ ?_
   rotate_left
   . rintro x bA ⟨e,he,rfl,m,bo⟩;simp only [cF,aY,↓aa,ad,simprocAttr];exact ⟨e,by rw [he] at U;exact U.symm,rfl,(cR.trans m),bo⟩
   rintro x bA ⟨a,jz,b5,i6,ea,rfl,aO,m6,cv⟩;rw [ea] at U
   try simp only [bB] at U
   have de:=cR.trans m6;have gn:=aO.one;obtain ⟨cd,dy,dI,r'⟩:=fq bA b8 (vcs a b5);have m7:Mod (b3 ak) bA cd:=dI.mod _;have ew:=de.trans m7;have eR:=cv.ext dI;simp only [gn.1,gn.2.1,gn.2.2,dy,↓aa,ad,simprocAttr];refine cH (kR eR vA) ?_ ?_
   rotate_left
   . rintro x et ⟨e,he,rfl,m,bo⟩;simp only [cF,aY,↓aa,ad,simprocAttr];exact ⟨e,by rw [he] at U;exact U.symm,rfl,(ew.trans m),bo⟩
   rintro x et ⟨v_,hd,m8,i8,gj⟩;rw [hd] at U
   try simp only [bB] at U
   have g':=ew.trans m8;have wg:=eF.mod (m5.trans (m6.trans (m7.trans m8))) (bT (by have:=cu.next;omega));have s':=r'.mod m8 (bT (by have:=de.next;omega));simp only [wg.g,s'.g,↓aa,ad,simprocAttr];have g9:(aU ab n).seq d v_≠.error b7:=fun q=>by rw [q] at U;exact a8 U.symm
   refine cH (I.seq d v_ et aA i8 gj g9) ?_ ?_
   rotate_left
   . rintro x fD ⟨e,he,rfl,m,bo⟩;simp only [cF,aY,wg.g,s'.g,↓aa,ad,simprocAttr];exact ⟨rfl,e,by rw [he] at U;exact U.symm,rfl,(g'.trans m),bo⟩
   rintro x fD ⟨b,uR,eM,i9,py,rfl,fO,m9,fS⟩;rw [py] at U
   try simp only [bB] at U
   have ib:=g'.trans m9;have LI:=wg.mod m9 (bT (by have:=cu.next;omega));have AD:=s'.mod m9 (bT (by have:=de.next;omega));have AW:=oS.mod (m4.trans (m5.trans (m6.trans (m7.trans (m8.trans m9))))) (by have:=M2.next;omega);have u3:=aO.mod (m7.trans (m8.trans m9)) (by have:=cR.next;omega);have xR:=AW.one;have xS:=u3.one;have J2:=fO.one;obtain ⟨iN,mf,u_,Gx⟩:=JJ (F:=Fr ag.next) (h:=fD) (size:=5) rfl rfl rfl AW.cs (u3.cO (ia:=ag.next) (by have:=(ao6 m3.next (ao6 m4.next m5.next));omega)).cs (fO.cO (ia:=ag.next) (by have:=(ao6 m3.next (ao6 m4.next (ao6 m5.next (ao6 m6.next (ao6 m7.next m8.next)))));omega)).cs (ry (m3.trans (m4.trans (m5.trans (m6.trans (m7.trans (m8.trans m9)))))).next);simp only [vcs,apm,apx] at mf;have m10:Mod (b3 ak) fD iN:=u_.mod _;have oO:=ib.trans m10;have iZ:=fS.ext u_;have AV:=oy (l:=[p,a,b]) 29 0 a0 [] Gx rfl (api _);have we:=bz.mod (m2.trans (m3.trans (m4.trans (m5.trans (m6.trans (m7.trans (m8.trans (m9.trans m10)))))))) (bT bX);have T9:=LI.mod m10 (bT (by have:=cu.next;omega));have Gi:=AD.mod m10 (bT (by have:=de.next;omega));have o:=AV.one;simp only [o.1,o.2.1,o.2.2,aY,vcs,bR,xR.1,xR.2.1,xR.2.2,xS.1,xS.2.1,xS.2.2,J2.1,J2.2.1,J2.2.2,mf,we.g,T9.g,Gi.g,wg.g,s'.g,LI.g,AD.g,↓aa,ad,simprocAttr];exact ⟨_,_,_,_,U.symm,rfl,(AV.box (by have:=m2.next;have:=bz.lt;omega) _).cO (by have:=M2.next;omega),oO.set (fun o=>absurd o (dh (ao1 _))) _,C.box iZ (ao1 _) _⟩
end
end
section
open Go bg
variable {W:List aq} {ab ak n:Nat}
theorem ajX:iI W ab ak 0:=by constructor<;>(intros;intro h aA i C a8;exact absurd rfl a8)
theorem ajW (J:∀m,m<=n->iI W ab ak m):iI W ab ak (n+1):=by have I:=J n (ao1 n);exact ⟨amm I,ajm I,ahy I,amf J,ajT I,ajO I,ajQ I,ale I,Y' J,abu I,ait I,Zs I,ahb I,WB J,aji I,Zz I,alR J,alT J,aka I,V1 J,Wj I⟩
theorem Ks (W:List aq) (ab ak:Nat):∀n m,m<=n->iI W ab ak m
 | 0,m,h=>by obtain rfl:m=0:=by omega
             exact ajX
 | n+1,m,h=>by
   by_cases e:m=n+1
   . rw [e];exact ajW (Ks W ab ak n)
   . exact Ks W ab ak n m (by omega)
theorem vN (W:List aq) (ab ak n:Nat):iI W ab ak n:=Ks W ab ak n n (ao1 n)
end
section
open Go bg
section
variable {W:List aq} {ab ak n:Nat}
theorem HC (I:iI W ab ak n) (k:Int) (ws:List aq):gD W ab ak 53 [.int .i64 k] 0 ws (ko ab (aU ab n) k ws):=by
 intro h aA i C a8;generalize U:ko ab (aU ab n) k ws=res at a8 ⊢;unfold ko at U;refine Yn.x rfl (cl ?_);unfold N3;have bX:=C.at_.lt;obtain ⟨ae,ao,aP,bz⟩:=fU h b8;have m1:Mod (b3 ak) h ae:=aP.mod _;have cw:=m1;have cy:=C.ext aP;simp only [ao,↓aa,ad,simprocAttr];refine cH (mQ cy 4) ?_ ?_
 rotate_left
 . rintro x ag ⟨e,he,rfl,m,bo⟩;simp only [cF,aY,↓aa,ad,simprocAttr];exact ⟨e,by rw [he] at U;exact U.symm,rfl,(cw.trans m),bo⟩
 rintro x ag ⟨⟨aQ,bt⟩,bf,rfl,⟨e8,tN⟩,m2,i2,bx⟩;rw [bf] at U
 try simp only [bB] at U
 have M2:=cw.trans m2;obtain ⟨ar,aC,cT,fl⟩:=fq ag [.int .i64 0,.int .i64 0,.int .i64 0,.str []] [.int .i64 aQ.kind,.int .i64 aQ.num,.int .i64 aQ.pos,.str aQ.text];have m3:Mod (b3 ak) ag ar:=cT.mod _;have cu:=M2.trans m3;have cq:=bx.ext cT;obtain ⟨aT,bs,cN,eF⟩:=fq ar b8 [.int .i64 k,.int .i64 0,.int .i64 aQ.pos,.str aQ.text,.cS];have m4:Mod (b3 ak) ar aT:=cN.mod _;have cX:=cu.trans m4;have cf:=cq.ext cN;simp only [aq.enc,aC,fl.g,bs,↓aa,ad,simprocAttr];refine aX (hs cf qM) ?_;rintro x bC ⟨rfl,m5,i5,bV⟩;have cR:=cX.trans m5;cases b_:bb qM bt with
 | true=>
   simp only [b_,apd,ao2,apa,bB] at U bV;simp only [↓aa,ad,simprocAttr];have g6:(aU ab n).ty 0 bt.tail≠.error b7:=fun q=>by rw [q] at U;exact a8 U.symm
   refine cH (I.ty 0 bt.tail bC aA i5 bV g6) ?_ ?_
   rotate_left
   . rintro x bA ⟨e,he,rfl,m,bo⟩;simp only [cF,aY,↓aa,ad,simprocAttr];exact ⟨e,by rw [he] at U;exact U.symm,rfl,(cR.trans m),bo⟩
   rintro x bA ⟨a,jz,b5,i6,ea,rfl,aO,m6,cv⟩;rw [ea] at U
   try simp only [bB] at U
   have de:=cR.trans m6;have fc:=aO.one;obtain ⟨cd,dy,dI,rf⟩:=sR (F:=Fr bC.next) (h:=bA) (size:=5) rfl aO.cs (ry m6.next);have m7:Mod (b3 ak) bA cd:=dI.mod _;have ew:=de.trans m7;have eR:=cv.ext dI;have ef:=oy (l:=[a]) k 0 aQ.pos aQ.text rf rfl (le_top (C.fj aQ e8));have k0:=eF.mod (m5.trans (m6.trans m7)) (bT (by have:=cu.next;omega));obtain ⟨et,dH⟩:∃g,cd.set (an ar.next) (.bc [.int .i64 k,.int .i64 0,.int .i64 aQ.pos,.str aQ.text,(.slice (an bA.next) 0 1 1)] 0 false)=g:=⟨_,rfl⟩;have pD:=k0.put [.int .i64 k,.int .i64 0,.int .i64 aQ.pos,.str aQ.text,(.slice (an bA.next) 0 1 1)];rw [dH] at pD;have gj:=C.box eR (n:=ar.next) cu.next (.bc [.int .i64 k,.int .i64 0,.int .i64 aQ.pos,.str aQ.text,(.slice (an bA.next) 0 1 1)] 0 false)
   rw [dH] at gj;have g':Mod (b3 ak) h et:=by rw [<-dH];exact ew.set (fun o=>absurd o (dh cu.next)) _
   have qn:=aO.mod m7 (by have:=cR.next;omega);have wx:=qn.box (n:=ar.next) (by have:=m5.next;have:=eF.lt;omega) (.bc [.int .i64 k,.int .i64 0,.int .i64 aQ.pos,.str aQ.text,(.slice (an bA.next) 0 1 1)] 0 false);rw [dH] at wx;have oR:=ef.box (n:=ar.next) (by have:=m5.next;have:=eF.lt;omega) (.bc [.int .i64 k,.int .i64 0,.int .i64 aQ.pos,.str aQ.text,(.slice (an bA.next) 0 1 1)] 0 false);rw [dH] at oR;have hH:=bz.mod (m2.trans (m3.trans (m4.trans (m5.trans (m6.trans m7))))) (bT bX);have qh:=hH.set (m:=ar.next) (by have:=bz.lt;have:=(m2.trans m3).next;omega) (.bc [.int .i64 k,.int .i64 0,.int .i64 aQ.pos,.str aQ.text,(.slice (an bA.next) 0 1 1)] 0 false);rw [dH] at qh;have pC:=fl.mod (m4.trans (m5.trans (m6.trans m7))) (bT (by have:=M2.next;omega));have Gm:=pC.set (m:=ar.next) (by have:=fl.lt;omega) (.bc [.int .i64 k,.int .i64 0,.int .i64 aQ.pos,.str aQ.text,(.slice (an bA.next) 0 1 1)] 0 false);rw [dH] at Gm;have m8:Mod (fun b=>b=an ar.next) cd et:=by rw [<-dH];exact (Mod.refl (fun b=>b=an ar.next) _).set (fun _=>rfl) _
   have o:=oR.one;simp only [o.1,o.2.1,o.2.2,aY,vcs,bR,fc.1,fc.2.1,fc.2.2,dy,k0.g,dH,pD.g,qh.g,↓aa,ad,simprocAttr];exact ⟨_,_,_,_,U.symm,rfl,(oR.box (by have:=(ao6 m2.next (ao6 m3.next (ao6 m4.next m5.next)));have:=bz.lt;omega) _).cO (by have:=cR.next;omega),g'.set (fun o=>absurd o (dh (ao1 _))) _,C.box gj (ao1 _) _⟩
 | false=>
   simp only [b_,apd,ao2,apa,bB] at U bV;have hk:=eF.mod m5 (bT (by have:=cu.next;omega));have hY:=bz.mod (m2.trans (m3.trans (m4.trans m5))) (bT bX);simp only [aY,vcs,bR,hk.g,hY.g,↓aa,ad,simprocAttr];exact ⟨_,_,_,_,U.symm,rfl,iV _ _ _ _ _ (le_top (C.fj aQ e8)),cR.set (fun o=>absurd o (dh (ao1 _))) _,C.box bV (ao1 _) _⟩
theorem Lp {h:ah} {d i b:Nat} {ws:List aq} {aA:V} (C:ed W ab ak h d ws aA i) (yp:Has h b [.ptr (an ak) 0]):j2 Tryz.prog 98 [.ptr (an b) 0] h (fun x af=>∃q,fg ab 5 ws=.ok q/\x=.agg (vcs (h9 q.1) .cS)/\q.1 ∈ W/\Mod (b3 ak) h af/\∃fX,ed W ab ak af d q.2 aA fX) (tk W ab ak h (fg ab 5 ws)):=by
 refine YX.x rfl (cl ?_);unfold OB;have bX:=C.at_.lt;obtain ⟨ae,ao,aP,bz⟩:=fU h b8;have cy:=C.ext aP;have Ud:=yp.ext aP;simp only [ao,Ud.g,↓aa,ad,simprocAttr];refine cH (mQ cy 5) ?_ ?_
 rotate_left
 . rintro x ag ⟨e,he,rfl,m,bo⟩;simp only [cF,aY,↓aa,ad,simprocAttr];exact ⟨e,he,rfl,(aP.mod _).trans m,bo⟩
 rintro x ag ⟨⟨w,bt⟩,bf,rfl,⟨hw,aD⟩,m2,i2,bx⟩;obtain ⟨ar,aC,cT,fl⟩:=fq ag [.int .i64 0,.int .i64 0,.int .i64 0,.str []] [.int .i64 w.kind,.int .i64 w.num,.int .i64 w.pos,.str w.text];have cq:=bx.ext cT;have qg:=(bz.mod m2 (bT bX)).ext cT;simp only [aq.enc,aC,fl.g,qg.g,h9,vcs,bR,aY,↓aa,ad,simprocAttr];exact ⟨_,bf,rfl,hw,(((aP.mod (b3 ak)).trans m2).trans (cT.mod _)).set (fun o=>absurd o (dh (ao1 _))) _,i2,C.box cq (ao1 _) _⟩
theorem ajy (k:Nat) (ws:List aq):AX W ab ak 51 [] 0 ws (pv ab k ws):=by
 intro h aA i C a8;generalize U:pv ab k ws=res at a8 ⊢;unfold pv at U;refine Yl.x rfl (cl ?_);unfold c51;have bX:=C.at_.lt;obtain ⟨ae,ao,aP,bz⟩:=fU h [.ptr (an ak) 0];have m1:Mod (b3 ak) h ae:=aP.mod _;have cw:=m1;have cy:=C.ext aP;simp only [ao,bz.g,↓aa,ad,simprocAttr];refine bQ (kb cy 5) ?_;cases b_:cJ 5 ws with
 | true=>
   simp only [b_,apd,ao2,apa,bB] at U;simp only [bz.g,↓aa,ad,simprocAttr];refine cH (Lp cy bz) ?_ ?_
   rotate_left
   . rintro x ag ⟨e,he,rfl,m,bo⟩;simp only [cF,aY,↓aa,ad,simprocAttr];exact ⟨e,by rw [he] at U;exact U.symm,rfl,(cw.trans m),bo⟩
   rintro x ag ⟨⟨aQ,bt⟩,bf,rfl,e8,m2,i2,bx⟩;rw [bf] at U
   try simp only [bB] at U
   have M2:=cw.trans m2;have Mc:dq (Fr ag.next) ag (h9 aQ) .cS:=iV _ _ _ _ _ (le_top (C.fj aQ e8));have dx:=Mc.one;obtain ⟨ar,aC,cT,lY⟩:=z8 Mc (ao1 _);have m3:Mod (b3 ak) ag ar:=cT.mod _;have cu:=M2.trans m3;have cq:=bx.ext cT;have ct:=lY.one;simp only [ct.1,ct.2.1,ct.2.2,aY,dx.1,dx.2.1,dx.2.2,aC,↓aa,ad,simprocAttr];exact ⟨_,_,_,U.symm,Sd lY (M2.next),by simp,cu,cq⟩
 | false=>
   simp only [b_,apd,ao2,apa,bB] at U;simp only [bz.g,↓aa,ad,simprocAttr];refine aX (hs cy e9) ?_;rintro x ag ⟨rfl,m2,i2,bx⟩;have M2:=cw.trans m2;cases dC:bb e9 ws with
   | true=>
     simp only [dC,apd,ao2,apa,bB] at U bx;have kk:=bz.mod m2 (bT bX);simp only [kk.g,↓aa,ad,simprocAttr];refine cH (Lp bx kk) ?_ ?_
     rotate_left
     . rintro x ar ⟨e,he,rfl,m,bo⟩;simp only [cF,aY,↓aa,ad,simprocAttr];exact ⟨e,by rw [he] at U;exact U.symm,rfl,(M2.trans m),bo⟩
     rintro x ar ⟨⟨eI,db⟩,bU,rfl,pZ,m3,i3,cq⟩;rw [bU] at U
     try simp only [bB] at U
     have cu:=M2.trans m3;have Md:dq (Fr ar.next) ar (h9 eI) .cS:=iV _ _ _ _ _ (le_top (C.fj eI pZ));have c2:=Md.one;obtain ⟨aT,bs,cN,lY⟩:=z8 Md (ao1 _);have m4:Mod (b3 ak) ar aT:=cN.mod _;have cX:=cu.trans m4;have cf:=cq.ext cN;have kZ:=kk.mod (m3.trans m4) (bT bX);generalize az:kS ab k [(h9 eI)] db=rt at U;have xn:rt≠.error b7:=fun q=>by rw [q] at U;exact a8 U.symm
     simp only [c2.1,c2.2.1,c2.2.2,bs,↓aa,ad,simprocAttr];refine gf (fun r g=>r 1=.ptr (an h.next) 0/\r 3=.func 98 [.ptr (an h.next) 0]/\Has g h.next [.ptr (an ak) 0]/\Mod (b3 ak) h g/\ar.next<=g.next/\∃m l dm jd,dz ar.next (Fr ar.next) g 5 (List.map aN.enc l) (r 4)/\l.length<=64/\ed W ab ak g 0 dm aA jd/\kS ab m l dm=rt) (fun _ g=>qS W ak g) ?_ ?_
     . exact ⟨by simp only [↓aa,cQ,simprocAttr],by simp only [↓aa,cQ,simprocAttr],kZ,cX,(m4.next),k,[(h9 eI)],_,_,by simp only [↓aa,cQ,simprocAttr];exact lY,by simp,cf,az⟩
     have pV:=U;have B7:=a8;clear U a8;rintro r bC ⟨uz,fI,R,cR,jf,m,l,dm,jd,O,aH,bV,U⟩;obtain ⟨da,iq⟩:∃da,r 4=da:=⟨_,rfl⟩;rw [iq] at O;have a8:=xn;cases m with
     | zero=>exact (a8 U.symm).elim
     | succ m=>
       simp only [kS] at U;have ct:=O.one;simp only [uz,fI,iq,R.g,ct.1,ct.2.1,ct.2.2,↓aa,ad,simprocAttr];refine aX (hs bV hh) ?_;rintro x bA ⟨rfl,m6,i6,cv⟩;have de:=cR.trans m6;cases eP:bb hh dm with
       | true=>
         simp only [eP,apd,ao2,apa,bB] at U cv;have AT:=hv O m6 (by have:=cu.next;omega) (by have:=cu.next;omega);have hlen:l9 da=some (.int .i64 l.length):=by have:=AT.len;rwa [apD] at this
         have jl:=R.mod m6 (bT bX);simp only [jl.g,uz,fI,iq,ct.1,ct.2.1,ct.2.2,↓aa,ad,simprocAttr];refine cH (Pt cv hlen) ?_ ?_
         rotate_left
         . rintro x cd ⟨e,he,rfl,m,bo⟩;simp only [cF,aY,uz,fI,iq,kY,↓aa,ad,simprocAttr];exact ⟨e,by rw [he] at U;rw [<-pV,<-U];rfl,rfl,(de.trans m),bo⟩
         rintro x af ⟨fN,bM⟩;cases bM;rw [fN] at U;have vi:l.length<64:=by unfold js at fN;split at fN;cases fN;omega
         try simp only [bB] at U
         simp only [jl.g,uz,fI,iq,ct.1,ct.2.1,ct.2.2,↓aa,ad,simprocAttr];refine cH (Lp cv jl) ?_ ?_
         rotate_left
         . rintro x cd ⟨e,he,rfl,m,bo⟩;simp only [cF,aY,uz,fI,iq,kY,↓aa,ad,simprocAttr];exact ⟨e,by rw [he] at U;rw [<-pV,<-U];rfl,rfl,(de.trans m),bo⟩
         rintro x cd ⟨⟨Ls,mS⟩,e3,rfl,ad7,m7,i7,eR⟩;rw [e3] at U
         try simp only [bB] at U
         have ew:=de.trans m7;have GO:dq (Fr cd.next) cd (h9 Ls) .cS:=iV _ _ _ _ _ (le_top (C.fj Ls ad7));have pI:=hv AT m7 (by have:=cu.next;omega) (by have:=cu.next;omega);have jy:=GO.one;obtain ⟨ut,et,dH,nB,m8,uh,A8⟩:=pt pI (GO.cO ((ao6 m6.next m7.next))) (lk O (ao1 _)) (jf) ((ao6 m6.next m7.next)) (by omega);have hH:=jl.mod m7 (bT bX);have aba:(cd.next=h.next)=False:=apl (by have:=hH.lt;omega);have gj:=C.l1 eR m8 (by have:=cu.next;omega);have g':=ot ew m8 (by have:=cu.next;omega);have Uj:=n_ hH m8 (.inl (by have:=bz.lt;have:=(ao6 m2.next m3.next);omega));have anw:=GO.l1 m8 ((ao6 m6.next m7.next));have il:=nB.one;have s9:(l++[(h9 Ls)]).length=l.length+1:=by simp<;>omega
         simp only [jy.1,jy.2.1,jy.2.2,dH,aba,uz,fI,iq,ct.1,ct.2.1,ct.2.2,il.1,il.2.1,il.2.2,↓aa,ad,simprocAttr];exact ⟨⟨Uj,g',((ao6 jf (ao6 m6.next (ao6 m7.next m8.next)))),m,_,_,_,nB,by rw [s9];omega,gj,U⟩,by rw [lH bV,lH gj];show mS.length<_;have:=fx eP;have fD:mS.length<dm.tail.length:=Tv e3;omega⟩
       | false=>
         simp only [eP,apd,ao2,apa,bB] at U cv;rw [<-U] at pV;clear U a8;have U:=pV;have a8:=B7
         try simp only [bB] at U
         have jl:=R.mod m6 (bT bX);simp only [jl.g,uz,fI,iq,ct.1,ct.2.1,ct.2.2,↓aa,ad,simprocAttr];refine cH (kR cv ej) ?_ ?_
         rotate_left
         . rintro x cd ⟨e,he,rfl,m,bo⟩;simp only [cF,aY,uz,fI,iq,kY,↓aa,ad,simprocAttr];exact ⟨e,by rw [he] at U;exact U.symm,rfl,(de.trans m),bo⟩
         rintro x cd ⟨mS,e3,m7,i7,eR⟩;rw [e3] at U
         try simp only [bB] at U
         have ew:=de.trans m7;have pI:=hv O (m6.trans m7) (by have:=cu.next;omega) (by have:=cu.next;omega);simp only [aY,uz,fI,iq,ct.1,ct.2.1,ct.2.2,↓aa,ad,simprocAttr];exact ⟨_,_,_,U.symm,Sd pI (by have:=cu.next;omega),by omega,ew,eR⟩
   | false=>
     simp only [dC,apd,ao2,apa,bB] at U bx;simp only [aY,↓aa,ad,simprocAttr];exact ⟨_,_,_,U.symm,dz.nil _ _ _ _,by simp,M2,bx⟩
end
section
variable {W:List aq} {ab ak n:Nat}
theorem ZX (ab n:Nat) (k:Int) (ws:List aq):eK (fun _=>True) ws (ko ab (aU ab n) k ws):=by
 try dsimp only
 refine (kF (fun _ _=>trivial)).bind (fun _ _=>trivial) fun w ba ae=>?_
 try simp only
 split
 . rename_i al;have:=fx al
   try dsimp only
   exact ((shorter ab n).ty _ _ (.inl trivial)).bind (fun _ _=>trivial) fun b bt ag=>by show bt.length<_;omega
 . exact ae
theorem aaf (I:iI W ab ak n) (k:Nat) (ws:List aq):gD W ab ak 23 [] 0 ws (kK ab (aU ab n) k ws):=by
 intro h aA i C a8;generalize U:kK ab (aU ab n) k ws=res at a8 ⊢;unfold kK at U;dsimp only at U;refine X3.x rfl (cl ?_);unfold NG;have bX:=C.at_.lt;obtain ⟨ae,ao,aP,bz⟩:=fU h b8;have m1:Mod (b3 ak) h ae:=aP.mod _;have cw:=m1;have cy:=C.ext aP;simp only [ao,↓aa,ad,simprocAttr];refine bQ (q2 cy) ?_;simp only [↓aa,ad,simprocAttr];refine aX (hs cy zF) ?_;rintro x ag ⟨rfl,m2,i2,bx⟩;have M2:=cw.trans m2;cases b_:bb zF ws with
 | true=>
   simp only [b_,apd,ao2,apa,bB] at U bx;simp only [↓aa,ad,simprocAttr];have g3:pv ab k ws.tail≠.error b7:=fun q=>by rw [q] at U;exact a8 U.symm
   refine cH (ajy k ws.tail ag aA i2 bx g3) ?_ ?_
   rotate_left
   . rintro x ar ⟨e,he,rfl,m,bo⟩;simp only [cF,aY,↓aa,ad,simprocAttr];exact ⟨e,by rw [he] at U;exact U.symm,rfl,(M2.trans m),bo⟩
   rintro up ar ⟨hL,db,i3,bU,Op,T6,m3,cq⟩;rw [bU] at U
   try simp only [bB] at U
   have cu:=M2.trans m3;have qZ:=Op.one;have hlen:l9 up=some (.int .i64 hL.length):=by have:=Op.len;rwa [apD] at this
   simp only [hlen,qZ.1,qZ.2.1,qZ.2.2,↓aa,ad,simprocAttr];refine cH (mQ cq 3) ?_ ?_
   rotate_left
   . rintro x aT ⟨e,he,rfl,m,bo⟩;simp only [cF,aY,↓aa,ad,simprocAttr];exact ⟨e,by rw [he] at U;exact U.symm,rfl,(cu.trans m),bo⟩
   rintro x aT ⟨⟨gp,dj⟩,cU,rfl,⟨xq,vo⟩,m4,i4,cf⟩;rw [cU] at U
   try simp only [bB] at U
   have cX:=cu.trans m4;have GK:=Sf Op (m4.next);obtain ⟨bC,ca,e7,iF⟩:=fq aT b8 [.int .i64 50,.int .i64 hL.length,.int .i64 (bG ab ws),.str gp.text,.cS];have m5:Mod (b3 ak) aT bC:=e7.mod _;have cR:=cX.trans m5;have bV:=cf.ext e7;have ap:¬V.bn up (an aT.next):=fun z=>by have:=lk Op (ao1 _) _ z;rw [dk] at this;have:=m4.next;omega
   simp only [aq.enc,ca,qZ.1,qZ.2.1,qZ.2.2,↓aa,ad,simprocAttr];refine cH (kR bV gQ) ?_ ?_
   rotate_left
   . rintro x bA ⟨e,he,rfl,m,bo⟩;simp only [cF,aY,↓aa,ad,simprocAttr];exact ⟨e,by rw [he] at U;exact U.symm,rfl,(cR.trans m),bo⟩
   rintro x bA ⟨jz,ea,m6,i6,cv⟩;rw [ea] at U
   try simp only [bB] at U
   have de:=cR.trans m6;simp only [qZ.1,qZ.2.1,qZ.2.2,↓aa,ad,simprocAttr];have g7:ko ab (aU ab n) 47 jz≠.error b7:=fun q=>by rw [q] at U;exact a8 U.symm
   refine cH (HC I 47 jz bA aA i6 cv g7) ?_ ?_
   rotate_left
   . rintro x cd ⟨e,he,rfl,m,bo⟩;simp only [cF,aY,↓aa,ad,simprocAttr];exact ⟨e,by rw [he] at U;exact U.symm,rfl,(de.trans m),bo⟩
   rintro x cd ⟨c,mS,ev,i7,e3,rfl,ef,m7,eR⟩;rw [e3] at U
   try simp only [bB] at U
   have ew:=de.trans m7;have U7:=z7 GK (m4.trans (m5.trans (m6.trans m7))) (by have:=M2.next;omega);have jy:=ef.one;obtain ⟨ul,et,dH,lY,m8,uh,A8⟩:=Ki U7 ef (lk Op ((ao6 m4.next (ao6 m5.next m6.next)))) (by have:=iF.lt;have:=m6.next;omega) ((ao6 m3.next (ao6 m4.next (ao6 m5.next m6.next)))) (m7.next) (ao6 T6 (by decide));have hH:=bz.mod (m2.trans (m3.trans (m4.trans (m5.trans (m6.trans m7))))) (bT bX);have HR:(cd.next=h.next)=False:=apl (by have:=hH.lt;omega);have LK:=iF.mod (m6.trans m7) (bT (by have:=cX.next;omega));have aa_:(cd.next=aT.next)=False:=apl (by have:=LK.lt;omega);have gj:=C.l1 eR m8 (by have:=M2.next;omega);have g':=ot ew m8 (by have:=M2.next;omega);have qh:=n_ hH m8 (.inl (by have:=bz.lt;have:=m2.next;omega));have Gm:=LK.mod uh ap;have oR:=ef.l1 m8 (ao1 _);have ns:=lY.one;have ang:(hL++[c]).length=hL.length+1:=by simp<;>omega
   have Mm:¬V.bn ul (an aT.next):=fun z=>(A8 _ z).elim ap (fun z=>by rw [dk] at z;have:=iF.lt;have:=(ao6 m6.next m7.next);omega);generalize az:oY ab (aU ab n) k (hL++[c]) mS=rt at U;have xn:rt≠.error b7:=fun q=>by rw [q] at U;exact a8 U.symm
   simp only [jy.1,jy.2.1,jy.2.2,dH,HR,aa_,vcs,bR,qZ.1,qZ.2.1,qZ.2.2,ns.1,ns.2.1,ns.2.2,↓aa,ad,simprocAttr];refine gf (fun r g=>r 0=.ptr (an ak) 0/\r 2=.ptr (an h.next) 0/\r 5=.ptr (an aT.next) 0/\Has g h.next b8/\Has g aT.next ([.int .i64 50,.int .i64 hL.length,.int .i64 (bG ab ws),.str gp.text,.cS])/\¬V.bn (r 4) (an aT.next)/\Mod (b3 ak) h g/\ag.next<=g.next/\∃m l dm jd,dz ag.next (lv ag.next aT.next) g 5 (List.map aN.enc l) (r 4)/\l.length+dm.length<=2000001/\ed W ab ak g 0 dm aA jd/\oY ab (aU ab n) m l dm=rt) (fun _ g=>qS W ak g) ?_ ?_
   . exact ⟨by simp only [↓aa,cQ,simprocAttr],by simp only [↓aa,cQ,simprocAttr],by simp only [↓aa,cQ,simprocAttr],qh,Gm,by simp only [↓aa,cQ,simprocAttr];exact Mm,g',((ao6 m3.next (ao6 m4.next (ao6 m5.next (ao6 m6.next (ao6 m7.next m8.next)))))),k,_,_,_,by simp only [↓aa,cQ,simprocAttr];exact lY,by rw [ang];have:=T6;have:=gj.qf;omega,gj,az⟩
   have pV:=U;have B7:=a8;clear U a8;clear ap Mm;rintro r fD ⟨gx,mN,C3,R,iF,ap,ib,jf,m,l,dm,jd,O,aH,fS,U⟩;obtain ⟨da,iq⟩:∃da,r 4=da:=⟨_,rfl⟩;rw [iq] at O ap;have CH:=iF.lt;have a8:=xn;cases m with
   | zero=>exact (a8 U.symm).elim
   | succ m=>
     simp only [oY] at U;have ct:=O.one;simp only [gx,mN,iq,C3,ct.1,ct.2.1,ct.2.2,↓aa,ad,simprocAttr];refine aX (hs fS jZ) ?_;rintro x iN ⟨rfl,m10,i10,iZ⟩;have oO:=ib.trans m10;cases dC:bb jZ dm with
     | true=>
       simp only [dC,apd,ao2,apa,bB] at U iZ;simp only [gx,mN,iq,C3,ct.1,ct.2.1,ct.2.2,↓aa,ad,simprocAttr];have g11:ko ab (aU ab n) 47 dm.tail≠.error b7:=fun q=>by rw [q] at U;exact a8 U.symm
       refine cH (HC I 47 dm.tail iN aA i10 iZ g11) ?_ ?_
       rotate_left
       . rintro x ly ⟨e,he,rfl,m,bo⟩;simp only [cF,aY,gx,mN,iq,C3,kY,↓aa,ad,simprocAttr];exact ⟨e,by rw [he] at U;rw [<-pV,<-U];rfl,rfl,(oO.trans m),bo⟩
       rintro x ly ⟨b,T1,eM,i11,vR,rfl,fO,m11,lu⟩;rw [vR] at U
       try simp only [bB] at U
       have u0:=oO.trans m11;have uJ:T1.length<dm.tail.length:=vg (ZX ab n 47 dm.tail) vR;have U5:=z7 O (m10.trans m11) (by have:=M2.next;omega);have J4:=fO.one;obtain ⟨ut,BE,x4,nB,m12,ahk,Wp⟩:=Ki U5 fO (lk O (m10.next)) (by have:=CH;have:=m10.next;omega) ((ao6 jf m10.next)) (m11.next) (by omega);have Di:=R.mod (m10.trans m11) (bT bX);have aa9:(ly.next=h.next)=False:=apl (by have:=Di.lt;omega);have AA:=iF.mod (m10.trans m11) (bT (by have:=cX.next;omega));have aa8:(ly.next=aT.next)=False:=apl (by have:=AA.lt;omega);have wh:=C.l1 lu m12 (by have:=M2.next;omega);have GB:=ot u0 m12 (by have:=M2.next;omega);have Ui:=n_ Di m12 (.inl (by have:=bz.lt;have:=m2.next;omega));have Uh:=AA.mod ahk ap;have anu:=fO.l1 m12 (ao1 _);have il:=nB.one;have s9:(l++[b]).length=l.length+1:=by simp<;>omega
       simp only [J4.1,J4.2.1,J4.2.2,x4,aa9,aa8,gx,mN,iq,C3,ct.1,ct.2.1,ct.2.2,il.1,il.2.1,il.2.2,↓aa,ad,simprocAttr];exact ⟨⟨Ui,Uh,fun z=>(Wp _ z).elim ap (fun z=>by rw [dk] at z;have:=CH;have:=(ao6 m10.next m11.next);omega),GB,((ao6 jf (ao6 m10.next (ao6 m11.next m12.next)))),m,_,_,_,nB,by rw [s9];have:=fx dC;omega,wh,U⟩,by rw [lH fS,lH wh];have:=fx dC;omega⟩
     | false=>
       simp only [dC,apd,ao2,apa,bB] at U iZ;rw [<-U] at pV;clear U a8;have U:=pV;have a8:=B7
       try simp only [bB] at U
       have U4:=z7 O m10 (by have:=M2.next;omega);have LJ:=iF.mod m10 (bT (by have:=cX.next;omega));have we:=R.mod m10 (bT bX);obtain ⟨ly,px⟩:∃g,iN.set (an aT.next) (.bc ([.int .i64 50,.int .i64 hL.length,.int .i64 (bG ab ws),.str gp.text,da]) 0 false)=g:=⟨_,rfl⟩;have AA:=LJ.put ([.int .i64 50,.int .i64 hL.length,.int .i64 (bG ab ws),.str gp.text,da]);rw [px] at AA;have Me:=we.set (m:=aT.next) (by have:=bz.lt;have:=(ao6 m2.next (ao6 m3.next m4.next));omega) (.bc ([.int .i64 50,.int .i64 hL.length,.int .i64 (bG ab ws),.str gp.text,da]) 0 false);rw [px] at Me;have lu:=C.box iZ (n:=aT.next) cX.next (.bc ([.int .i64 50,.int .i64 hL.length,.int .i64 (bG ab ws),.str gp.text,da]) 0 false)
       rw [px] at lu;have u0:=oO.set (b:=an aT.next) (fun o=>absurd o (dh cX.next)) (.bc ([.int .i64 50,.int .i64 hL.length,.int .i64 (bG ab ws),.str gp.text,da]) 0 false);rw [px] at u0;have qo:=ai9 U4 ap (.bc ([.int .i64 50,.int .i64 hL.length,.int .i64 (bG ab ws),.str gp.text,da]) 0 false) (by omega) 50 hL.length (bG ab ws) (le_top (C.fj gp xq));rw [px] at qo;have o:=qo.one;simp only [o.1,o.2.1,o.2.2,aY,vcs,bR,LJ.g,px,AA.g,Me.g,gx,mN,iq,C3,ct.1,ct.2.1,ct.2.2,↓aa,ad,simprocAttr];exact ⟨_,_,_,_,U.symm,rfl,(qo.box (by have:=m2.next;have:=bz.lt;omega) _).cO (by have:=M2.next;omega),u0.set (fun o=>absurd o (dh (ao1 _))) _,C.box lu (ao1 _) _⟩
 | false=>
   simp only [b_,apd,ao2,apa,bB] at U bx;simp only [↓aa,ad,simprocAttr];refine aX (hs bx sM) ?_;rintro x ar ⟨rfl,m3,i3,cq⟩;have cu:=M2.trans m3;cases eP:bb sM ws with
   | true=>
     simp only [eP,apd,ao2,apa,bB] at U cq;simp only [↓aa,ad,simprocAttr];have g4:ko ab (aU ab n) 51 ws.tail≠.error b7:=fun q=>by rw [q] at U;exact a8 U.symm
     refine cH (HC I 51 ws.tail ar aA i3 cq g4) ?_ ?_
     rotate_left
     . rintro x aT ⟨e,he,rfl,m,bo⟩;simp only [cF,aY,↓aa,ad,simprocAttr];exact ⟨e,by rw [he] at U;exact U.symm,rfl,(cu.trans m),bo⟩
     rintro x aT ⟨c,dj,ev,i4,cU,rfl,ef,m4,cf⟩;rw [cU] at U
     try simp only [bB] at U
     have cX:=cu.trans m4;have gX:=ef.one;obtain ⟨bC,ca,e7,iF⟩:=fq aT b8 (vcs c ev);have m5:Mod (b3 ak) aT bC:=e7.mod _;have cR:=cX.trans m5;have bV:=cf.ext e7;have tb:=ef.BD e7;obtain ⟨bA,cD⟩:∃g,bC.set (an aT.next) (.bc [.int .i64 c.k,.int .i64 c.n,.int .i64 (bG ab ws),.str c.s,ev] 0 false)=g:=⟨_,rfl⟩;have jN:=iF.put [.int .i64 c.k,.int .i64 c.n,.int .i64 (bG ab ws),.str c.s,ev];rw [cD] at jN;have cv:=C.box bV (n:=aT.next) cX.next (.bc [.int .i64 c.k,.int .i64 c.n,.int .i64 (bG ab ws),.str c.s,ev] 0 false)
     rw [cD] at cv;have de:Mod (b3 ak) h bA:=by rw [<-cD];exact cR.set (fun o=>absurd o (dh cX.next)) _
     have hY:=bz.mod (m2.trans (m3.trans (m4.trans m5))) (bT bX);have yt:=hY.set (m:=aT.next) (by have:=bz.lt;have:=(m2.trans (m3.trans m4)).next;omega) (.bc [.int .i64 c.k,.int .i64 c.n,.int .i64 (bG ab ws),.str c.s,ev] 0 false);rw [cD] at yt;have m6:Mod (fun b=>b=an aT.next) bC bA:=by rw [<-cD];exact (Mod.refl (fun b=>b=an aT.next) _).set (fun _=>rfl) _
     have re:=tb.set (b:=an aT.next) (fun q=>q.2 rfl) (.bc [.int .i64 c.k,.int .i64 c.n,.int .i64 (bG ab ws),.str c.s,ev] 0 false);rw [cD] at re;have qo:dq (Fr ar.next) bA (.mk c.k c.n (bG ab ws) c.s c.l) ev:=⟨re.c7.eW fun b q=>q.1,re.str⟩;have o:=qo.one;simp only [o.1,o.2.1,o.2.2,aY,vcs,bR,gX.1,gX.2.1,gX.2.2,ca,iF.g,cD,jN.g,yt.g,↓aa,ad,simprocAttr];exact ⟨_,_,_,_,U.symm,rfl,(qo.box (by have:=(ao6 m2.next m3.next);have:=bz.lt;omega) _).cO (by have:=cu.next;omega),de.set (fun o=>absurd o (dh (ao1 _))) _,C.box cv (ao1 _) _⟩
   | false=>
     simp only [eP,apd,ao2,apa,bB] at U cq;simp only [↓aa,ad,simprocAttr];refine cH (kR cq pk) ?_ ?_
     rotate_left
     . rintro x aT ⟨e,he,rfl,m,bo⟩;simp only [cF,aY,↓aa,ad,simprocAttr];exact ⟨e,by rw [he] at U;exact U.symm,rfl,(cu.trans m),bo⟩
     rintro x aT ⟨dj,cU,m4,i4,cf⟩;rw [cU] at U
     try simp only [bB] at U
     have cX:=cu.trans m4;simp only [↓aa,ad,simprocAttr];refine aX (hs cf oo) ?_;rintro x bC ⟨rfl,m5,i5,bV⟩;have cR:=cX.trans m5;cases ju:bb oo dj with
     | true=>
       simp only [ju,apd,ao2,apa,bB] at U bV;simp only [↓aa,ad,simprocAttr];have g6:(aU ab n).binds 0 [] dj.tail≠.error b7:=fun q=>by rw [q] at U;exact a8 U.symm
       refine cH (I.binds 0 dj.tail bC aA i5 bV g6) ?_ ?_
       rotate_left
       . rintro x bA ⟨e,he,rfl,m,bo⟩;simp only [cF,aY,↓aa,ad,simprocAttr];exact ⟨e,by rw [he] at U;exact U.symm,rfl,(cR.trans m),bo⟩
       rintro ul bA ⟨zK,jz,i6,ea,lY,Gf,m6,cv⟩;rw [ea] at U
       try simp only [bB] at U
       have de:=cR.trans m6;have ns:=lY.one;have qo:=rX lY (ao6 Gf (by decide)) 53 0 (bG ab ws) (s:=[]) (api _);have jl:=bz.mod (m2.trans (m3.trans (m4.trans (m5.trans m6)))) (bT bX);have o:=qo.one;simp only [o.1,o.2.1,o.2.2,aY,vcs,bR,jl.g,ns.1,ns.2.1,ns.2.2,↓aa,ad,simprocAttr];exact ⟨_,_,_,_,U.symm,rfl,(qo.box (by have:=(ao6 m2.next (ao6 m3.next (ao6 m4.next m5.next)));have:=bz.lt;omega) _).cO (by have:=cR.next;omega),de.set (fun o=>absurd o (dh (ao1 _))) _,C.box cv (ao1 _) _⟩
     | false=>
       simp only [ju,apd,ao2,apa,bB] at U bV;simp only [↓aa,ad,simprocAttr];have g6:(aU ab n).pat 0 dj≠.error b7:=fun q=>by rw [q] at U;exact a8 U.symm
       refine cH (I.pat 0 dj bC aA i5 bV g6) ?_ ?_
       rotate_left
       . rintro x bA ⟨e,he,rfl,m,bo⟩;simp only [cF,aY,↓aa,ad,simprocAttr];exact ⟨e,by rw [he] at U;exact U.symm,rfl,(cR.trans m),bo⟩
       rintro x bA ⟨p,jz,uN,i6,ea,rfl,oS,m6,cv⟩;rw [ea] at U
       try simp only [bB] at U
       have de:=cR.trans m6;have gn:=oS.one;obtain ⟨cd,dy,dI,r'⟩:=fq bA b8 (vcs p uN);have m7:Mod (b3 ak) bA cd:=dI.mod _;have ew:=de.trans m7;have eR:=cv.ext dI;simp only [gn.1,gn.2.1,gn.2.2,dy,↓aa,ad,simprocAttr];refine cH (kR eR gQ) ?_ ?_
       rotate_left
       . rintro x et ⟨e,he,rfl,m,bo⟩;simp only [cF,aY,↓aa,ad,simprocAttr];exact ⟨e,by rw [he] at U;exact U.symm,rfl,(ew.trans m),bo⟩
       rintro x et ⟨v_,hd,m8,i8,gj⟩;rw [hd] at U
       try simp only [bB] at U
       have g':=ew.trans m8;have s':=r'.mod m8 (bT (by have:=de.next;omega));simp only [s'.g,↓aa,ad,simprocAttr];have g9:(aU ab n).seq 0 v_≠.error b7:=fun q=>by rw [q] at U;exact a8 U.symm
       refine cH (I.seq 0 v_ et aA i8 gj g9) ?_ ?_
       rotate_left
       . rintro x fD ⟨e,he,rfl,m,bo⟩;simp only [cF,aY,s'.g,↓aa,ad,simprocAttr];exact ⟨rfl,e,by rw [he] at U;exact U.symm,rfl,(g'.trans m),bo⟩
       rintro x fD ⟨b,uR,eM,i9,py,rfl,fO,m9,fS⟩;rw [py] at U
       try simp only [bB] at U
       have ib:=g'.trans m9;have AD:=s'.mod m9 (bT (by have:=de.next;omega));have AW:=oS.mod (m7.trans (m8.trans m9)) (by have:=cR.next;omega);have xR:=AW.one;have xS:=fO.one;obtain ⟨iN,mf,u_,Gx⟩:=xF (F:=Fr bC.next) (h:=fD) (size:=5) rfl rfl AW.cs (fO.cO (ia:=bC.next) (by have:=(ao6 m6.next (ao6 m7.next m8.next));omega)).cs (ry (m6.trans (m7.trans (m8.trans m9))).next);simp only [vcs,apm,apx] at mf;have m10:Mod (b3 ak) fD iN:=u_.mod _;have oO:=ib.trans m10;have iZ:=fS.ext u_;have ef:=oy (l:=[p,b]) 52 0 (bG ab ws) [] Gx rfl (api _);have we:=bz.mod (m2.trans (m3.trans (m4.trans (m5.trans (m6.trans (m7.trans (m8.trans (m9.trans m10)))))))) (bT bX);have Gi:=AD.mod m10 (bT (by have:=de.next;omega));have o:=ef.one;simp only [o.1,o.2.1,o.2.2,aY,vcs,bR,xR.1,xR.2.1,xR.2.2,xS.1,xS.2.1,xS.2.2,mf,we.g,Gi.g,s'.g,AD.g,↓aa,ad,simprocAttr];exact ⟨_,_,_,_,U.symm,rfl,(ef.box (by have:=(ao6 m2.next (ao6 m3.next (ao6 m4.next m5.next)));have:=bz.lt;omega) _).cO (by have:=cR.next;omega),oO.set (fun o=>absurd o (dh (ao1 _))) _,C.box iZ (ao1 _) _⟩
end
theorem OX (t:aN):t.deep=kC t.l+1:=by cases t;simp only [aN.deep,aN.l]
theorem size_eq (t:aN):t.size=1+h8 t.l:=by cases t;simp only [aN.size,aN.l]
theorem Sn:∀l m:List aN,kC (l++m)=max (kC l) (kC m)
 | [],m=>by simp [kC]
 | t::l,m=>by rw [apm,kC,kC,Sn l m,Nat.max_assoc]
theorem Sx:∀l m:List aN,h8 (l++m)=h8 l+h8 m
 | [],m=>by simp [h8]
 | t::l,m=>by rw [apm,h8,h8,Sx l m,apU]
theorem take_one {l:List aN} {i:Nat} (h:i<l.length):l.take (i+1)=l.take i++[l[i]]:=by rw [List.take_succ_eq_append_getElem h]
theorem So {l:List aN} {i:Nat} (h:i<l.length):kC (l.take (i+1))=max (kC (l.take i)) l[i].deep:=by rw [take_one h,Sn,kC,kC,Nat.max_zero]
mutual
theorem aak:∀t:aN,t.deep<=t.size
 | .mk k n a s l=>by rw [aN.deep,aN.size];have:=Fu l;omega
theorem Fu:∀l:List aN,kC l<=h8 l
 | []=>ao1 _
 | t::l=>by rw [kC,h8];have:=aak t;have:=Fu l;omega
end
theorem Sz (l:List aN) (i:Nat):h8 (l.take i)<=h8 l:=by have:=Sx (l.take i) (l.drop i);rw [List.take_append_drop] at this;omega
theorem RD (a b:Nat):(if (a:Int) < (b:Int) then (b:Int) else (a:Int))=((max a b:Nat):Int):=by
 by_cases h:(a:Int) < (b:Int)
 . rw [ape h,Nat.max_eq_right (by omega)]
 . rw [ao_ h,Nat.max_eq_left (by omega)]
theorem OY:∀(N:Nat) (t:aN),t.size<=N->N<=1000000000->∀(aj:List V) (h:ah),eJ Any h t.enc aj->dW Tryz.prog 40 [.agg aj] h fun x af=>x=.int .i64 (t.deep:Nat)/\Ext h af
 | 0,t,al,_,_,_,_=>by have:=FA t;omega
 | N+1,t,al,acb,aj,h,H=>by
   obtain ⟨aA,rfl,L,_⟩:=aN.open H;have cP:N<=1000000000:=by omega
   have ol:=L.one;have aH:=L.len;have hle:=L.le;rw [apD] at aH hle;refine Yh.z rfl (cl ?_);unfold N0;obtain ⟨ae,ao,aP,bz⟩:=fU h [.int .i64 t.k,.int .i64 t.n,.int .i64 t.a,.str t.s,aA];simp only [ol.1,ol.2.1,ao,bz.g,aH,↓aa,ad,simprocAttr];refine gf (fun r g=>r 1=.ptr (an h.next) 0/\r 7=aA/\r 8=.int .i64 t.l.length/\∃i:Nat,r 3=.int .i64 (kC (t.l.take i):Nat)/\r 9=.int .i64 i/\i<=t.l.length/\Ext ae g) (fun r g=>t.l.length - (r 9).toN) ?_ ?_
   . exact ⟨by simp only [↓aa,cQ,simprocAttr],by simp only [↓aa,cQ,simprocAttr],by simp only [↓aa,cQ,simprocAttr],0,by simp only [↓aa,cQ,simprocAttr]<;>rfl,by simp only [↓aa,cQ,simprocAttr]<;>rfl,by omega,Ext.refl ae⟩
   rintro r g ⟨cL,e3,hd,i,bU,x7,aM,E⟩;have A:=bz.ext E;have Gy:=L.ext (aP.trans E);have jQ:=Sz t.l i;have pP:=Fu (t.l.take i);have acv:=size_eq t;by_cases a1:i<t.l.length
   . have g0:((i:Int) < (t.l.length:Int))=True:=apk (by omega);obtain ⟨b,off,wl,mF,X,Dy,ld⟩:=aN.E0 Gy (k:=.i64) a1;have JC:=ld g (Ext.refl g);have z6:=Dy.one;have lr:=uO a1 (by unfold top at hle;omega);have dS:=Sy (t:=t) (ap8 a1);obtain ⟨g1,e5,dp,B⟩:=fq g [.int .i64 0,.int .i64 0,.int .i64 0,.str [],.cS] [.int .i64 t.l[i].k,.int .i64 t.l[i].n,.int .i64 t.l[i].a,.str t.l[i].s,wl];simp only [cL,bU,e3,hd,x7,g0,mF,JC,e5,B.g,z6.1,z6.2.1,↓aa,ad,simprocAttr];refine aX (OY N t.l[i] (by omega) cP _ g1 (X.ext dp)) ?_;rintro x g2 ⟨rfl,bu⟩;have cT:=dp.trans bu;have hm:=RD (kC (t.l.take i)) t.l[i].deep;rw [<-So a1] at hm;simp only [cL,bU,e3,hd,x7,lr,JR,hm,↓aa,ad,simprocAttr];exact ⟨⟨i+1,rfl,rfl,a1,E.trans cT⟩,by omega⟩
   . have g0:((i:Int) < (t.l.length:Int))=False:=apl (by omega);rw [List.take_of_length_le (by omega)] at bU pP jQ;have wd:IntKind.i64.wrap ((kC t.l:Int)+1)=((t.deep:Nat):Int):=by rw [OX,wrap_i64 (by omega) (by omega)];rfl
     simp only [cL,bU,e3,hd,x7,g0,wd,↓aa,ad,simprocAttr];exact aP.trans E
theorem SJ:∀(N:Nat) (t:aN),t.size<=N->N<=1000000000->∀(aj:List V) (h:ah),eJ Any h t.enc aj->dW Tryz.prog 29 [.agg aj] h fun x af=>x=.int .i64 (t.deep:Nat)/\Ext h af
 | 0,t,al,_,_,_,_=>by have:=FA t;omega
 | N+1,t,al,acb,aj,h,H=>by
   obtain ⟨aA,rfl,L,_⟩:=aN.open H;have cP:N<=1000000000:=by omega
   have ol:=L.one;have aH:=L.len;have hle:=L.le;rw [apD] at aH hle;refine X'.z rfl (cl ?_);unfold NS;obtain ⟨ae,ao,aP,bz⟩:=fU h [.int .i64 t.k,.int .i64 t.n,.int .i64 t.a,.str t.s,aA];simp only [ol.1,ol.2.1,ao,bz.g,aH,↓aa,ad,simprocAttr];refine gf (fun r g=>r 1=.ptr (an h.next) 0/\∃i:Nat,r 3=.int .i64 (kC (t.l.take i):Nat)/\r 4=.int .i64 i/\i<=t.l.length/\Ext ae g) (fun r g=>t.l.length - (r 4).toN) ?_ ?_
   . exact ⟨by simp only [↓aa,cQ,simprocAttr],0,by simp only [↓aa,cQ,simprocAttr]<;>rfl,by simp only [↓aa,cQ,simprocAttr]<;>rfl,by omega,Ext.refl ae⟩
   rintro r g ⟨cL,i,bU,x7,aM,E⟩;have A:=bz.ext E;have Gy:=L.ext (aP.trans E);have jQ:=Sz t.l i;have pP:=Fu (t.l.take i);have acv:=size_eq t;by_cases a1:i<t.l.length
   . have g0:((i:Int) < (t.l.length:Int))=True:=apk (by omega);obtain ⟨b,off,wl,mF,X,Dy,ld⟩:=aN.E0 Gy (k:=.i64) a1;have JC:=ld g (Ext.refl g);have z6:=Dy.one;have lr:=uO a1 (by unfold top at hle;omega);have dS:=Sy (t:=t) (ap8 a1);simp only [cL,bU,x7,g0,A.g,aH,mF,JC,↓aa,ad,simprocAttr];refine aX (SJ N t.l[i] (by omega) cP _ g X) ?_;rintro x g2 ⟨rfl,bu⟩;have cT:=bu;have hm:=RD (kC (t.l.take i)) t.l[i].deep;rw [<-So a1] at hm;simp only [cL,bU,x7,lr,JR,hm,↓aa,ad,simprocAttr];exact ⟨⟨i+1,rfl,rfl,a1,E.trans cT⟩,by omega⟩
   . have g0:((i:Int) < (t.l.length:Int))=False:=apl (by omega);rw [List.take_of_length_le (by omega)] at bU pP jQ;have wd:IntKind.i64.wrap ((kC t.l:Int)+1)=((t.deep:Nat):Int):=by rw [OX,wrap_i64 (by omega) (by omega)];rfl
     simp only [cL,bU,A.g,aH,x7,g0,wd,↓aa,ad,simprocAttr];exact aP.trans E
section
variable {W:List aq} {ab ak n d:Nat} {ws:List aq} {r:bH (List aq)}
def GQ (s:List UInt8) (h:ah) (x:V) (af:ah):Prop:=Ext h af/\match lo s with
 | .ok l=>∃v,x=.tuple [v,.agg [.int .i64 0,.int .i64 0]]/\fw (Fr h.next) af 5 (l.map aN.enc) v/\l.length<=65536
 | .error e=>x=.tuple [.cS,.agg [.int .i64 e.1,.int .i64 (e.2:Nat)]]
theorem HF {s:List UInt8} {bq:bH (List aq)} (E:bq=(r >>= ec ab s)):∀w',bq=.ok w'->∃w,r=.ok w/\w'.length<w.length:=by
 rintro w' rfl;cases r with
 | error e=>cases E
 | ok w=>exact ⟨w,rfl,zS (ab:=ab) E.symm⟩
theorem JT {ak n:Nat} (h:n<ak):¬b3 ak (an n):=fun z=>by have Dh:an n=an ak:=z;rw [lN] at Dh;omega
theorem akW (s:List UInt8) (h:ah):dW Tryz.prog 10 [.str s] h (GQ s h):=by
 have dY:=Sk s;unfold GQ;generalize a8:lo s=res at dY ⊢;refine W2.z rfl (cl ?_);unfold MH;obtain ⟨ae,ao,aP,bz⟩:=fU h [.int .i64 0,.int .i64 0];simp only [ao,↓aa,ad,simprocAttr];refine aX (akF s ae) ?_;rintro x ag ⟨bu,au⟩;have ft:=bz.ext bu;have fZ:=aP.next
 have lI:=bu.next
 have a1:=bz.lt;cases aH:iS s with
 | error e=>
   rw [aH] at au;have he:=JE aH;have U:res=.error e:=by rw [<-a8];unfold lo;rw [aH]
   subst au;obtain ⟨ar,aC,cT,fl⟩:=fq ag [.int .i64 0,.int .i64 0] [.int .i64 e.1,.int .i64 (e.2:Nat)];have Dk:=ft.ext cT;have AH:=Dk.put [.int .i64 e.1,.int .i64 (e.2:Nat)];have f0:(e.1=0)=False:=apl (by omega);simp only [aC,fl.g,Dk.g,AH.g,f0,aY,↓aa,ad,simprocAttr];rw [U];exact ⟨(aP.trans (bu.trans cT)).set (ao1 _) _,rfl⟩
 | ok W=>
   rw [aH] at au;obtain ⟨v,rfl,S⟩:=au;obtain ⟨g1,g2,g3,g4⟩:=Rr aH;have U:mr s.length (aU s.length (ha W)) (ha W) [] W=res:=by rw [<-a8];unfold lo;rw [aH]
   have yb:=S.v.one;obtain ⟨ar,aC,cT,fl⟩:=fq ag [.int .i64 0,.int .i64 0] [.int .i64 0,.int .i64 0];have Dk:=ft.ext cT;obtain ⟨aT,bs,cN,eF⟩:=fU ar [v,.int .i64 (0:Nat),.int .i64 s.length,.int .i64 (0:Nat),.int .i64 0,.int .i64 0];simp only [Int.natCast_zero] at bs;simp only [aC,fl.g,bs,yb.1,yb.2.1,yb.2.2,↓aa,ad,simprocAttr];have uS:Ext h aT:=aP.trans (bu.trans (cT.trans cN));have n3:=cT.next
   have n4:=eF.lt;have Mh:=(S.ext cT);have cf:dw W s.length ar.next aT v (.ok W) 0:=⟨0,⟨eF,(Mh.ext cN).v,fun q=>dh (ao1 _) (Mh.v.cr q),api _,by omega,fun w hw=>by have:=(FI (g3 w hw).2).2.2;omega,fun w hw=>(FI (g3 w hw).2).2.1⟩,by rw [apT],by omega⟩
   refine gf (fun r g=>r 3=.ptr (an h.next) 0/\r 6=.ptr (an ar.next) 0/\Ext h g/\Has g h.next [.int .i64 0,.int .i64 0]/\aT.next<=g.next/\∃m l rg,dz aT.next (Fr aT.next) g 5 (List.map aN.enc l) (r 7)/\l.length<=65537/\(∀w,rg=.ok w->l.length+w.length<=W.length)/\dw W s.length ar.next g v rg 0/\(rg >>= fun ws=>mr s.length (aU s.length (ha W)) m l ws)=res) (fun _ g=>mI W ar.next g) ?_ ?_
   . exact ⟨by simp only [↓aa,cQ,simprocAttr],by simp only [↓aa,cQ,simprocAttr],uS,Dk.ext cN,ao1 _,ha W,[],.ok W,by simp only [↓aa,cQ,simprocAttr];exact dz.nil _ _ _ _,by simp,fun w e=>by cases e;simp,cf,U⟩
   clear U;rintro r g ⟨z3,kj,X,A,aF,m,l,rg,O,mB,jc,C,U⟩;have ol:=O.one;simp only [kj,↓aa,ad,simprocAttr];refine bQ (jO C) ?_;cases rg with
   | error e=>
     have au:res=.error e:=U.symm;have fo:=C;obtain ⟨he,i,dE,G⟩:=fo;simp only [kr,kj,↓aa,ad,simprocAttr];refine bQ (jO C) ?_;have jA:=A.put [.int .i64 e.1,.int .i64 (e.2:Nat)];simp only [kr,z3,kj,G.at_.g,A.g,jA.g,aY,↓aa,ad,simprocAttr];rw [au];exact ⟨X.set (ao1 _) _,rfl⟩
   | ok ws=>
     have fo:=C;obtain ⟨i,G,SG,_⟩:=fo;cases ws with
     | nil=>
       have f0:((i:Int) < (W.length:Int))=False:=apl (by have:=congrArg List.length SG;simp only [aph,apr] at this;omega);cases m with
       | zero=>exact (dY U.symm).elim
       | succ m=>
       replace U:mr s.length (aU s.length (ha W)) (m+1) l []=res:=U;simp only [mr,apd] at U;simp only [j6,kj,G.at_.g,G.len,f0,↓aa,ad,simprocAttr];refine bQ (jO C) ?_;have jA:=A.put [.int .i64 0,.int .i64 0];simp only [j6,z3,kj,ol.1,ol.2.1,ol.2.2,A.g,jA.g,aY,↓aa,ad,simprocAttr];rw [<-U];refine ⟨X.set (ao1 _) _,_,rfl,?_,by have:=jc _ rfl;omega⟩;exact (uv (Fp O (n:=h.next) (by omega) (.bc [.int .i64 0,.int .i64 0] 0 false)) (by omega)).eW fun b q=>ao6 (by omega) q
     | cons aB rest=>
       have f0:((i:Int) < (W.length:Int))=True:=apk (by have:=congrArg List.length SG;simp only [ao9,apr] at this;omega);cases m with
       | zero=>exact (dY U.symm).elim
       | succ m=>
       replace U:mr s.length (aU s.length (ha W)) (m+1) l (aB::rest)=res:=U;simp only [mr,reduceCtorEq,apa] at U;simp only [j6,kj,G.at_.g,G.len,f0,↓aa,ad,simprocAttr];refine aX (aad (Sm W s.length ar.next _ _ (ao1 (ha W))) m 0 rfl (aB::rest) g v C (fun w e q=>by cases e;rw [q] at U;exact dY U.symm)) ?_;rintro x dr ⟨p,uN,bf,bY,rfl,gJ,m2,bx⟩;replace U:=e_ (r:=.ok (aB::rest)) (f:=kK s.length (aU s.length (ha W)) m) U bY
       try dsimp only at U
       have bL:=(cE.start C).eO m2 bx gJ;have fm:=gJ.one;obtain ⟨dZ,ca,bl⟩:=bL.st b8 (vcs p uN);simp only [fm.1,fm.2.1,fm.2.2,ca,kj,↓aa,ad,simprocAttr];refine bQ (jO bl.C) ?_;have Gp:∀w,bf=.ok w->w.length < (aB::rest).length:=fun w e=>by subst e;have:=H9 (HD (bY:kK _ _ _ _=.ok (p,w)));have:=FA p;simp only [h8,ao9,aph] at *;omega
       cases bf with
       | error e=>
         replace U:=k4 U;simp only [kr,bl.a'.g,fm.1,fm.2.1,fm.2.2,kj,↓aa,ad,simprocAttr];refine aX (iB bl.C j0) ?_;rintro x jH ⟨m5,b4,eY,bV⟩;have bO:=bl.call m5 bV;have lX:=hv O bO.M (by omega) (by omega);obtain ⟨v6,hU,cD,wu,lG,_,_⟩:=pt lX (bO.bj.eW (eZ:=Fr g.next) fun b q=>q.1) (lk O (ao1 _)) aF bO.M.next (by omega)
         have cv:dw W s.length ar.next hU v b4 0:=cf.own bO.C lG (fun b q=>q.1)
         have jN:=n_ (A.mod bO.M (JT (by omega))) lG (.inl (by omega));have AY:Ext h hU:=((X.lg bO.M (fun b q=>by rw [show b=an ar.next from q,dk];omega)).lg lG (fun b q=>ao6 (by omega) q.1));have key:∀w,b4=.ok w->w.length+1 < (aB::rest).length:=fun w e=>by obtain ⟨x,bu,au⟩:=HF eY w e;cases bu
         have qC:=jc _ rfl;simp only [bO.a'.g,fm.1,fm.2.1,fm.2.2,cD,z3,kj,↓aa,ad,simprocAttr];refine ⟨⟨AY,jN,ao6 aF (ao6 bO.M.next lG.next),m,l++[p],b4,wu,by rw [apb,aps];simp only [ao9] at qC;omega,fun w e=>by have:=key w e;rw [apb,aps];omega,cv,?_⟩,sS C cv fun w e=>by have:=key w e;omega⟩;rw [eY];exact U.symm
       | ok bt=>
         replace U:=hp U;have Af:=HD (bY:kK _ _ _ _=.ok (p,bt));have dS:=OT Af;obtain ⟨b9,cL,By,xj⟩:=OS Af;simp only [j6,bl.a'.g,fm.1,fm.2.1,fm.2.2,↓aa,ad,simprocAttr];refine aX (SJ _ p (ao1 _) (by have:=C.qf;omega) _ dZ (bl.bj.cs.eW fun _ _=>trivial)) ?_;rintro x hT ⟨rfl,yU⟩;have a7:=bl.ext yU;by_cases a_:200<p.deep
         . have g0:(200 < (p.deep:Int))=True:=apk (by omega);rw [ape a_,xj,ao8] at U;have Um:=a7.C;obtain ⟨i4,Gt,_,_⟩:=Um;obtain ⟨fP,FC⟩:∃fP,fP=hT.set (an ar.next) (.bc [v,.int .i64 i4,.int .i64 s.length,.int .i64 (0:Nat),.int .i64 271,.int .i64 (b9.pos:Nat)] 0 false):=⟨_,rfl⟩;have Un:dw W s.length ar.next fP v (.error (271,b9.pos)) 0:=by rw [FC];exact ⟨RU,i4,_,Gt.put (0:Nat) 271 (b9.pos:Nat) Gt.le⟩
           have m4:Mod (b3 ar.next) hT fP:=by rw [FC];exact (Mod.refl (b3 ar.next) hT).set (fun _=>rfl) _
           have L5:=a7.call m4 Un;have Mv:Has hT dr.next [.int .i64 p.k,.int .i64 p.n,.int .i64 (b9.pos:Nat),.str p.s,uN]:=by rw [<-xj];exact a7.a'
           try simp only [Int.natCast_zero] at FC
           simp only [g0,kj,Mv.g,Gt.at_.g,<-FC,↓aa,ad,simprocAttr];refine aX (iB L5.C j0) ?_;rintro x jH ⟨m5,b4,eY,bV⟩;have bO:=L5.call m5 bV;have lX:=hv O bO.M (by omega) (by omega);obtain ⟨v6,hU,cD,wu,lG,_,_⟩:=pt lX (bO.bj.eW (eZ:=Fr g.next) fun b q=>q.1) (lk O (ao1 _)) aF bO.M.next (by omega)
           have cv:dw W s.length ar.next hU v b4 0:=cf.own bO.C lG (fun b q=>q.1)
           have jN:=n_ (A.mod bO.M (JT (by omega))) lG (.inl (by omega));have AY:Ext h hU:=((X.lg bO.M (fun b q=>by rw [show b=an ar.next from q,dk];omega)).lg lG (fun b q=>ao6 (by omega) q.1));have key:∀w,b4=.ok w->w.length+1 < (aB::rest).length:=fun w e=>by obtain ⟨x,bu,au⟩:=HF eY w e;cases bu
           have qC:=jc _ rfl;simp only [bO.a'.g,fm.1,fm.2.1,fm.2.2,cD,z3,kj,↓aa,ad,simprocAttr];refine ⟨⟨AY,jN,ao6 aF (ao6 bO.M.next lG.next),m,l++[p],b4,wu,by rw [apb,aps];simp only [ao9] at qC;omega,fun w e=>by have:=key w e;rw [apb,aps];omega,cv,?_⟩,sS C cv fun w e=>by have:=key w e;omega⟩;rw [eY];exact U
         . have g0:(200 < (p.deep:Int))=False:=apl (by omega);rw [ao_ a_] at U;simp only [g0,a7.a'.g,fm.1,fm.2.1,fm.2.2,kj,↓aa,ad,simprocAttr];refine aX (iB a7.C j0) ?_;rintro x jH ⟨m5,b4,eY,bV⟩;have bO:=a7.call m5 bV;have lX:=hv O bO.M (by omega) (by omega);obtain ⟨v6,hU,cD,wu,lG,_,_⟩:=pt lX (bO.bj.eW (eZ:=Fr g.next) fun b q=>q.1) (lk O (ao1 _)) aF bO.M.next (by omega)
           have cv:dw W s.length ar.next hU v b4 0:=cf.own bO.C lG (fun b q=>q.1)
           have jN:=n_ (A.mod bO.M (JT (by omega))) lG (.inl (by omega));have AY:Ext h hU:=((X.lg bO.M (fun b q=>by rw [show b=an ar.next from q,dk];omega)).lg lG (fun b q=>ao6 (by omega) q.1));have key:∀w,b4=.ok w->w.length+1 < (aB::rest).length:=fun w e=>by obtain ⟨x,bu,au⟩:=HF eY w e;have:=Gp x bu;omega
           have qC:=jc _ rfl;simp only [bO.a'.g,fm.1,fm.2.1,fm.2.2,cD,z3,kj,↓aa,ad,simprocAttr];refine ⟨⟨AY,jN,ao6 aF (ao6 bO.M.next lG.next),m,l++[p],b4,wu,by rw [apb,aps];simp only [ao9] at qC;omega,fun w e=>by have:=key w e;rw [apb,aps];omega,cv,?_⟩,sS C cv fun w e=>by have:=key w e;omega⟩;exact i_ (r:=.ok bt) U eY
end
theorem S':∀(N:Nat),(∀(t:aN),2 * t.size<N->∀(aj ws:List V) (h:ah),eJ Any h t.enc aj->eJ Any h t.enc ws->dW Tryz.prog 31 [.agg aj,.agg ws] h fun x af=>x=.bool true/\Ext h af)/\
 (∀(l:List aN),2 * h8 l+1<N->∀(v w:V) (h:ah),fw Any h 5 (l.map aN.enc) v->fw Any h 5 (l.map aN.enc) w->dW Tryz.prog 11 [v,w] h fun x af=>x=.bool true/\Ext h af)
 | 0=>⟨fun t q=>by omega,fun l q=>by omega⟩
 | N+1=>by
   obtain ⟨aej,aek⟩:=S' N;refine ⟨fun t al aj ws h H e0=>?_,fun l al v w h L oM=>?_⟩
   . obtain ⟨aA,rfl,L,_⟩:=aN.open H;obtain ⟨wl,rfl,oM,_⟩:=aN.open e0;have dS:=size_eq t;have ol:=L.one;have z6:=oM.one;refine Ya.z rfl (cl ?_);unfold NU;obtain ⟨ae,ao,aP,bz⟩:=fU h [.int .i64 t.k,.int .i64 t.n,.int .i64 t.a,.str t.s,aA];obtain ⟨ag,av,bu,ft⟩:=fU ae [.int .i64 t.k,.int .i64 t.n,.int .i64 t.a,.str t.s,wl];have qg:=bz.ext bu;simp only [ol.1,ol.2.1,z6.1,z6.2.1,ao,av,qg.g,ft.g,aqn,↓aa,ad,simprocAttr];refine aX (aek t.l (by omega) aA wl ag (L.ext (aP.trans bu)) (oM.ext (aP.trans bu))) ?_;rintro x ar ⟨rfl,cT⟩;simp only [↓aa,ad,simprocAttr];exact (aP.trans bu).trans cT
   . have aH:=L.len;have nI:=oM.len;have hle:=L.le;rw [apD] at aH hle nI;refine Xb.z rfl (cl ?_);unfold MS;simp only [aH,nI,↓aa,ad,simprocAttr];refine gf (fun r g=>r 0=v/\r 1=w/\∃i:Nat,r 5=.int .i64 i/\i<=l.length/\Ext h g) (fun r g=>l.length - (r 5).toN) ?_ ?_
     . exact ⟨by simp only [↓aa,cQ,simprocAttr],by simp only [↓aa,cQ,simprocAttr],0,by simp only [↓aa,cQ,simprocAttr]<;>rfl,by omega,Ext.refl h⟩
     rintro r g ⟨aW,cL,i,b4,aM,E⟩;by_cases a1:i<l.length
     . have g0:((i:Int) < (l.length:Int))=True:=apk (by omega);obtain ⟨b,off,ul,mF,X,Dy,ld⟩:=aN.E0 (L.ext E) (k:=.i64) a1;obtain ⟨df,aow,aoG,aeh,Vt,anx,Rd⟩:=aN.E0 (oM.ext E) (k:=.i64) a1;have d1:=ld g (Ext.refl g);have d2:=Rd g (Ext.refl g);have lr:=uO a1 (by unfold top at hle;omega);have dS:=Kz (ap8 a1);simp only [aW,cL,b4,aH,g0,mF,aeh,d1,d2,↓aa,ad,simprocAttr];refine aX (aej l[i] (by omega) _ _ g X Vt) ?_;rintro x g2 ⟨rfl,bu⟩;have d3:=ld g2 bu;have d4:=Rd g2 bu;simp only [aW,cL,b4,lr,d1,d2,d3,d4,↓aa,ad,simprocAttr];exact ⟨⟨i+1,rfl,a1,E.trans bu⟩,by omega⟩
     . have g0:((i:Int) < (l.length:Int))=False:=apl (by omega);simp only [aW,cL,b4,aH,g0,↓aa,ad,simprocAttr];exact E
theorem K0 (l:List aN) (v w:V) (h:ah) (L:fw Any h 5 (l.map aN.enc) v) (oM:fw Any h 5 (l.map aN.enc) w):dW Tryz.prog 11 [v,w] h fun x af=>x=.bool true/\Ext h af:=(S' _).2 l (Nat.lt_succ_self _) v w h L oM
def Be:cc:=
 cc.seq (cc.seq (cc.cz [⟨(some 6),.gO (.t 2),none,[2]⟩,
  ⟨(some 7),.bin (.l2 false 5) (.t 6) (.c .nilIface),none,[6]⟩])
  (cc.cond (.t 7)
   (cc.ret)
   (cc.skip)))
 (cc.seq (cc.cz [⟨(some 9),.gO (.t 2),none,[2]⟩,
   ⟨(some 10),.yJ 54 (some (.agg [(.int .i64 0),(.int .i64 0)])) true (.t 9),none,[9]⟩,
   ⟨(some 8),.gO (.t 10),none,[10]⟩,
   ⟨(some 11),.ext (.t 8) 0,none,[8]⟩,
   ⟨(some 12),.ext (.t 8) 1,none,[8]⟩,
   ⟨(some 3),.new [(.int .i64 0),(.int .i64 0)],none,[]⟩,
   ⟨none,.st 2 (.t 3) (.t 11),none,[3,11]⟩,
   ⟨(some 4),.gO (.t 12),none,[12]⟩])
 (cc.seq (cc.seq (cc.cz [⟨(some 13),.gO (.t 4),none,[4]⟩,
   ⟨(some 14),.un .not (.t 13),none,[13]⟩])
  (cc.cond (.t 14)
   (cc.cz [⟨(some 15),.gO (.t 2),none,[2]⟩,
     ⟨none,.f' (.t 15),none,[15]⟩])
   (cc.skip)))
 (cc.draw [⟨(some 16),.iM 0 (.t 3),none,[3]⟩,
   ⟨(some 17),.lb 2 (.t 16),none,[16]⟩,
   ⟨none,.st 1 (.t 0) (.c .cS),none,[0]⟩,
   ⟨none,.st 2 (.t 1) (.t 17),none,[1,17]⟩] [(1,[2,3])] [] [])))
theorem XW:((Tryz.f22.body.bind C2).map fun s=>(s.d,s.e,rx s.x,fQ Tryz.prog 18 s.rest))=some (5,2,.t 5,Be):=by kernel_rfl
theorem XV:(Tryz.f22.ntmps,jW Tryz.prog 18 Tryz.f22.results.toList,Be.plain)=(18,[],true):=by kernel_rfl
theorem SM {args:List V} {u:Option V} {h:ah} {K:Option V->ah->Prop} (aH:Nat.ble args.length 18=true)
 (H:gy Tryz.prog Be (((a6.bc args).set (some 5) (u.getD .nilIface)).set (some 2) (u.getD .nilIface)) h fun e r af=>e.ends/\∃aj,hz r af []=some aj/\K none af):pE Tryz.prog 22 args u h K:=by
 have q:=XW;have av:=XV;simp only [apX] at av;obtain ⟨fZ,lI,n3⟩:=av;cases ai:Tryz.f22.body with
 | none=>rw [ai] at q;cases q
 | some c=>
   rw [ai] at q;cases al:C2 c with
   | none=>simp only [Option.bind_some,al,Option.map_none] at q;cases q
   | some nt=>
     simp only [Option.bind_some,al,apZ,ao4,apX] at q;obtain ⟨d1,d2,d3,d4⟩:=q;refine Z_ follows zV Tryz.func22 ai (by rw [fZ];exact (by decide:Nat.ble 18 top=true)) (by rw [fZ];exact aH) al (by rw [fZ,d1,d2];exact (by decide:(hr 18 (some 5)&&hr 18 (some 2))=true)) (by first | exact d4 | (rw [fZ];exact d4)) (by first | (rw [fZ];exact lI) | exact lI) n3 ?_;unfold C1;rw [d1,d2,d3];exact H
theorem aaV:(fu.l2 false 5).run Tryz.prog .nilIface .nilIface=some (.bool true):=by kernel_rfl
theorem aaW (v:V):(fu.l2 false 5).run Tryz.prog (.iface 54 v) .nilIface=some (.bool false):=rfl
theorem Wb (z v:V):wD 54 (some z) true (.iface 54 v)=some (.tuple [v,.bool true]):=rfl
theorem ahR {a b:Nat} {h:ah}:pE Tryz.prog 22 [.ptr (an a) 0,.ptr (an b) 0] none h fun fy af=>fy=none/\af=h:=by refine SM rfl (cl ?_);unfold Be;simp only [Option.getD,aaV,↓aa,ad,simprocAttr]
theorem Lh {a b:Nat} {h:ah} {x y z:V} (e:Int × Nat) (A:Has h a [x]) (B:Has h b [y,z]) (aco:a≠b):pE Tryz.prog 22 [.ptr (an a) 0,.ptr (an b) 0] (some (cF e)) h fun fy af=>fy=none/\∃g,Ext h g/\af=(g.set (an a) (.bc [.cS] 0 false)).set (an b) (.bc [.int .i64 e.1,.int .i64 (e.2:Nat)] 0 false):=by refine SM rfl (cl ?_);unfold Be;obtain ⟨ae,ao,aP,bz⟩:=fq h [.int .i64 0,.int .i64 0] [.int .i64 e.1,.int .i64 (e.2:Nat)];have jA:=A.ext aP;have ia:=B.ext aP;have Ue:=ia.set (m:=a) aco.symm (.bc [.cS] 0 false);have iM:(a=h.next)=False:=apl (by have:=A.lt;omega);have D_:(b=h.next)=False:=apl (by have:=B.lt;omega);simp only [iM,D_,Option.getD,cF,aaW,aeF,Wb,ao,bz.g,jA.g,Ue.g,↓aa,ad,simprocAttr];exact ⟨ae,aP,rfl⟩
section
variable {B hl:Nat} {G F:aO->Prop} {h:ah} {size:Nat} {es:List (List D)} {v da:V} {l:List aN} {p:aN}
theorem alD (a u c:List V) (h:u.length=c.length):kh (a++u) a.length c=a++c:=by unfold kh;rw [List.take_left,apI (by rw [apb];omega),apo]
theorem ai6 {ds ek:List D} {cs:List V} (H:dz B G h size (es++[ek]) v) (E:eJ (fun b=>G b/\¬v.bn b) h ds cs) (jF:cs.length=size):
 ∃b off af,mG size v (.int .i64 es.length)=some (.ptr b off)/\v.bn b/\q' size h (.ptr b off) (.agg cs)=some af/\dz B G af size (es++[ds]) v/\Mod v.bn h af:=by
 obtain ⟨us,a,b,c,d⟩:=H.ex;rw [apb,aps] at b a;have EP:es.length<us.length:=by omega
 obtain ⟨v8,nw,rfl⟩:∃v8 nw,us=v8++[nw]:=⟨us.take es.length,us[es.length],by have:=List.take_append_drop es.length us;rw [apB EP,apI (by omega)] at this;exact this.symm⟩;have EO:v8.length=es.length:=by simpa using b
 have adY:nw.length=size:=c nw (by simp);have tJ:v8.flatten.length=es.length * size:=by
  rw [<-EO];have:∀l:List (List V),(∀u ∈ l,u.length=size)->l.flatten.length=l.length * size:=by
   intro l
   induction l with
   | nil=>intro _;simp
   | cons x l b6=>intro bM;rw [aqb,apb,b6 fun u hu=>bM u (apQ _ hu),bM x (ap6 ..),ao9,apW];omega
  exact this v8 fun u hu=>c u (by simp [hu])
 obtain ⟨cp,off,af,ao,av,aC,bs,ca⟩:=a.put (k:=.i64) (i:=es.length) (by omega) (y:=.agg cs) jF E.hE;refine ⟨cp,_,af,ao,av,aC,⟨v8++[cs],?_,by simp [EO],?_,?_⟩,ca⟩
 . rw [apb,aps];have aP:kh (v8++[nw]).flatten (es.length * size) (V.agg cs).cells=(v8++[cs]).flatten:=by
    rw [<-tJ,aqF,aqF,List.flatten_singleton,List.flatten_singleton];exact alD _ _ _ (by rw [adY];exact jF.symm)
   rw [aP] at bs;exact bs
 . intro u hu;rcases aqL.1 hu with hu | hu
   . exact c u (by simp [hu])
   . rw [ap2] at hu;subst hu;exact jF
 . intro i e u aP bu;have h4:∀b,(G b/\¬v.bn b)->Old h b->¬v.bn b/\(G b/\¬v.bn b):=fun b q _=>⟨q.2,q⟩;rcases y7 aP with ⟨ae,aP⟩ | ⟨ae,rfl⟩
   . rcases y7 bu with ⟨ag,bu⟩ | ⟨ag,rfl⟩
     . exact (d i e u (by rw [apC ae];exact aP) (by rw [apC ag];exact bu)).mod ca h4
     . omega
   . rcases y7 bu with ⟨ag,bu⟩ | ⟨ag,rfl⟩
     . omega
     . exact E.mod ca h4
def T3:aN:=.mk 0 0 0 [] []
theorem anf (F:aO->Prop) (h:ah):eJ F h T3.enc b8:=(iV F h 0 0 0 (api _)).cs
theorem ai' (O:dz B (Fr B) h 5 (l.map aN.enc) da) (P:dq (Fr hl) h p v) (b0:∀b,da.bn b->dP b<hl) (Jg:∀b,Fr hl b->Old h b->True) (cj:B<=hl) (wY:hl<=h.next) (aH:l.length<=3000000):
 ∃ez ae b off ag,l0 5 da (.slice (an h.next) 0 1 1) (h.new (.bc b8 0 false))=.val ez ae/\Mod da.bn h ae/\mG 5 ez (.int .i64 l.length)=some (.ptr b off)/\ez.bn b/\q' 5 ae (.ptr b off) (.agg (vcs p v))=some ag/\dz B (Fr B) ag 5 ((l++[p]).map aN.enc) ez/\
  Mod (fun b=>da.bn b) h ag/\(∀b,ez.bn b->da.bn b\/h.next<dP b):=by
 obtain ⟨ez,ae,ao,av,aC,bs,ca⟩:=O.add (ds:=T3.enc) (cs:=b8) (anf _ _) (by decide) (ao6 cj wY) (by rw [apD];unfold top;omega) rfl
 have ai:∀b,Fr hl b/\Old h b->Fr B b/\¬ez.bn b:=fun b q=>⟨ao6 cj q.1,fun z=>by
  rcases ca b z with z | z
  . have:=b0 b z;have:=q.1;unfold Fr at this;omega
  . have:=q.2;unfold Old at this;omega⟩
 have E:eJ (fun b=>Fr B b/\¬ez.bn b) ae p.enc (vcs p v):=(P.cr.cs.mod aC (eZ:=fun b=>Fr hl b/\Old h b) fun b q o=>⟨fun z=>by have:=b0 b z;have:=q.1;unfold Fr at this;omega,q⟩).eW ai;obtain ⟨b,off,ag,ck,c0,e2,ke,p9⟩:=ai6 av E rfl;rw [apD] at ck;refine ⟨ez,ae,b,off,ag,ao,aC,ck,c0,e2,by rw [aqH];exact ke,⟨ao6 aC.next p9.next,fun c o n=>?_⟩,ca⟩;refine (p9.get c (aC.cr o) fun z=>?_).trans (aC.get c o n);rcases ca c z with z | z
 . exact n z
 . unfold Old at o;omega
end
section
variable {W:List aq} {ab ak:Nat} {h af:ah} {d:Nat} {ws:List aq} {aA:V} {i hl:Nat} {p:aN} {v:V}
theorem aal (C:ed W ab ak h d ws aA i) (P:dq (Fr hl) h p v) (dS:p.size<=1000000000) {a0:Nat} (b1:p.a=(a0:Nat)) (aG:kI W ab (271,a0)):j2 Tryz.prog 24 [.ptr (an ak) 0,.agg (vcs p v)] h (fun x af=>p.deep<=200/\Ext h af) (fun x af=>200<p.deep/\tk (α:=Unit) W ab ak h (.error (271,a0)) x af):=by
 refine X4.x rfl (cl ?_);unfold NN;have o:=P.one;obtain ⟨ae,ao,aP,bz⟩:=fU h (vcs p v);have U':=P.ext aP;simp only [o.1,o.2.1,o.2.2,ao,bz.g,↓aa,ad,simprocAttr];refine aX (OY 1000000000 p dS (ao1 _) _ ae (U'.cs.eW fun _ _=>trivial)) ?_;rintro x ag ⟨rfl,bu⟩;have ft:=bz.ext bu;have bx:=(C.ext aP).ext bu;by_cases a_:200<p.deep
 . have f0:((200:Int) < (p.deep:Int))=True:=apk (by omega);simp only [f0,ft.g,b1,↓aa,ad,simprocAttr];refine cH (A7 (α:=Unit) bx 271 a0 aG) (fun _ _ q=>q.elim) ?_;rintro x ar ⟨e,he,rfl,m3,bo⟩;cases he;simp only [cF,aY,↓aa,ad,simprocAttr];exact ⟨a_,(271,a0),rfl,rfl,((aP.trans bu).mod _).trans m3,bo⟩
 . have f0:((200:Int) < (p.deep:Int))=False:=apl (by omega);simp only [f0,aY,↓aa,ad,simprocAttr];exact ⟨by omega,aP.trans bu⟩
end
def GM (s:List UInt8) (h:ah) (x:V) (af:ah):Prop:=Ext h af/\match lo s with
 | .ok l=>∃v,x=.tuple [v,.agg [.int .i64 0,.int .i64 0]]/\fw (Fr h.next) af 5 (l.map aN.enc) v/\l.length<=65536
 | .error e=>x=.tuple [.cS,.agg [.int .i64 e.1,.int .i64 (e.2:Nat)]]/\∀W,iS s=.ok W->kI W s.length e
theorem nN {ak n:Nat} (h:n<ak):¬b3 ak (an n):=fun z=>by have Dh:an n=an ak:=z;rw [lN] at Dh;omega
theorem K5:(2=iu)=False:=apl (by decide)
theorem K6:(3=iu)=False:=apl (by decide)
theorem aap {cs xs:List V} {s:V}:wL (.func 22 cs) xs s=some (.tuple (.func 22 (xs++cs)::s.list)):=O0 (show Nat.beq 22 eA=false by decide)
theorem Kp (s:List UInt8) (h:ah):dW Tryz.prog 9 [.str s] h (GM s h):=by
 have dY:=Sk s;unfold GM;generalize a8:lo s=res at dY ⊢;refine j2.Z0 (YZ.x rfl (cl ?_));unfold Oz;obtain ⟨ae,ao,aP,bz⟩:=fU h [.cS];obtain ⟨ag,av,bu,ft⟩:=fU ae [.int .i64 0,.int .i64 0];simp only [ao,av,↓aa,ad,simprocAttr];refine aX (ag2 s ag) ?_;rintro x ar ⟨cT,au⟩;have oL:=(bz.ext bu).ext cT;have oM:=ft.ext cT;have fZ:=aP.next
 have nJ:h.next≠ae.next:=by have:=bz.lt;omega
 have M2:Ext h ar:=(aP.trans bu).trans cT;cases aH:iS s with
 | error e=>
   rw [aH] at au;have he:=JE aH;have U:res=.error e:=by rw [<-a8];unfold lo;rw [aH]
   subst au;have f0:(e.1=0)=False:=apl (by omega);have lV:=oM.put [.int .i64 e.1,.int .i64 (e.2:Nat)];have qm:=oL.set (m:=ae.next) nJ (.bc [.int .i64 e.1,.int .i64 (e.2:Nat)] 0 false);have sa:=qm.put [.cS];have uZ:=lV.set (m:=h.next) nJ.symm (.bc [.cS] 0 false);have rf:=uZ.put [.int .i64 e.1,.int .i64 (e.2:Nat)];have UW:=sa.set (m:=ae.next) nJ (.bc [.int .i64 e.1,.int .i64 (e.2:Nat)] 0 false);simp only [oL.g,oM.g,lV.g,qm.g,sa.g,uZ.g,rf.g,UW.g,f0,aY,eV,cC,↓aa,ad,simprocAttr];rw [U];exact ⟨((M2.set fZ _).set (ao1 _) _).set fZ _,rfl,fun _=>trivial⟩
 | ok W=>
   rw [aH] at au;obtain ⟨v,rfl,S⟩:=au;obtain ⟨g1,g2,g3,g4⟩:=Rr aH;have U:mr s.length (aU s.length (ha W)) (ha W) [] W=res:=by rw [<-a8];unfold lo;rw [aH]
   have lV:=oM.put [.int .i64 0,.int .i64 0];have qm:=oL.set (m:=ae.next) nJ (.bc [.int .i64 0,.int .i64 0] 0 false);have yb:=S.v.one;generalize vo:ar.set (an ae.next) (.bc [.int .i64 0,.int .i64 0] 0 false)=fP at lV qm;obtain ⟨jH,ca,e7,iF⟩:=fU fP [v,.int .i64 (0:Nat),.int .i64 s.length,.int .i64 (0:Nat)];simp only [Int.natCast_zero] at ca;simp only [oL.g,oM.g,vo,lV.g,qm.g,ca,yb.1,yb.2.1,yb.2.2,aY,eV,cC,aap,apx,↓aa,ad,simprocAttr];have uS:Ext h fP:=by rw [<-vo];exact M2.set fZ _
   have LB:Ext h jH:=uS.trans e7;have n4:ae.next<fP.next:=by have:=lV.lt;omega
   have UR:=lV.ext e7;have UT:=qm.ext e7;have Mi:dK ag.next fP 4 v W.length (gZ W):=by rw [<-vo];refine S.mod ((Mod.refl (fun b=>b=an ae.next) ar).set (fun _=>rfl) _) fun b q z=>?_;have:=S.base q;rw [show b=an ae.next from z,dk] at this;have:=ft.lt;omega
   have Ji:∀b,v.bn b->Old fP b:=fun b q=>Mi.v.cr q;have bV:ed W s.length fP.next jH 0 W v 0:=⟨iF,(Mi.ext e7).v,fun q=>dh (ao1 _) (Ji _ q),api _,by rw [apT],by omega,by omega,fun w hw=>by have:=(FI (g3 w hw).2).2.2;omega,fun w hw=>(FI (g3 w hw).2).2.1⟩
   refine gf (fun r g=>r 2=.ptr (an h.next) 0/\r 3=.ptr (an ae.next) 0/\r 4=v/\r 5=.ptr (an fP.next) 0/\r 17179869185=.tuple [.func 22 [.ptr (an h.next) 0,.ptr (an ae.next) 0]]/\Ext h g/\Has g ae.next [.int .i64 0,.int .i64 0]/\jH.next<=g.next/\∃m l da ws i,Has g h.next [da]/\dz jH.next (Fr jH.next) g 5 (List.map aN.enc l) da/\ed W s.length fP.next g 0 ws v i/\l.length+ws.length<=W.length/\mr s.length (aU s.length (ha W)) m l ws=res) (fun _ g=>qS W fP.next g) ?_ ?_
   . exact ⟨by simp only [↓aa,cQ,simprocAttr],by simp only [↓aa,cQ,simprocAttr],by simp only [↓aa,cQ,simprocAttr],by simp only [↓aa,cQ,simprocAttr],by simp only [↓aa,cQ,simprocAttr],LB,UR,ao1 _,_,[],_,W,0,UT,dz.nil _ _ _ _,bV,by simp,U⟩
   rintro r g ⟨bf,bU,cU,b4,s0,X,lV,RQ,m,l,da,ws,i,oL,O,C,hlen,U⟩;cases m with
   | zero=>exact (dY U.symm).elim
   | succ m=>
     simp only [mr] at U;have bX:=iF.lt;have OG:=C.len;cases ws with
     | nil=>
       have aM:=C.done;have f0:((i:Int) < (W.length:Int))=False:=apl (by omega);rw [ape rfl] at U;have UM:=oL.put [da];have LY:=lV.set (m:=h.next) nJ.symm (.bc [da] 0 false);have UQ:=LY.put [.int .i64 0,.int .i64 0];have UN:=UM.set (m:=ae.next) nJ (.bc [.int .i64 0,.int .i64 0] 0 false);have cW:=O.one;simp only [bf,bU,cU,b4,s0,C.at_.g,OG,f0,oL.g,LY.g,cW.1,cW.2.1,cW.2.2,aY,eV,kY,cC,↓aa,ad,simprocAttr];refine ahR.mono ?_;rintro u af ⟨rfl,rfl⟩;simp only [UN.g,UQ.g,bf,bU,cW.1,cW.2.1,cW.2.2,aY,eV,cC,↓aa,ad,simprocAttr];rw [<-U];refine ⟨(X.set (ao1 _) _).set fZ _,da,rfl,?_,by have:=hlen;simp only [aph] at this;omega⟩;have U1:=Fp (Fp O (n:=h.next) (by have:=lV.lt;have:=e7.next;omega) (.bc [da] 0 false)) (n:=ae.next) (by have:=e7.next;omega) (.bc [.int .i64 0,.int .i64 0] 0 false);exact (uv U1 (by simp only [aph] at hlen;omega)).eW fun b q=>ao6 LB.next q
     | cons aB rest=>
       obtain ⟨aM,_⟩:=C.here;have f0:((i:Int) < (W.length:Int))=True:=apk (by omega);rw [ao_ (by simp)] at U;simp only [bf,bU,cU,b4,s0,C.at_.g,OG,f0,↓aa,ad,simprocAttr];have H4:kK s.length (aU s.length (ha W)) m (aB::rest)≠.error b7:=fun q=>by rw [q] at U;exact dY U.symm
       have acB:fP.next<g.next:=by omega
       refine cH (aaf (vN W s.length fP.next (ha W)) m (aB::rest) g v i C H4) ?_ ?_
       rotate_left
       . rintro x bA ⟨e,he,rfl,m6,_,_,_,_,_,j_⟩;simp only [cF,aY,eV,kY,cC,bf,bU,cU,b4,s0,↓aa,ad,simprocAttr];refine (Lh e (oL.mod m6 (nN (by have:=e7.next;omega))) (lV.mod m6 (nN (by omega))) nJ).mono ?_;rintro u af ⟨rfl,vf,E,rfl⟩;have AZ:=(((oL.mod m6 (nN (by omega))).ext E).put [.cS]).set (m:=ae.next) nJ (.bc [.int .i64 e.1,.int .i64 (e.2:Nat)] 0 false);have A0:=(((lV.mod m6 (nN (by omega))).ext E).set (m:=h.next) nJ.symm (.bc [.cS] 0 false)).put [.int .i64 e.1,.int .i64 (e.2:Nat)];simp only [AZ.g,A0.g,bf,bU,K5,K6,aY,eV,cC,↓aa,ad,simprocAttr];rw [he] at U;rw [<-U];exact ⟨(((X.lg m6 (fun b q=>by rw [show b=an fP.next from q,dk];have:=uS.next;omega)).trans E).set (ao1 _) _).set fZ _,rfl,fun ri qA=>by cases qA;exact j_⟩
       rintro x bA ⟨p,ba,uN,i1,rd,rfl,oS,m6,cv⟩;rw [rd] at U;simp only [bB] at U;have Af:=HD rd;have dS:=OT Af;obtain ⟨b9,cL,By,xj⟩:=OS Af;have aof:=C.qf;have eQ:=oS.one;obtain ⟨cd,dy,dI,r'⟩:=fq bA b8 (vcs p uN);have yC:=oS.ext dI;have eR:=cv.ext dI;simp only [eQ.1,eQ.2.1,eQ.2.2,dy,r'.g,bf,bU,cU,b4,s0,↓aa,ad,simprocAttr];refine cH (aal eR yC (by omega) xj (by have q:=C.pl (k:=271) (.inr rfl);rw [By] at q;exact q)) ?_ ?_
       rotate_left
       . rintro x et ⟨a_,e,he,rfl,m8,_,_,_,_,_,j_⟩;cases he;simp only [cF,aY,eV,kY,cC,bf,bU,cU,b4,s0,↓aa,ad,simprocAttr];have CB:Mod (b3 fP.next) g et:=m6.trans ((dI.mod _).trans m8);refine (Lh (271,b9.pos) (oL.mod CB (nN (by omega))) (lV.mod CB (nN (by omega))) nJ).mono ?_;rintro u af ⟨rfl,vf,E,rfl⟩;have AZ:=(((oL.mod CB (nN (by omega))).ext E).put [.cS]).set (m:=ae.next) nJ (.bc [.int .i64 271,.int .i64 (b9.pos:Nat)] 0 false);have A0:=(((lV.mod CB (nN (by omega))).ext E).set (m:=h.next) nJ.symm (.bc [.cS] 0 false)).put [.int .i64 271,.int .i64 (b9.pos:Nat)];simp only [AZ.g,A0.g,bf,bU,K5,K6,aY,eV,cC,↓aa,ad,simprocAttr];rw [ape a_,xj] at U;rw [<-U];exact ⟨(((X.lg CB (fun b q=>by rw [show b=an fP.next from q,dk];have:=uS.next;omega)).trans E).set (ao1 _) _).set fZ _,by simp,fun ri qA=>by cases qA;exact j_⟩
       rintro x et ⟨a_,ga⟩;have gj:=eR.ext ga;rw [ao_ (by omega)] at U;simp only [bf,bU,cU,b4,s0,↓aa,ad,simprocAttr];refine cH (kR gj j0) ?_ ?_
       rotate_left
       . rintro x fD ⟨e,he,rfl,m9,_,_,_,_,_,j_⟩;simp only [cF,aY,eV,kY,cC,bf,bU,cU,b4,s0,↓aa,ad,simprocAttr];have CC:Mod (b3 fP.next) g fD:=m6.trans ((dI.mod _).trans ((ga.mod _).trans m9));refine (Lh e (oL.mod CC (nN (by omega))) (lV.mod CC (nN (by omega))) nJ).mono ?_;rintro u af ⟨rfl,vf,E,rfl⟩;have AZ:=(((oL.mod CC (nN (by omega))).ext E).put [.cS]).set (m:=ae.next) nJ (.bc [.int .i64 e.1,.int .i64 (e.2:Nat)] 0 false);have A0:=(((lV.mod CC (nN (by omega))).ext E).set (m:=h.next) nJ.symm (.bc [.cS] 0 false)).put [.int .i64 e.1,.int .i64 (e.2:Nat)];simp only [AZ.g,A0.g,bf,bU,K5,K6,aY,eV,cC,↓aa,ad,simprocAttr];rw [he] at U;rw [<-U];exact ⟨(((X.lg CC (fun b q=>by rw [show b=an fP.next from q,dk];have:=uS.next;omega)).trans E).set (ao1 _) _).set fZ _,rfl,fun ri qA=>by cases qA;exact j_⟩
       rintro x fD ⟨bt,py,m9,i9,fS⟩;rw [py] at U;simp only [bB] at U;have Va:=yC.ext ga;have yD:=Va.mod m9 acB;have oH:=(r'.ext ga).mod m9 (bT (by have:=m6.next;omega));have oQ:=hv (((hv O m6 (by omega) (by omega)).ext dI).ext ga) m9 (by omega) (by omega);have Vq:Ext h fD:=(((X.lg m6 (fun b q=>by rw [show b=an fP.next from q,dk];have:=uS.next;omega)).trans dI).trans ga).lg m9 (fun b q=>by rw [show b=an fP.next from q,dk];have:=uS.next;omega);have AO:=((oL.mod m6 (nN (by omega))).ext dI |>.ext ga).mod m9 (nN (by omega));have UK:=((lV.mod m6 (nN (by omega))).ext dI |>.ext ga).mod m9 (nN (by omega));have Qf:g.next<=fD.next:=ao6 m6.next (ao6 dI.next (ao6 ga.next m9.next))
       obtain ⟨ez,iN,b,off,ly,akq,E',akt,iD,mh,GG,m11,Mv⟩:=ai' oQ yD (lk O (ao1 _)) (fun _ _ _=>trivial) RQ Qf (by omega);have agK:l9 da=some (.int .i64 l.length):=by have:=oQ.len;rwa [apD] at this
       have JX:∀n,n<jH.next->¬da.bn (an n):=fun n aF q=>by have:=O.base q;rw [dk] at this;omega
       have an5:fP.next<jH.next:=bX
       have anX:g.next<=bA.next:=m6.next
       have n6:¬da.bn (an bA.next):=fun q=>by have:=lk O (ao1 _) _ q;rw [dk] at this;omega
       have LW:=AO.mod E' (JX _ (by omega));have LX:=AO.mod m11 (JX _ (by omega));have UL:=UK.mod m11 (JX _ (by omega));have yq:=oH.mod E' n6;have Vp:Ext h ly:=Vq.lg m11 fun b q=>ao6 LB.next (O.base q)
       have Lr:=GG.one;have D_:(fD.next=h.next)=False:=apl (by have:=AO.lt;omega);have Pp:(fD.next=bA.next)=False:=apl (by have:=oH.lt;omega);have qB:jH.next<=dP b:=GG.base iD
       have Et:b≠an h.next:=fun z=>by rw [z,dk] at qB;omega
       have GL:=yD.one;simp only [bf,bU,cU,b4,s0,ae0,AO.g,oH.g,agK,akq,akt,mh,LX.g,LW.g,yq.g,D_,Pp,Lr.1,Lr.2.1,Lr.2.2,GL.1,GL.2.1,GL.2.2,↓aa,ad,simprocAttr];rw [afI];unfold DB;refine ⟨⟨?_,?_⟩,?_⟩
       . simp only [vW,ao9,aph,Nat.reduceAdd,Nat.reduceSub,apO,apj,bf,↓aa,ad,simprocAttr];exact Et
       . simp only [List.length,List.take,Nat.reduceSub,Nat.reduceAdd,AO.g,oH.g,LW.g,yq.g,bf,bU,cU,b4,s0,D_,Pp,vl,↓aa,ad,simprocAttr]
       simp only [bf,bU,cU,b4,s0,↓aa,ad,simprocAttr];have uJ:ba.length < (aB::rest).length:=by have:=H9 Af;simp only [h8,aph,ao9] at this ⊢;have:=FA p;omega
       have vZ:=zS py;have lu:=bV.own fS m11 fun b q=>O.base q;have wh:ed W s.length fP.next (ly.set (an h.next) (.bc [ez] 0 false)) 0 bt v i9:=
        ⟨lu.at_.set (by omega) _,lu.c7.mod ((Mod.refl (fun b=>b=an h.next) ly).set (fun _=>rfl) _) (fun b q z=>by
          have:=S.base q;rw [show b=an h.next from z,dk] at this;have:=bu.next
          omega),lu.ap,lu.le,lu.eq,lu.nF,lu.wM,lu.fj,lu.num⟩
       refine ⟨⟨Vp.set (ao1 _) _,UL.set nJ.symm _,ao6 RQ (ao6 Qf m11.next),m,l++[p],ez,bt,i9,LX.put _,Fp GG (by omega) _,wh,by rw [apb];simp only [ao9,aph] at *;omega,U⟩,?_⟩;rw [lH C,lH wh];omega
theorem yZ (a b bF cp:Int):(fu.other .eql 30).run Tryz.prog (.agg [.int .i64 a,.int .i64 b]) (.agg [.int .i64 bF,.int .i64 cp])=some (.bool (decide (a=bF)&&decide (b=cp))):=by
 have h:(fu.other .eql 30).run Tryz.prog (.agg [.int .i64 a,.int .i64 b]) (.agg [.int .i64 bF,.int .i64 cp])=
  (match (bif Int.kq a bF then (bif Int.kq b cp then some true else some false) else some false) with
    | some b=>some (V.bool b)
    | none=>none):=by kernel_rfl
 rw [h];simp only [Bt];by_cases ae:a=bF<;>by_cases ag:b=cp<;>simp [ae,ag]
def Kk:aN:=.mk 38 0 17 [43] [.mk 24 0 17 [120] [],.mk 20 1 21 [] []]
def Kj:aN:=.mk 27 0 8 [] [.mk 11 0 12 [120] [],Kk]
def CQ:aN:=.mk 52 0 0 [] [.mk 11 0 4 [102] [],Kj]
theorem aj5:lo [108,101,116,32,102,32,61,32,102,117,110,32,120,32,45,62,32,120,32,43,32,49,59,59]=.ok [CQ]:=by kernel_rfl
theorem Wo:lo [108,101,116,32,120,32,61,32,49]=.error (270,9):=by kernel_rfl
theorem aj4 (h:ah):dW Tryz.prog 20 [] h fun x af=>∃v,x=.agg (vcs CQ v)/\dq Any af CQ v/\Ext h af:=by
 refine XN.z rfl (cl ?_);unfold Nx
 let F:aO->Prop:=fun b=>b≠an h.next
 obtain ⟨ae,ao,aP,bz⟩:=fU h b8;have hJ:∀g:ah,ae.next<=g.next->F (an g.next):=fun g q z=>by rw [lN] at z;have:=bz.lt;omega
 obtain ⟨ag,av,bu,ft⟩:=fq ae b8 [.int .i64 24,.int .i64 0,.int .i64 17,.str [120],.cS];obtain ⟨ar,aC,cT,lV⟩:=xF (F:=F) (h:=ag) (size:=5) rfl rfl (iV F ag 24 0 17 (s:=[120]) (by unfold top;decide)).cs (iV F ag 20 1 21 (s:=[]) (api _)).cs (hJ ag bu.next);have gC:dq F ar Kk _:=⟨lV,by show 1<=top;unfold top;decide⟩;obtain ⟨aT,bs,cN,eF⟩:=fq ar b8 [.int .i64 38,.int .i64 0,.int .i64 17,.str [43],.slice (an ag.next) 0 2 2];have n3:=ao6 bu.next cT.next
 obtain ⟨bC,ca,e7,sa⟩:=xF (F:=F) (h:=aT) (size:=5) rfl rfl (iV F aT 11 0 12 (s:=[120]) (by unfold top;decide)).cs (gC.ext cN).cs (hJ aT (ao6 n3 cN.next));have jn:dq F bC Kj _:=⟨sa,api _⟩;obtain ⟨bA,cD,eS,jN⟩:=fq bC b8 [.int .i64 27,.int .i64 0,.int .i64 8,.str [],.slice (an aT.next) 0 2 2];have CH:=ao6 n3 (ao6 cN.next e7.next);obtain ⟨cd,dy,dI,rf⟩:=xF (F:=F) (h:=bA) (size:=5) rfl rfl (iV F bA 11 0 4 (s:=[102]) (by unfold top;decide)).cs (jn.ext eS).cs (hJ bA (ao6 CH eS.next));have yC:dq F cd CQ _:=⟨rf,api _⟩;have T2:=bu.trans (cT.trans (cN.trans (e7.trans (eS.trans dI))));have qg:=bz.ext T2;have yr:=ft.ext cT;have T7:=qg.put [.int .i64 52,.int .i64 0,.int .i64 0,.str [],.slice (an bA.next) 0 2 2];simp only [vcs,apm,apx,Kk,Kj,bR] at aC ca dy;simp only [ao,av,ft.g,aC,bs,eF.g,ca,cD,jN.g,dy,qg.g,T7.g,aY,↓aa,ad,simprocAttr];exact ⟨_,rfl,(yC.set (fun q=>q rfl) _).eW fun _ _=>trivial,(aP.trans T2).set (ao1 _) _⟩
theorem abc (h:ah):dW Tryz.prog 21 [.str [108,101,116,32,120,32,61,32,49],.int .i64 270,.int .i64 9] h fun x af=>x=.bool true/\Ext h af:=by refine XQ.z rfl (cl ?_);unfold c21;simp only [↓aa,ad,simprocAttr];refine aX (Kp _ h) ?_;rintro x ae ⟨aP,au⟩;rw [Wo] at au;obtain ⟨rfl,_⟩:=au;obtain ⟨ag,av,bu,ft⟩:=fq ae [.int .i64 0,.int .i64 0] [.int .i64 270,.int .i64 (9:Nat)];have z:(((9:Nat):Int))=9:=rfl;rw [z] at av ft;have eq:=yZ 270 9 270 9;simp only [av,ft.g,eq,z,↓aa,ad,simprocAttr];exact aP.trans bu
theorem DC (h:ah):dW Tryz.prog 7 [] h fun x af=>x=.bool true/\Ext h af:=by refine YO.z rfl (cl ?_);unfold Of;simp only [↓aa,ad,simprocAttr];refine aX (Kp _ h) ?_;rintro x ae ⟨aP,au⟩;rw [aj5] at au;obtain ⟨v,rfl,L,_⟩:=au;have ol:=L.one;obtain ⟨ag,av,bu,ft⟩:=fq ae [.int .i64 0,.int .i64 0] [.int .i64 0,.int .i64 0];have eq:=yZ 0 0 0 0;simp only [ol.1,ol.2.1,ol.2.2,av,ft.g,eq,aqn,apY,↓aa,ad,simprocAttr];refine aX (aj4 ag) ?_;rintro x ar ⟨uN,rfl,P,cT⟩;have op:=P.one;obtain ⟨aT,bs,cN,qm⟩:=sR (F:=Any) (h:=ar) (size:=5) rfl P.cs trivial;simp only [op.1,op.2.1,op.2.2,ol.1,ol.2.1,ol.2.2,bs,↓aa,ad,simprocAttr];refine aX (K0 [CQ] v _ aT ((L.eW fun _ _=>trivial).ext (bu.trans (cT.trans cN))) qm) ?_;rintro x bC ⟨rfl,e7⟩;simp only [↓aa,ad,simprocAttr];refine aX (abc bC) ?_;rintro x bA ⟨rfl,eS⟩;simp only [↓aa,ad,simprocAttr];exact (aP.trans (bu.trans (cT.trans (cN.trans (e7.trans eS)))))
theorem aj3 (x:Int) (n:Nat) (aF:1<=n) (cP:n<=1000000) (h:ah):dW Tryz.prog 8 [.int .i64 x,.int .i64 n] h fun y af=>af=h/\∃k:Nat,k<n/\y=.int .i64 k:=by
 refine YV.z rfl (cl ?_);unfold Oq;have f0:((n:Int)<1)=False:=apl (by omega);have EM:(fu.int .rem).run Tryz.prog (.int .i64 x) (.int .i64 n)=some (.int .i64 (x.tmod n)):=Q5 .i64 _ _ (by omega);have bW:x.tmod n<n:=Int.tmod_lt_of_pos _ (by omega);have a':-(n:Int)<x.tmod n:=by have:=Int.tmod_lt_of_pos (-x) (show (0:Int)<n by omega);rw [Int.neg_tmod] at this;omega
 have w:IntKind.i64.wrap (x.tmod n+n)=x.tmod n+n:=wrap_i64 (by omega) (by omega);by_cases aF:x.tmod n<0
 . simp only [f0,EM,apk aF,w,↓aa,ad,simprocAttr];exact ⟨(x.tmod n+n).toNat,by omega,by rw [Int.toNat_of_nonneg (by omega)]⟩
 . simp only [f0,EM,apl aF,w,↓aa,ad,simprocAttr];exact ⟨(x.tmod n).toNat,by omega,by rw [Int.toNat_of_nonneg (by omega)]⟩
def z_ (s:List UInt8):List aN:=match lo s with
 | .ok l=>l
 | .error _=>[]
def kT (s:List UInt8):Int × Nat:=match lo s with
 | .ok _=>(0,0)
 | .error e=>e
theorem aiZ {s:List UInt8} {h af:ah} {x:V} (H:GM s h x af):Ext h af/\∃v,x=.tuple [v,.agg [.int .i64 (kT s).1,.int .i64 ((kT s).2:Nat)]]/\fw Any af 5 ((z_ s).map aN.enc) v:=by
 unfold z_ kT;obtain ⟨e,H⟩:=H;cases aG:lo s with
 | ok l=>rw [aG] at H;obtain ⟨v,rfl,L,_⟩:=H;exact ⟨e,v,rfl,L.eW fun _ _=>trivial⟩
 | error f=>rw [aG] at H;obtain ⟨rfl,_⟩:=H;exact ⟨e,.cS,rfl,fw.nil _ _ _⟩
theorem ai0 {s:List UInt8} {h af:ah} {x:V} (H:GQ s h x af):Ext h af/\∃v,x=.tuple [v,.agg [.int .i64 (kT s).1,.int .i64 ((kT s).2:Nat)]]/\fw Any af 5 ((z_ s).map aN.enc) v:=by
 unfold z_ kT;obtain ⟨e,H⟩:=H;cases aG:lo s with
 | ok l=>rw [aG] at H;obtain ⟨v,rfl,L,_⟩:=H;exact ⟨e,v,rfl,L.eW fun _ _=>trivial⟩
 | error f=>rw [aG] at H;obtain rfl:=H;exact ⟨e,.cS,rfl,fw.nil _ _ _⟩
theorem DS (s:List UInt8) (h:ah):(dW Tryz.prog 9 [.str s] h fun x af=>Ext h af/\∃v,x=.tuple [v,.agg [.int .i64 (kT s).1,.int .i64 ((kT s).2:Nat)]]/\fw Any af 5 ((z_ s).map aN.enc) v)/\
 (dW Tryz.prog 10 [.str s] h fun x af=>Ext h af/\∃v,x=.tuple [v,.agg [.int .i64 (kT s).1,.int .i64 ((kT s).2:Nat)]]/\fw Any af 5 ((z_ s).map aN.enc) v):=
 ⟨(Kp s h).mono fun _ _=>aiZ,(akW s h).mono fun _ _=>ai0⟩
theorem ajC {m:Nat} (hm:m<=1010):(kT (oC m)).1=if m<1000 then 0 else 271:=by
 obtain ⟨p,e,h⟩:=ajF hm;unfold kT;rw [h];by_cases q:m<1000
 . simp only [q,apd]
 . simp only [q,apa]
theorem ajD {m:Nat} (hm:m<=1010):(kT (oD m)).1=if m<1000 then 0 else 271:=by
 obtain ⟨p,e,h⟩:=ajG hm;unfold kT;rw [h];by_cases q:m<1000
 . simp only [q,apd]
 . simp only [q,apa]
theorem ME {B:Nat} {h:ah} {s:V} {n:Nat} {us:List V} (c:V) (H1:dK B h 1 s n us) (cj:B<=h.next) (hlen:n+1<=top) (ax:c.one=true):
 ∃v af,l0 1 s (.slice (an h.next) 0 1 1) (h.new (.bc [c] 0 false))=.val v af/\dK B af 1 v (n+1) (us++[c])/\Mod s.bn h af/\∀b,v.bn b->s.bn b\/h.next<dP b:=by
 have au:Ext h (h.new (.bc [c] 0 false)):=(Ext.refl h).new _;have b0:hy (h.new (.bc [c] 0 false)) 1 (.slice (an h.next) 0 1 1) 1 [c]:=by refine ⟨rfl,rfl,jJ (by rw [hV];omega),[c],.inr ⟨0,false,by rw [rA]⟩,by simp,by simp⟩
 obtain ⟨v,af,ao,av,aC,bs⟩:=GZ (by omega) (H1.ext au) b0 (by rw [hV];omega) (by omega) (by simp [hE,ax]);refine ⟨v,af,ao,av,(au.mod _).trans aC,fun b ai=>?_⟩;rcases bs b ai with q | q
 . exact .inl q
 . rw [hV] at q;exact .inr q
theorem SV (c:UInt8) (i:Nat):ho (List.replicate i c)++ho [c]=ho (List.replicate (i+1) c):=by rw [<-DJ,<-List.replicate_succ']
theorem ahG (a:Int) (ty:Bool) (h:ah):dW Tryz.prog 4 [.int .i64 a,.bool ty] h fun x af=>x=.bool true:=by
 refine Yj.z rfl (cl ?_);unfold g_;simp only [↓aa,ad,simprocAttr];refine aX (aj3 a 1011 (by omega) (by omega) h) ?_;rintro x aL ⟨rfl,m,hm,rfl⟩;simp only [↓aa,ad,simprocAttr];refine gf (fun r g=>r 0=.int .i64 m/\r 1=.bool ty/\∃i:Nat,r 7=.int .i64 i/\i<=m/\dK aL.next g 1 (r 5) i (ho (List.replicate i 40))/\dK aL.next g 1 (r 6) i (ho (List.replicate i 41))/\(∀b,(r 5).bn b->¬(r 6).bn b)/\aL.next<=g.next) (fun r g=>m - (r 7).toN) ?_ ?_
 . exact ⟨by simp only [↓aa,cQ,simprocAttr],by simp only [↓aa,cQ,simprocAttr],0,by simp only [↓aa,cQ,simprocAttr]<;>rfl,by omega,by simp only [↓aa,cQ,simprocAttr];exact ⟨rfl,rfl⟩,by simp only [↓aa,cQ,simprocAttr];exact ⟨rfl,rfl⟩,by simp only [↓aa,cQ,simprocAttr];intro b q;exact q.elim,ao1 _⟩
 rintro r g ⟨aW,cL,i,e3,aM,GR,Dx,ds,ay⟩;have gX:=GR.v.one;have eQ:=Dx.v.one;by_cases a1:i<m
 . have g0:((i:Int) < (m:Int))=True:=apk (by omega);have lr:=uO a1 (by omega);obtain ⟨v5,g1,ck,c0,e2,ke⟩:=ME (.int .u8 40) GR ay (by unfold top;omega) rfl;have Vl:=Dx.mod e2 fun b q z=>ds b z q;obtain ⟨v6,g2,p9,Sg,Sh,aja⟩:=ME (.int .u8 41) Vl (ao6 ay e2.next) (by unfold top;omega) rfl;have O':∀b,v5.bn b->¬(r 6).bn b:=fun b q z=>by
    rcases ke b q with w | w
    . exact ds b w z
    . have:=Dx.v.cr z;unfold Old at this;omega
   have aaG:∀b,v5.bn b->¬v6.bn b:=fun b q z=>by
    rcases aja b z with w | w
    . exact O' b q w
    . have:=c0.v.cr q;unfold Old at this;omega
   have ai_:=c0.mod Sh O';have Ln:=c0.v.one;have Lo:=Sg.v.one;simp only [aW,cL,e3,g0,ck,p9,lr,gX.1,gX.2.1,gX.2.2,eQ.1,eQ.2.1,eQ.2.2,Ln.1,Ln.2.1,Ln.2.2,Lo.1,Lo.2.1,Lo.2.2,↓aa,ad,simprocAttr];exact ⟨⟨i+1,rfl,a1,by rw [<-SV];exact ai_,by rw [<-SV];exact Sg,aaG,ao6 ay (ao6 e2.next Sh.next)⟩,by omega⟩
 . have g0:((i:Int) < (m:Int))=False:=apl (by omega);have c5:=sn GR;have N':=sn Dx;obtain rfl:i=m:=by omega
   have f1:(4 + (List.replicate i (40:UInt8)).length<=17179869184)=True:=apk (by rw [aqf];omega);have f2:((List.replicate i (40:UInt8)).length<=17179869179)=True:=apk (by rw [aqf];omega);have pn:(List.replicate i (40:UInt8)).length=i:=aqf;have zL:(List.replicate i (41:UInt8)).length=i:=aqf;have g1:((List.replicate i (40:UInt8)++[95]).length+2+2 + (List.replicate i (41:UInt8)).length<=17179869184)=True:=apk (by simp only [apb,ao9,aph,pn,zL];omega);have g2:(((List.replicate i (40:UInt8))++[95]++(List.replicate i (41:UInt8))).length<=17179869173)=True:=apk (by simp only [apb,ao9,aph,pn,zL];omega);have g3:(15 + (List.replicate i (40:UInt8)).length<=17179869184)=True:=apk (by simp only [apb,ao9,aph,pn,zL];omega);have g4:((List.replicate i (40:UInt8)).length<=17179869166)=True:=apk (by simp only [apb,ao9,aph,pn,zL];omega);have g5:(((List.replicate i (40:UInt8))++[105,110,116]).length+13+2 + (List.replicate i (41:UInt8)).length<=17179869184)=True:=apk (by simp only [apb,ao9,aph,pn,zL];omega);have g6:(((List.replicate i (40:UInt8))++[105,110,116]++(List.replicate i (41:UInt8))).length<=17179869166)=True:=apk (by simp only [apb,ao9,aph,pn,zL];omega);cases ty with
   | false=>
     simp only [aW,cL,e3,g0,c5,N',f1,f2,g1,g2,g3,g4,g5,g6,gX.1,gX.2.1,gX.2.2,eQ.1,eQ.2.1,eQ.2.2,↓aa,ad,simprocAttr];rw [show (108::101::116::32::(List.replicate i (40:UInt8)++[95]++List.replicate i (41:UInt8)++[32,61,32,49,32,59,59]):List UInt8)=oC i from by simp [oC]];refine aX (DS _ g).1 ?_;rintro x ar ⟨cT,v3,rfl,gC⟩;have dx:=gC.one;obtain ⟨aT,bs,cN,eF⟩:=fq ar [.int .i64 0,.int .i64 0] [.int .i64 (kT (oC i)).1,.int .i64 ((kT (oC i)).2:Nat)];simp only [dx.1,dx.2.1,dx.2.2,bs,↓aa,ad,simprocAttr];refine aX (DS _ aT).2 ?_;rintro x bC ⟨e7,v5,rfl,jn⟩;have gX:=jn.one;obtain ⟨bA,cD,eS,jN⟩:=fq bC [.int .i64 0,.int .i64 0] [.int .i64 (kT (oC i)).1,.int .i64 ((kT (oC i)).2:Nat)];simp only [dx.1,dx.2.1,dx.2.2,gX.1,gX.2.1,gX.2.2,cD,↓aa,ad,simprocAttr];refine aX (K0 _ v3 v5 bA (gC.ext (cN.trans (e7.trans eS))) (jn.ext eS)) ?_;rintro x cd ⟨rfl,dI⟩;have Az:=eF.ext (e7.trans (eS.trans dI));have AB:=jN.ext dI;have q1:=ajC (m:=i) (by omega);by_cases aD:i<1000
     . have gv:((i:Int)<1000)=True:=apk (by omega);rw [ape aD] at q1;simp only [aW,Az.g,AB.g,yZ,q1,gv,aqn,apY,↓aa,ad,simprocAttr];refine aX (DC cd) ?_;rintro x g9 ⟨rfl,_⟩;simp only [↓aa,ad,simprocAttr]
     . have gv:((i:Int)<1000)=False:=apl (by omega);rw [ao_ aD] at q1;simp only [aW,Az.g,AB.g,yZ,q1,gv,aqn,apY,↓aa,ad,simprocAttr];refine aX (DC cd) ?_;rintro x g9 ⟨rfl,_⟩;simp only [↓aa,ad,simprocAttr]
   | true=>
     simp only [aW,cL,e3,g0,c5,N',f1,f2,g1,g2,g3,g4,g5,g6,gX.1,gX.2.1,gX.2.2,eQ.1,eQ.2.1,eQ.2.2,↓aa,ad,simprocAttr];rw [show (101::120::99::101::112::116::105::111::110::32::69::32::111::102::32::(List.replicate i (40:UInt8)++[105,110,116]++List.replicate i (41:UInt8)++[32,59,59]):List UInt8)=oD i from by simp [oD]];refine aX (DS _ g).1 ?_;rintro x ar ⟨cT,v3,rfl,gC⟩;have dx:=gC.one;obtain ⟨aT,bs,cN,eF⟩:=fq ar [.int .i64 0,.int .i64 0] [.int .i64 (kT (oD i)).1,.int .i64 ((kT (oD i)).2:Nat)];simp only [dx.1,dx.2.1,dx.2.2,bs,↓aa,ad,simprocAttr];refine aX (DS _ aT).2 ?_;rintro x bC ⟨e7,v5,rfl,jn⟩;have gX:=jn.one;obtain ⟨bA,cD,eS,jN⟩:=fq bC [.int .i64 0,.int .i64 0] [.int .i64 (kT (oD i)).1,.int .i64 ((kT (oD i)).2:Nat)];simp only [dx.1,dx.2.1,dx.2.2,gX.1,gX.2.1,gX.2.2,cD,↓aa,ad,simprocAttr];refine aX (K0 _ v3 v5 bA (gC.ext (cN.trans (e7.trans eS))) (jn.ext eS)) ?_;rintro x cd ⟨rfl,dI⟩;have Az:=eF.ext (e7.trans (eS.trans dI));have AB:=jN.ext dI;have q1:=ajD (m:=i) (by omega);by_cases aD:i<1000
     . have gv:((i:Int)<1000)=True:=apk (by omega);rw [ape aD] at q1;simp only [aW,Az.g,AB.g,yZ,q1,gv,aqn,apY,↓aa,ad,simprocAttr];refine aX (DC cd) ?_;rintro x g9 ⟨rfl,_⟩;simp only [↓aa,ad,simprocAttr]
     . have gv:((i:Int)<1000)=False:=apl (by omega);rw [ao_ aD] at q1;simp only [aW,Az.g,AB.g,yZ,q1,gv,aqn,apY,↓aa,ad,simprocAttr];refine aX (DC cd) ?_;rintro x g9 ⟨rfl,_⟩;simp only [↓aa,ad,simprocAttr]
end
section
open Go bg Go.RowKit Go.Proofs Go.Lib
abbrev zH:List (String × DataW Unit):=Rows.parsePlacesRow.laid
theorem aaX {n:String} {g:Nat} {t:TypeId} {ms:Array (String × TypeId)} {name:String} {d:DataW Unit} {W:World} (ay:Tryz.prog.globalNamed n=some g) (Je:(Tryz.prog.globals[g]?).map (·.type)=some t) (aM:Tryz.prog.underlying t=some (.interface ms))
 (h:VarReads Tryz.prog W n (.iface name d)):yv W g:=by
 obtain ⟨vf,j1,cs,fuel,p,ae,ag,ar,aT⟩:=h;obtain rfl:=aqu (ay.symm.trans ae);obtain rfl:=aqu (Je.symm.trans ag);obtain ⟨_,u,v,jF,_,_⟩:=iface_of_trod aM aT;refine ⟨.iface u v,?_,.inr ⟨u,v,rfl⟩⟩;have:=World.var?_cell ay ar 0;rw [this,<-Array.getElem?_toList,jF];rfl
theorem alY {n:String} {g:Nat} {t e:TypeId} {m:Nat} {k:IntKind} {wb:List Int} {W:World} (ay:Tryz.prog.globalNamed n=some g) (Je:(Tryz.prog.globals[g]?).map (·.type)=some t) (az:Tryz.prog.underlying t=some (.array m e)) (he:Tryz.prog.underlying e=some (.int k)) (acA:Tryz.prog.cellsOf e=1) (acF:Tryz.prog.cellsOf t=m)
 (h:VarReads Tryz.prog W n (tabData k wb)):TabIs Tryz.prog W n k wb:=by
 obtain ⟨vf,j1,cs,fuel,p,ae,ag,ar,aT⟩:=h;obtain rfl:=aqu (ay.symm.trans ae);obtain rfl:=aqu (Je.symm.trans ag);unfold TabIs;rw [ar,<-cells_of_tab az he acA acF aT]
theorem amt:Go.Proofs.U8Types Tryz.prog Tryz.Cs:=Go.Proofs.U8Types.of260 Tryz.agF
theorem ams:U8Extra Tryz.prog Tryz.Cs:=⟨by kernel_rfl,by kernel_rfl,by kernel_rfl,by kernel_rfl,by kernel_rfl,by kernel_rfl,by kernel_rfl⟩
theorem abq:(Rows.laid_unicode_utf8_first:DataW Unit)=firstData:=Pinned.utf8First_eq
theorem Vx:(Rows.laid_unicode_utf8_acceptRanges:DataW Unit)=acceptData:=by kernel_rfl
theorem aj8:(Rows.laid_internal_strconv_uint64pow10:DataW Unit)=tabData .u64 pow10Tab:=by kernel_rfl
theorem aby:Tryz.Cs.g 3=0:=by kernel_rfl
theorem abz:Tryz.Cs.g 4=1:=by kernel_rfl
theorem ag4 {l:List (String × DataW Unit)} {W:World} (hm:∀p ∈ zH,p ∈ l) (gN:laidMet Tryz.prog l W) (xo:W.ShapedOpen Tryz.prog):GA W:=by
 have r:∀(n:String) (d:DataW Unit),(n,d) ∈ zH->VarReads Tryz.prog W n d:=fun n d h=>laidMet.reads gN (hm _ h);have aE:=r "unicode/utf8.first" Rows.laid_unicode_utf8_first (by simp [zH,Rows.parsePlacesRow]);have b1:=r "unicode/utf8.acceptRanges" Rows.laid_unicode_utf8_acceptRanges (by simp [zH,Rows.parsePlacesRow]);have U:=r "strconv.ErrRange" Rows.laid_strconv_ErrRange (by simp [zH,Rows.parsePlacesRow]);have aG:=r "internal/strconv.uint64pow10" Rows.laid_internal_strconv_uint64pow10 (by simp [zH,Rows.parsePlacesRow]);rw [aj8] at aG;rw [abq] at aE;rw [Vx] at b1;refine ⟨?_,?_,?_,?_⟩
 . have:=Go.Proofs.utf8Tabs_of_readsT amt ams aE b1;rwa [aby,abz] at this
 . exact Go.Proofs.cell_of_shapedOpen_int xo (g:=2) (t:=3) (zero:=#[.int .i64 0]) (of_decide_eq_true (by kernel_rfl)) (by kernel_rfl) rfl (by kernel_rfl) (by kernel_rfl) Tryz.underlying3
 . exact aaX (n:= "strconv.ErrRange") (t:=126) (by kernel_rfl) (by kernel_rfl) Tryz.underlying126 U
 . exact alY (g:=5) (t:=191) (e:=124) (m:=20) (by kernel_rfl) (by kernel_rfl) (by kernel_rfl) (by kernel_rfl) (by kernel_rfl) (by kernel_rfl) aG
end
end Go.Proofs.YtahfljfikfkpnaaGreatDoor
