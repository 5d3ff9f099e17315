/- The chapter's functions, walked by the abstract machine: plain lemmas, no condition. Printed by a program from longer texts: names made short. -/
import Derived.Test.YtahfljfikfkpnaaGreatDoorM14
import Derived.Test.YtahfljfikfkpnaaGreatDoorM9
import Derived.Test.YtahfljfikfkpnaaGreatDoorM7
import Derived.Test.YtahfljfikfkpnaaGreatDoorM11
set_option linter.unusedSectionVars false
set_option linter.unusedSimpArgs false
set_option linter.unusedVariables false
set_option maxHeartbeats 64000000
noncomputable section
namespace Go.Proofs.YtahfljfikfkpnaaGreatDoor
section
open Go ba
section
variable {W:List aq} {af ak n d:Nat} {ws:List aq} {r:bJ (List aq)}
def p_ (r bq:bJ (List aq)):Prop:=∀w',bq=.ok w'->∃w,r=.ok w/\w'.length<=w.length
section
variable {bq Sv:bJ (List aq)} {α:Type} {p:α} {h ae g:ah} {aC:V} {B hg:Nat} {dF:Nat}
theorem p_.trans (a:p_ r bq) (b:p_ bq Sv):p_ r Sv:=fun w' e=>by obtain ⟨w,aO,iN⟩:=b w' e;obtain ⟨aR,bs,xu⟩:=a w aO;exact ⟨aR,bs,aoF iN xu⟩
theorem u3 {F:List aq->bJ (α × List aq)} {P:Int × Nat->Prop} (ay:∀w,eI P w (F w)) (E:(r >>= F)=bq.map (fun ws=>(p,ws))):p_ r bq:=by
 rintro w' rfl;cases r with
 | error e=>cases E
 | ok w=>
   refine ⟨w,rfl,?_⟩;have:=ay w;replace E:F w=_:=E;rw [E] at this;exact apB this
theorem DQ {s:List UInt8} (E:bq=(r >>= eD af s)):p_ r bq:=by
 rintro w' rfl;cases r with
 | error e=>cases E
 | ok w=>exact ⟨w,rfl,apB (zM (af:=af) E.symm)⟩
theorem OQ {k:Int} {b9:aq} (E:(r >>= fc af k)=bq.map (fun ws=>(b9,ws))):p_ r bq:=u3 (P:=fun _=>True) (fun w=>ky (fun _ _=>trivial)) E
theorem aah {F:Nat->List aq->bJ (α × List aq)} (ay:∀a w,eI (fun _=>True) w (F a w)) (E:(r >>= fun ws=>eD af mA ws >>= fun b9=>F (bI af ws) b9)=bq.map (fun ws=>(p,ws))):p_ r bq:=by refine u3 (P:=fun _=>True) (F:=fun ws=>eD af mA ws >>= fun b9=>F (bI af ws) b9) (fun w=>?_) E;refine ks (fun _ _=>trivial) (fun _ _=>trivial) fun b9 aG=>?_;exact eI.le (ay _ b9) (apB aG)
theorem Zi {β γ:Type} {a:List aq->bJ (List aq)} {b:List aq->List aq->bJ β} {Ee:β->bJ γ} {res:bJ γ} (U:(r >>= fun x=>a x >>= fun y=>b x y >>= Ee)=res):(r >>= fun x=>(a x >>= fun y=>b x y) >>= Ee)=res:=by
 rw [<-U];cases r with
 | error e=>rfl
 | ok x=>
   show ((a x >>= fun y=>b x y) >>= Ee)=(a x >>= fun y=>b x y >>= Ee);cases a x<;>rfl
theorem dz.p6 (C:dz W af ak h aC (.ok ws) d):ws.length<=1000000:=by obtain ⟨i,G,q,_⟩:=C;rw [q,aoZ];have:=G.nC;omega
theorem JK {mq:ah} {w':List aq} (C:dz W af ak g aC r d) (fq:dz W af ak mq aC (.ok w'.tail) d) (D:p_ r (.ok w')) (d':w'≠[]):mB W ak mq<mB W ak g:=by obtain ⟨w,rfl,aG⟩:=D w' rfl;exact sD C fq fun x e=>by cases e;have:=x9 d';omega
theorem aai {w':List aq} (D:p_ (.ok ws) (.ok w')):w'.length<=ws.length:=by obtain ⟨w,e,aG⟩:=D w' rfl;cases e;exact aG
theorem cE.xE {z:List V} {p:aP} {v:V} {k:ah} {aW:bJ (List aq)} {d0:Nat} (C:dz W af ak h aC aW d0) (Ug:dz W af ak k aC r d) (M:Mod (b3 ak) h k) (A:Has k h.next z) (P:dt (Fr B) k p v) (cd:h.next<B):cE W af ak h k aC r d [(h.next,z)] [(p,v)]:=
 ⟨⟨_,_,C⟩,Ug,M,(fun x au=>by rw [apz] at au;subst au;exact ⟨aoz _,A⟩),(by simp),fun x au=>by
   rw [apz] at au;subst au
   exact P.eU fun b q=>⟨aoF (apB cd) q,fun y bl z=>by rw [apz] at bl;subst bl;unfold Fr at q;rw [z,dh] at q;simp only at q;omega⟩⟩
end
theorem Wr (J:∀m,m<=n->jx W af ak m) (d:Nat) (ws:List aq) (h:ah) (aC:V) (C:dz W af ak h aC (.ok ws) d) (a8:(aU af (n+1)).binds d [] ws≠.error b6):dY Tryz.prog 71 [.ptr (ao ak) 0] h (GF W af ak h aC d ((aU af (n+1)).binds d [] ws)):=by
 generalize U:(aU af (n+1)).binds d [] ws=res at a8 ⊢;replace U:yG af (aU af n) d [] ws=res:=U;refine Yx.z rfl (cm ?_);unfold N8;have bX:=C.lt;simp only [↓aa,ab,simprocAttr];refine gb (fun r g=>r 0=.ptr (ao ak) 0/\Mod (b3 ak) h g/\∃m l dm,m<=n/\dB h.next (Fr h.next) g 5 (List.map aP.enc l) (r 3)/\l.length+dm.length<=1000000/\dz W af ak g aC (.ok dm) d/\yG af (aU af m) d l dm=res) (fun _ g=>mB W ak g) ?_ ?_
 . exact ⟨by simp only [↓aa,cM,simprocAttr],Mod.refl _ _,n,[],_,aoz _,by simp only [↓aa,cM,simprocAttr];exact dB.nil _ _ _ _,by have:=C.p6;simpa using this,C,U⟩
 rintro r ad ⟨aW,cw,m,l,dm,hm,O,hG,cz,U⟩;have I:=J m hm;unfold yG at U;have ee:=cE.start cz;simp only [aW,↓aa,ab,simprocAttr];refine aY (x' ee.C 3) ?_;rintro x ag ⟨m2,aR,bc,bY,rfl,e4,bx⟩;replace U:=e6 (r:=(.ok dm)) U bY
 try dsimp only at U
 have bM:=ee.call m2 bx;obtain ⟨ar,aB,bj⟩:=bM.st [.int .i64 0,.int .i64 0,.int .i64 0,.str []] [.int .i64 aR.kind,.int .i64 aR.num,.int .i64 aR.pos,.str aR.text];simp only [aq.enc,aB,aW,↓aa,ab,simprocAttr];refine aY (iy bj.C h3) ?_;rintro x aT ⟨m4,cU,jY,ch⟩;replace U:=iW (r:=bc) U jY
 try dsimp only at U
 have a6:=bj.call m4 ch;replace U:=Zi U;simp only [aW,↓aa,ab,simprocAttr];refine aY (I.fn d _ aT aC a6.C (fA (r:=cU) U a8)) ?_;rintro x bE ⟨f,Da,b1,eW,rfl,jZ,m5,bW⟩;replace U:=e6 (r:=cU) U eW
 try dsimp only at U
 have bO:=a6.eN m5 bW jZ;have fm:=bO.bg.one;obtain ⟨bA,cx,cj⟩:=bO.st b8 (vcs f Da);have e':=cj.bg.one;obtain ⟨cl,dq,dR,cV⟩:=cj.vx cj.bg 46 aR.pos (s:=aR.text) (iF.fh cj.C e4);simp only [fm.1,fm.2.1,fm.2.2,cx,cj.bT.g,cj.a'.g,e'.1,e'.2.1,e'.2.2,dq,aW,↓aa,ab,simprocAttr];refine aY (gf 46 aR.pos aR.text cV.bg.c') ?_;rintro x er ⟨rfl,f'⟩;have dK:=cV.ext f';have D:=((OQ bY).trans (DQ jY)).trans (aah ((shorter af m).fn d · · (.inl trivial)) eW);have lV:=hq O dK.M (bX) (bX);obtain ⟨v9,fB,l_,oL,xD,_,_⟩:=pf lV (dK.bg.eU (eX:=Fr ad.next) fun b q=>q.1) (lg O (aoz _)) cw.next dK.M.next (by omega)
 try simp only [vcs,bR] at l_
 have op:=dK.bg.one;have fQ:=C.own dK.C xD (fun b q=>aoF (aoz _) q.1);have h8:=ou (cw.trans dK.M) xD (aoz _);have ep:=cE.start fQ;simp only [op.1,op.2.1,op.2.2,l_,vcs,bR,aW,↓aa,ab,simprocAttr];refine bQ (jG ep.C) ?_;cases b1 with
 | error e=>
   replace U:=kY U;simp only [aX,kl,aW,↓aa,ab,simprocAttr];exact ⟨l++[(aP.mk 46 0 aR.pos aR.text [f])],.error e,U,oL,by rw [aoL,ao0];omega,h8,fQ⟩
 | ok uI=>
   replace U:=hk U
   try dsimp only at U
   simp only [j2,aW,↓aa,ab,simprocAttr];refine bQ (ff ep.C zv) ?_;cases b_:bm zv uI with
   | true=>
     simp only [b_,aoM] at U;obtain ⟨i10,iJ,yl,Lk,l',m10,iU⟩:=ep.C.iG (gP b_);have fr:=ep.call m10 iU;simp only [yl.g,Lk,l',aW,↓aa,ab,simprocAttr];have k7:=aai D;have EA:=x9 (gP b_);cases m with
     | zero=>exact (a8 U.symm).elim
     | succ m=>
       exact ⟨⟨h8.trans m10,m,l++[(aP.mk 46 0 aR.pos aR.text [f])],_,by omega,hq oL m10 bX bX,by rw [aoL,ao0];omega,iU,U⟩,JK cz iU D (gP b_)⟩
   | false=>
     simp only [b_,aoA,aoK] at U;simp only [aX,aW,↓aa,ab,simprocAttr];exact ⟨l++[(aP.mk 46 0 aR.pos aR.text [f])],(.ok uI),U.symm,oL,by rw [aoL,ao0];omega,h8,fQ⟩
theorem agI (I:jx W af ak n) (d:Nat) (ws:List aq) (d':ws≠[]):e2 W af ak 156 [] d (fun ws=>(aU af (n+1)).lt d (bI af ws) ws.tail) (.ok ws):=by
 refine ll fun h aC res C U a8=>Xo.z rfl (cm ?_);replace U:tV af (aU af n) d (bI af ws) ws.tail=res:=U;unfold tV at U;unfold Nb;have bX:=C.lt;have ee:=cE.start C;obtain ⟨ad,an,b2⟩:=ee.new b8;simp only [an,↓aa,ab,simprocAttr];refine bQ (sj b2.C) ?_;obtain ⟨i2,ag,fu,mf,av,m2,bx⟩:=b2.C.iG d';have bM:=b2.call m2 bx;simp only [fu.g,mf,av,↓aa,ab,simprocAttr];refine bQ (ff bM.C qA) ?_;cases b_:bm qA ws.tail with
 | true=>
   simp only [b_,aoM] at U;obtain ⟨i3,ar,fj,yf,aB,m3,cq⟩:=bM.C.iG (gP b_);have bj:=bM.call m3 cq;simp only [fj.g,yf,aB,↓aa,ab,simprocAttr];refine aY (I.binds d _ ar aC bj.C (fun q=>by rw [q] at U;exact a8 U.symm)) ?_;rintro x aT ⟨l,cU,jY,oK,aG,m4,ch⟩;replace U:=e6 (r:=(.ok ws.tail.tail)) (f:=(aU af n).binds d []) U jY
   try dsimp only at U
   have ol:=oK.one;have a6:=bj.call m4 ch;simp only [ol.1,ol.2.1,ol.2.2,↓aa,ab,simprocAttr];refine aY (iy a6.C vv) ?_;rintro x bE ⟨m5,b1,eW,bW⟩;replace U:=iW (r:=cU) U eW
   try dsimp only at U
   have bO:=a6.call m5 bW;simp only [↓aa,ab,simprocAttr];refine aY (I.seq d _ bE aC bO.C (fA (r:=b1) U a8)) ?_;rintro x bA ⟨b,eK,dS,iV,rfl,kW,m6,cv⟩;replace U:=e6 (r:=b1) U iV
   try dsimp only at U
   have cj:=bO.eN m6 cv kW;have gl:=cj.bg.one;obtain ⟨cl,dq,dR,rW⟩:=fz bA b8 (vcs b eK);have Va:=kW.ext dR;have cV:=cj.box dR rW;have yw:=hq oK m5 (by have:=bj.M.next;omega) (by have:=bj.M.next;omega);have UT:=(hq yw m6 (by have:=bj.M.next;omega) (by have:=bj.M.next;omega)).ext dR;obtain ⟨amd,er,dy,US,tW,_,_⟩:=pf UT Va (lg yw (aoz _)) (aoF m4.next m5.next) (aoF m6.next dR.next) (by omega);have op:=cV.bg.one;have bz:=cV.bT;have cd:h.next<ar.next:=bj.a'.lt
   have LW:=cE.xE C (C.own cV.C tW (fun b q=>aoF (apB cd) q.1)) (ou cV.M tW (apB cd)) (oa bz tW (.inl cd)) (rI US (by rw [aoL,ao0];omega) 30 0 (bI af ws) (s:=[]) (aoQ _)) cd;simp only [gl.1,gl.2.1,gl.2.2,dq,cV.a'.g,op.1,op.2.1,op.2.2,dy,↓aa,ab,simprocAttr];refine aY (gf 30 (bI af ws) [] LW.bg.c') ?_;rintro x fB ⟨rfl,jy⟩;have ep:=LW.ext jy;have o:=ep.bg.one;have bb:=ep.du (vcs (aP.mk 30 0 (bI af ws) [] (l++[b])) amd);simp only [bb.a'.g,o.1,o.2.1,o.2.2,aX,vcs,bR,ep.a'.g,↓aa,ab,simprocAttr];exact bb.fin (ji U)
 | false=>
   simp only [b_,aoA,aoK] at U;simp only [↓aa,ab,simprocAttr];refine aY (I.pat d _ ag aC bM.C (fA (r:=(.ok ws.tail)) U a8)) ?_;rintro x ar ⟨a,b4,bV,fR,rfl,gZ,m3,cq⟩;replace U:=e6 (r:=(.ok ws.tail)) U fR
   try dsimp only at U
   have bj:=bM.eN m3 cq gZ;have c4:=bj.bg.one;obtain ⟨aT,bt,a6⟩:=bj.st b8 (vcs a b4);simp only [c4.1,c4.2.1,c4.2.2,bt,↓aa,ab,simprocAttr];refine aY (iy a6.C h3) ?_;rintro x bE ⟨m5,b1,eW,bW⟩;replace U:=iW (r:=bV) U eW
   try dsimp only at U
   have bO:=a6.call m5 bW;simp only [↓aa,ab,simprocAttr];refine aY (I.seq d _ bE aC bO.C (fA (r:=b1) U a8)) ?_;rintro x bA ⟨b,eK,dS,iV,rfl,kW,m6,cv⟩;replace U:=e6 (r:=b1) U iV
   try dsimp only at U
   have cj:=bO.eN m6 cv kW;have gl:=cj.bg.one;obtain ⟨cl,dq,cV⟩:=cj.st b8 (vcs b eK);simp only [gl.1,gl.2.1,gl.2.2,dq,↓aa,ab,simprocAttr];refine aY (iy cV.C vv) ?_;rintro x er ⟨m8,gm,Gm,gh⟩;replace U:=iW (r:=dS) U Gm
   try dsimp only at U
   have dK:=cV.call m8 gh;simp only [↓aa,ab,simprocAttr];refine aY (I.seq d _ er aC dK.C (fA (r:=gm) U a8)) ?_;rintro x fB ⟨c,eu,mb,Gn,rfl,yy,m9,fQ⟩;replace U:=e6 (r:=gm) U Gn
   try dsimp only at U
   have ep:=dK.eN m9 fQ yy;have xK:=ep.bg.one;obtain ⟨iJ,l',fr⟩:=ep.st b8 (vcs c eu);have xN:=fr.cY.one;have xO:=fr.cg.one;have xP:=fr.bg.one;obtain ⟨lv,pk,DT,lU⟩:=fr.Rh fr.cY fr.cg fr.bg 29 (bI af ws) (s:=[]) (aoQ _);simp only [vcs,aoW,ao5] at pk;simp only [xK.1,xK.2.1,xK.2.2,l',fr.c2.g,fr.bT.g,fr.a'.g,xN.1,xN.2.1,xN.2.2,xO.1,xO.2.1,xO.2.2,xP.1,xP.2.1,xP.2.2,pk,↓aa,ab,simprocAttr];refine aY (gf 29 (bI af ws) [] lU.bg.c') ?_;rintro x Bz ⟨rfl,tj⟩;have nx:=lU.ext tj;have o:=nx.bg.one;have bb:=nx.drop.drop.drop.du (vcs (aP.mk 29 0 (bI af ws) [] [a,b,c]) (.slice (ao iJ.next) 0 3 3));simp only [bb.a'.g,o.1,o.2.1,o.2.2,aX,vcs,bR,nx.a'.g,nx.bT.g,nx.c2.g,nx.h9.g,↓aa,ab,simprocAttr];exact bb.fin (ji U)
end
section
variable {W:List aq} {af ak n d:Nat} {ws:List aq} {r:bJ (List aq)}
theorem Wv {α β:Type} {r:bJ α} {f k:α->bJ β} {res:bJ β} (U:(r >>= f)=res) (h:∀x,f x=k x):(r >>= k)=res:=by rw [<-U,show f=k from funext h]
theorem YZ {β:Type} {T:qh} {l:List aP} {fin:List aP × List aq->bJ β} (ws:List aq):(yK af T d l ws >>= fin)=(T.pat d ws >>= fun q=>eD af lN q.2 >>= fun b9=>T.seq d b9 >>= fun z=>if bm jT z.2=true then (T.cases d (l++[two 45 q.1 z.1]) z.2.tail >>= fin) else fin (l++[two 45 q.1 z.1],z.2)):=by
 unfold yK;cases T.pat d ws with
 | error e=>rfl
 | ok q=>
   show ((eD af lN q.2 >>= fun b9=>T.seq d b9 >>= fun z=>_) >>= fin)=(eD af lN q.2 >>= _);cases eD af lN q.2 with
   | error e=>rfl
   | ok b9=>
     show ((T.seq d b9 >>= fun z=>_) >>= fin)=(T.seq d b9 >>= _);cases T.seq d b9 with
     | error e=>rfl
     | ok z=>
       show ((if bm jT z.2=true then _ else _) >>= fin)=if bm jT z.2=true then _ else _
       split<;>rfl
def Cs:cb->Option cb
 | .seq a b=>match Cs a with
   | some x=>some x
   | none=>Cs b
 | .block _ b=>Cs b
 | .loop b=>some b
 | _=>none
def Nc:{c:cb // (Cs G9.1).getD .skip=c}:=⟨_,by conv=>lhs;reduce;simp only [cy,simprocAttr]⟩
def Np:{c:cb // (Cs G_.1).getD .skip=c}:=⟨_,by conv=>lhs;reduce;simp only [cy,simprocAttr]⟩
def LN (W:List aq) (af ak n d:Nat) (k:Int) (h:ah) (B:Nat) (aC:V) (a:aP) (dQ:Nat) (fin:List aP × List aq->bJ (aP × List aq)) (res:bJ (aP × List aq)) (r:a1) (g:ah):Prop:=
 r 0=.ptr (ao ak) 0/\r 1=.int .i64 k/\r 4=.ptr (ao h.next) 0/\r 5=.int .i64 dQ/\Mod (b3 ak) h g/\Has g h.next b8/\B<=g.next/\∃m l rg,m<=n/\dB B (Fr B) g 5 (List.map aP.enc (a::l)) (r 7)/\l.length<=1000000/\(∀w,rg=.ok w->l.length+w.length<=1000000)/\dz W af ak g aC rg d/\(rg >>= fun ws=>yK af (aU af m) d l ws >>= fin)=res
theorem Hp (J:∀m,m<=n->jx W af ak m) {k:Int} {h:ah} {B:Nat} {aC:V} {a:aP} {dQ:Nat} {fin:List aP × List aq->bJ (aP × List aq)} {res:bJ (aP × List aq)} (acD:fin=fun q=>.ok (aP.mk k 0 dQ [] (a::q.1),q.2)) (C:dz W af ak h aC (.ok ws) d) (cd:h.next<B) (a8:res≠.error b6) (r:a1) (g:ah) (wS:LN W af ak n d k h B aC a dQ fin res r g):
 zG Tryz.prog Nc.1 [iv.bp 0] r g (fun e r ae=>e.ends/\∃aj,hs r ae [.eB 4 5]=some aj/\Out W af ak h aC d res (oneOf aj) ae):=by
 refine gb (LN W af ak n d k h B aC a dQ fin res) (fun _ g=>mB W ak g) wS ?_;rintro r ad ⟨z0,c0,z4,z5,cw,bz,aI,m,l,rg,hm,O,aG,hG,cz,U⟩;have I:=J m hm;replace U:=Wv U YZ;have bX:=C.lt;have sh:ak<B:=by omega
 unfold Nc;have ee:=cE.start cz;have am2:=aI;simp only [z0,c0,z4,z5,↓aa,ab,simprocAttr];refine aY (I.pat d _ ad aC ee.C (fA (r:=rg) U a8)) ?_;rintro x ag ⟨q,amh,bc,bY,rfl,gI,m2,bx⟩;replace U:=e6 (r:=rg) U bY
 try dsimp only at U
 have bM:=ee.eN m2 bx gI;have dN:=bM.bg.one;obtain ⟨ar,aB,bj⟩:=bM.st b8 (vcs q amh);simp only [dN.1,dN.2.1,dN.2.2,aB,z0,c0,z4,z5,↓aa,ab,simprocAttr];refine aY (iy bj.C lN) ?_;rintro x aT ⟨m4,cU,jY,ch⟩;replace U:=iW (r:=bc) U jY
 try dsimp only at U
 have a6:=bj.call m4 ch;simp only [z0,c0,z4,z5,↓aa,ab,simprocAttr];refine aY (I.seq d _ aT aC a6.C (fA (r:=cU) U a8)) ?_;rintro x bE ⟨b,eK,b1,eW,rfl,jZ,m5,bW⟩;replace U:=e6 (r:=cU) U eW
 try dsimp only at U
 have bO:=a6.eN m5 bW jZ;have fm:=bO.bg.one;obtain ⟨bA,cx,cj⟩:=bO.st b8 (vcs b eK);have e':=cj.cg.one;have l9:=cj.bg.one;obtain ⟨cl,dq,dR,cV⟩:=cj.qD cj.cg cj.bg 45 q.a (s:=[]) (aoQ _);simp only [vcs,aoW,ao5] at dq;simp only [fm.1,fm.2.1,fm.2.2,cx,cj.bT.g,cj.a'.g,e'.1,e'.2.1,e'.2.2,l9.1,l9.2.1,l9.2.2,dq,z0,c0,z4,z5,↓aa,ab,simprocAttr];refine aY (gf 45 q.a [] cV.bg.c') ?_;rintro x er ⟨rfl,f'⟩;have dK:=cV.ext f';have D:=((u3 ((shorter af m).pat d · (.inl trivial)) bY).trans (DQ jY)).trans (u3 ((shorter af m).seq d · (.inl trivial)) eW);have lV:=hq O dK.M (sh) (sh);obtain ⟨v9,fB,l_,oL,xD,_,_⟩:=pf lV (dK.bg.eU (eX:=Fr ad.next) fun b q=>q.1) (lg O (aoz _)) aI dK.M.next (by (try simp only [aoH]);omega)
 try simp only [vcs,bR] at l_
 have op:=dK.bg.one;have fQ:=C.own dK.C xD (fun b q=>aoF (apB cd) q.1);have h8:=ou (cw.trans dK.M) xD (apB cd);have oE:=oa (bz.mod dK.M (bU bX)) xD (.inl cd);have ac9:=aoF aI (aoF dK.M.next xD.next);have ep:=cE.start fQ;simp only [op.1,op.2.1,op.2.2,l_,vcs,bR,z0,c0,z4,z5,↓aa,ab,simprocAttr];refine bQ (jG ep.C) ?_;cases b1 with
 | error e=>
   replace U:=kY U;simp only [kl,z0,c0,z4,z5,↓aa,ab,simprocAttr];have cr:=oL.one;refine aY (gf k dQ [] (ud oL (by simp only [aoL,aoH,aoS];omega))) ?_;rintro x iJ ⟨rfl,wN⟩;have bb:=(cE.xE C fQ h8 oE (rI oL (by simp only [aoL,aoH,aoS];omega) k 0 dQ (s:=[]) (aoQ _)) cd).ext wN;have mO:=bb.du (vcs (aP.mk k 0 dQ [] (a::l++[(aP.mk 45 0 q.a [] [q,b])])) v9);simp only [bb.a'.g,mO.a'.g,cr.1,cr.2.1,cr.2.2,aX,vcs,bR,z0,c0,z4,z5,↓aa,ab,simprocAttr];exact mO.fin (r:=.error e) U
 | ok uI=>
   replace U:=hk U
   try dsimp only at U
   simp only [j2,z0,c0,z4,z5,↓aa,ab,simprocAttr];refine bQ (ff ep.C jT) ?_;cases b_:bm jT uI with
   | true=>
     simp only [b_,aoM] at U;obtain ⟨i10,iJ,yl,Lk,l',m10,iU⟩:=ep.C.iG (gP b_);have fr:=ep.call m10 iU;simp only [yl.g,Lk,l',z0,c0,z4,z5,↓aa,ab,simprocAttr];have EA:=x9 (gP b_);obtain ⟨ye,rfl,BQ⟩:=D _ rfl;have qq:=hG _ rfl;cases m with
     | zero=>exact (a8 U.symm).elim
     | succ m=>
       exact ⟨⟨z0,c0,z4,z5,h8.trans m10,oE.mod m10 (bU bX),aoF ac9 m10.next,m,l++[(aP.mk 45 0 q.a [] [q,b])],.ok uI.tail,by omega,hq oL m10 sh sh,by rw [aoL,ao0];omega,fun w e=>by cases e;rw [aoL,ao0];omega,iU,U⟩,JK cz iU D (gP b_)⟩
   | false=>
     simp only [b_,aoA,aoK] at U;rw [acD] at U;simp only [z0,c0,z4,z5,↓aa,ab,simprocAttr];have cr:=oL.one;refine aY (gf k dQ [] (ud oL (by simp only [aoL,aoH,aoS];omega))) ?_;rintro x iJ ⟨rfl,wN⟩;have bb:=(cE.xE C fQ h8 oE (rI oL (by simp only [aoL,aoH,aoS];omega) k 0 dQ (s:=[]) (aoQ _)) cd).ext wN;have mO:=bb.du (vcs (aP.mk k 0 dQ [] (a::l++[(aP.mk 45 0 q.a [] [q,b])])) v9);simp only [bb.a'.g,mO.a'.g,cr.1,cr.2.1,cr.2.2,aX,vcs,bR,z0,c0,z4,z5,↓aa,ab,simprocAttr];exact mO.fin (r:=.ok uI) U.symm
theorem Y0 (J:∀m,m<=n->jx W af ak m) (d:Nat) (k:Int) (ws:List aq) (d':ws≠[]):e2 W af ak 157 [.int .i64 k] d (fun ws=>(aU af (n+1)).hl d k (bI af ws) ws.tail) (.ok ws):=by
 have I:=J n (aoz n);refine ll fun h aC res C U a8=>Xp.z rfl (cm ?_);replace U:Bb af (aU af n) d k (bI af ws) ws.tail=res:=U;unfold Bb at U;unfold G9;have bX:=C.lt;have IH:=C.p6;have ee:=cE.start C;obtain ⟨ad,an,b2⟩:=ee.new b8;simp only [an,↓aa,ab,simprocAttr];refine bQ (sj b2.C) ?_;obtain ⟨i2,ag,fu,mf,av,m2,bx⟩:=b2.C.iG d';have bM:=b2.call m2 bx;simp only [fu.g,mf,av,↓aa,ab,simprocAttr];refine aY (I.seq d _ ag aC bM.C (fA (r:=(.ok ws.tail)) U a8)) ?_;rintro x ar ⟨a,b4,bV,fR,rfl,gZ,m3,cq⟩;replace U:=e6 (r:=(.ok ws.tail)) U fR
 try dsimp only at U
 have bj:=bM.eN m3 cq gZ;have c4:=bj.bg.one;obtain ⟨aT,bt,cO,eL⟩:=fz ar b8 (vcs a b4);have GL:=gZ.ext cO;have a6:=bj.box cO eL;obtain ⟨bE,ca,e7,s4⟩:=zX GL (aoF m3.next cO.next);have cd:h.next<ag.next:=bM.a'.lt
 have bO:=(a6.ext e7).drop.only;simp only [c4.1,c4.2.1,c4.2.2,bt,a6.a'.g,ca,↓aa,ab,simprocAttr];refine aY (iy bO.C Cf) ?_;rintro x bA ⟨m6,dS,iV,cv⟩;replace U:=iW (r:=bV) U iV
 try dsimp only at U
 have cj:=bO.call m6 cv;have yw:=hq s4 m6 (by omega) (by omega);have j5:ag.next<=bA.next:=by have:=m3.next;have:=cO.next;have:=e7.next;have:=m6.next;omega
 have D:=(u3 ((shorter af n).seq d · (.inl trivial)) fR).trans (DQ iV);simp only [↓aa,ab,simprocAttr];refine bQ (jG cj.C) ?_;cases dS with
 | error e=>
   replace U:=kY U;simp only [kl,↓aa,ab,simprocAttr];refine Hp (k:=k) (a:=a) (dQ:=bI af ws) J rfl C cd a8 _ _ ⟨by simp only [↓aa,cM,simprocAttr],by simp only [↓aa,cM,simprocAttr],by simp only [↓aa,cM,simprocAttr],by simp only [↓aa,cM,simprocAttr],cj.M,cj.a',j5,n,[],.error e,aoz _,by simp only [↓aa,cM,simprocAttr];exact yw,by simp,?_,cj.C,U.symm⟩;intro w e;cases e
 | ok jv=>
   replace U:=hk U
   try dsimp only at U
   simp only [j2,↓aa,ab,simprocAttr];refine bQ (ff cj.C jT) ?_;cases b_:bm jT jv with
   | true=>
     simp only [b_,aoM] at U;obtain ⟨i7,cl,rW,amm,dq,m7,eP⟩:=cj.C.iG (gP b_);have cV:=cj.call m7 eP;obtain ⟨ye,jy,BQ⟩:=D _ rfl;cases jy;have qq:=Am ws;have anH:=Am jv;cases n with
     | zero=>exact (a8 U.symm).elim
     | succ m=>
       simp only [rW.g,amm,dq,↓aa,ab,simprocAttr];refine Hp (n:=m+1) (k:=k) (a:=a) (dQ:=bI af ws) J rfl C cd a8 _ _ ⟨by simp only [↓aa,cM,simprocAttr],by simp only [↓aa,cM,simprocAttr],by simp only [↓aa,cM,simprocAttr],by simp only [↓aa,cM,simprocAttr],cV.M,cV.a',aoF j5 m7.next,m,[],.ok jv.tail,by omega,by simp only [↓aa,cM,simprocAttr];exact hq yw m7 (by omega) (by omega),by simp,fun w e=>by cases e;simp only [aoS];omega,cV.C,U⟩
   | false=>
     simp only [b_,aoA,aoK] at U;obtain ⟨ye,jy,BQ⟩:=D _ rfl;cases jy;have qq:=Am ws;cases n with
     | zero=>exact (a8 U.symm).elim
     | succ m=>
       simp only [↓aa,ab,simprocAttr];refine Hp (n:=m+1) (k:=k) (a:=a) (dQ:=bI af ws) J rfl C cd a8 _ _ ⟨by simp only [↓aa,cM,simprocAttr],by simp only [↓aa,cM,simprocAttr],by simp only [↓aa,cM,simprocAttr],by simp only [↓aa,cM,simprocAttr],cj.M,cj.a',j5,m,[],.ok jv,by omega,by simp only [↓aa,cM,simprocAttr];exact yw,by simp,fun w e=>by cases e;simp only [aoS];omega,cj.C,U⟩
theorem al1 {β:Type} {T:qh} {l:List aP} {fin:List aP × List aq->bJ β} {bq:bJ (List aq)} (al:bm jt ws=true) (E:bq=((Except.ok ws.tail:bJ (List aq)) >>= fun ws=>jl af l ws >>= fun _=>.ok ws)):(oC af T d l ws >>= fin)=(bq >>= fun w=>T.ty d w >>= fun q=>T.ju d (l++[q.1]) q.2 >>= fin):=by
 unfold oC;rw [aoN al,E];show ((jl af l ws.tail >>= fun _=>T.ty d ws.tail >>= fun q=>T.ju d (l++[q.1]) q.2) >>= fin)=((jl af l ws.tail >>= fun _=>.ok ws.tail) >>= _);cases jl af l ws.tail with
 | error e=>rfl
 | ok u=>
   show ((T.ty d ws.tail >>= fun q=>T.ju d (l++[q.1]) q.2) >>= fin)=(T.ty d ws.tail >>= _);cases T.ty d ws.tail<;>rfl
theorem OP {l:List aP} {bq:bJ (List aq)} (E:bq=(r >>= fun ws=>jl af l ws >>= fun _=>.ok ws)):p_ r bq:=by
 rintro w' rfl;cases r with
 | error e=>cases E
 | ok w=>
   replace E:Except.ok w'=(jl af l w >>= fun _=>Except.ok w):=E;cases aE:jl af l w with
   | error e=>rw [aE] at E;cases E
   | ok u=>rw [aE] at E;cases E;exact ⟨_,rfl,aoz _⟩
def C' (af:Nat) (a:aP) (dQ:Nat) (q:List aP × List aq):bJ (aP × List aq):=eD af fO q.2 >>= fun ws=>if q.1.length=1 then .ok (a,ws) else fc af 3 ws >>= fun z=>.ok (aP.mk 2 0 dQ z.1.text q.1,z.2)
def LP (W:List aq) (af ak n d:Nat) (h:ah) (B:Nat) (aC:V) (a:aP) (dQ:Nat) (res:bJ (aP × List aq)) (r:a1) (g:ah):Prop:=
 r 0=.ptr (ao ak) 0/\r 2=.ptr (ao h.next) 0/\r 3=.int .i64 dQ/\Mod (b3 ak) h g/\Has g h.next b8/\B<=g.next/\∃m l rg,m<=n/\dB B (Fr B) g 5 (List.map aP.enc l) (r 7)/\l.length<=1000002/\l.length≠0/\(l.length=1->∃w,rg=.ok w/\bm jt w=true)/\(∀w,rg=.ok w->l.length+w.length<=1000001)/\dz W af ak g aC rg d/\(rg >>= fun ws=>(aU af m).ju d l ws >>= C' af a dQ)=res
theorem alQ (J:∀m,m<=n->jx W af ak m) {h:ah} {B:Nat} {aC:V} {a:aP} {dQ:Nat} {res:bJ (aP × List aq)} (C:dz W af ak h aC (.ok ws) d) (cd:h.next<B) (a8:res≠.error b6) (r:a1) (g:ah) (aQ:List iv) (Q:ec->a1->ah->Prop) (wS:LP W af ak n d h B aC a dQ res r g)
 (b':∀(r:a1) (g:ah) l rg,r 0=.ptr (ao ak) 0->r 2=.ptr (ao h.next) 0->r 3=.int .i64 dQ->Mod (b3 ak) h g->Has g h.next b8->dB B (Fr B) g 5 (List.map aP.enc l) (r 7)->l.length<=1000002->dz W af ak g aC rg d->(rg >>= fun ws=>eD af fO ws >>= fun ws=>fc af 3 ws >>= fun z=>.ok (aP.mk 2 0 dQ z.1.text l,z.2))=res->bL Tryz.prog aQ .normal r g Q):zG Tryz.prog Np.1 (iv.bp 0::aQ) r g Q:=by
 refine gb (LP W af ak n d h B aC a dQ res) (fun _ g=>mB W ak g) wS ?_;rintro r ad ⟨z0,z2,z3,cw,bz,aI,m,l,rg,hm,O,aG,tC,jJ,hG,cz,U⟩;have bX:=C.lt;have sh:ak<B:=by omega
 unfold Np;have ol:=O.one;have ee:=cE.start cz;simp only [z0,z2,z3,ol.1,ol.2.1,ol.2.2,↓aa,ab,simprocAttr];refine bQ (jG ee.C) ?_;cases rg with
 | error e=>
   replace U:=kY U;simp only [kl,z0,z2,z3,ol.1,ol.2.1,ol.2.2,↓aa,ab,simprocAttr];refine b' _ _ l (.error e) (by simp only [z0,↓aa,cM,simprocAttr]) (by simp only [z2,↓aa,cM,simprocAttr]) (by simp only [z3,↓aa,cM,simprocAttr]) cw bz (by simp only [↓aa,cM,simprocAttr]<;>exact O) aG cz ?_;exact U.symm
 | ok a_=>
   replace U:=hk U
   try dsimp only at U
   simp only [j2,z0,z2,z3,ol.1,ol.2.1,ol.2.2,↓aa,ab,simprocAttr];refine bQ (ff ee.C jt) ?_;cases b_:bm jt a_ with
   | true=>
     cases m with
     | zero=>exact (a8 U.symm).elim
     | succ m=>
       have I:=J m (by omega);obtain ⟨i2,ag,fu,mf,av,m2,bx⟩:=ee.C.iG (gP b_);have bM:=ee.call m2 bx;have cX:=O.len;rw [ao6] at cX;simp only [fu.g,mf,av,z0,z2,z3,ol.1,ol.2.1,ol.2.2,↓aa,ab,simprocAttr];refine aY (Pd bM.C (l:=l) cX) ?_;rintro x ar ⟨m3,bV,fR,cq⟩;have bj:=bM.call m3 cq;replace U:=(al1 (T:=aU af m) (d:=d) (fin:=C' af a dQ) b_ fR).symm.trans U;simp only [z0,z2,z3,ol.1,ol.2.1,ol.2.2,↓aa,ab,simprocAttr];refine aY (I.ty d _ ar aC bj.C (fA (r:=bV) U a8)) ?_;rintro x aT ⟨b,eK,cU,jY,rfl,rZ,m4,ch⟩;replace U:=e6 (r:=bV) U jY
       try dsimp only at U
       have a6:=bj.eN m4 ch rZ;have jO:=a6.bg.one;obtain ⟨bE,ca,bO⟩:=a6.st b8 (vcs b eK);have D:=(OP fR).trans (u3 ((shorter af m).ty d · (.inl trivial)) jY);have lV:=hq O bO.M (sh) (sh);obtain ⟨v6,bA,cx,wi,lC,_,_⟩:=pf lV (bO.bg.eU (eX:=Fr ad.next) fun b q=>q.1) (lg O (aoz _)) aI bO.M.next (by (try simp only [aoH]);omega)
       try simp only [vcs,bR] at cx
       have op:=bO.bg.one;have cv:=C.own bO.C lC (fun b q=>aoF (apB cd) q.1);have di:=ou (cw.trans bO.M) lC (apB cd);have kh:=oa (bz.mod bO.M (bU bX)) lC (.inl cd);have Qi:=aoF aI (aoF bO.M.next lC.next);have cj:=cE.start cv;simp only [jO.1,jO.2.1,jO.2.2,ca,bO.a'.g,op.1,op.2.1,op.2.2,cx,vcs,bR,z0,z2,z3,ol.1,ol.2.1,ol.2.2,↓aa,ab,simprocAttr];have qq:=hG _ rfl;have BQ:=x9 (gP b_);have key:∀w,cU=.ok w->w.length<a_.length:=fun w e=>by obtain ⟨x,bs,au⟩:=D w e;cases bs;omega
       exact ⟨⟨z0,z2,z3,di,kh,Qi,m,l++[b],cU,by omega,wi,by rw [aoL,ao0];omega,by rw [aoL,ao0];omega,fun q=>by rw [aoL,ao0] at q;omega,fun w e=>by have:=key w e;rw [aoL,ao0];omega,cv,U⟩,sD cz cv key⟩
   | false=>
     have ru:¬l.length=1:=fun q=>by obtain ⟨w,e,al⟩:=jJ q;cases e;rw [b_] at al;cases al
     cases m with
     | zero=>exact (a8 U.symm).elim
     | succ m=>
       simp only [z0,z2,z3,ol.1,ol.2.1,ol.2.2,↓aa,ab,simprocAttr];refine b' _ _ l (.ok a_) (by simp only [z0,↓aa,cM,simprocAttr]) (by simp only [z2,↓aa,cM,simprocAttr]) (by simp only [z3,↓aa,cM,simprocAttr]) cw bz (by simp only [↓aa,cM,simprocAttr]<;>exact O) aG cz ?_;replace U:(oC af (aU af m) d l a_ >>= C' af a dQ)=res:=U;unfold oC at U;rw [aoI (by rw [b_];exact ao2)] at U;replace U:=hk U;unfold C' at U;simp only [aoI ru] at U;exact U
end
section
variable {W:List aq} {af ak n d:Nat} {ws:List aq} {r:bJ (List aq)}
theorem alP (J:∀m,m<=n->jx W af ak m) (d:Nat) (ws:List aq):e2 W af ak 210 [] d ((aU af (n+1)).jf d) (.ok ws):=by
 have I:=J n (aoz n);refine ll fun h aC res C U a8=>XF.z rfl (cm ?_);replace U:uz af (aU af n) d ws=res:=U;unfold uz at U;unfold G_;have ee:=cE.start C;dsimp only at U;have bX:=C.lt;have IH:=C.p6;obtain ⟨ad,an,b2⟩:=ee.new b8;simp only [an,↓aa,ab,simprocAttr];refine bQ (sj b2.C) ?_;simp only [↓aa,ab,simprocAttr];refine bQ (lB b2.C 5) ?_;cases b_:cS 5 ws with
 | true=>
   simp only [b_,aoM] at U;simp only [↓aa,ab,simprocAttr];refine aY (p3 b2.C b_) ?_;rintro x ag ⟨m2,aR,bY,rfl,e4,bx⟩;rw [bY] at U
   try replace U:=hk U
   try dsimp only at U
   have bM:=b2.call m2 bx;obtain ⟨ar,aB,bj⟩:=bM.st [.int .i64 0,.int .i64 0,.int .i64 0,.str []] [.int .i64 aR.kind,.int .i64 aR.num,.int .i64 aR.pos,.str aR.text];have gC:=bj.leaf 1 0 (bI af ws) (s:=aR.text) (iF.fh bj.C e4);simp only [aq.enc,aB,bj.a'.g,↓aa,ab,simprocAttr];refine aY (gf 1 (bI af ws) aR.text gC.bg.c') ?_;rintro x aT ⟨rfl,cO⟩;have a6:=gC.ext cO;have o:=a6.bg.one;have bb:=a6.drop.du (vcs (aP.mk 1 0 (bI af ws) aR.text []) .cL);simp only [bb.a'.g,o.1,o.2.1,o.2.2,aX,vcs,bR,a6.a'.g,a6.bT.g,↓aa,ab,simprocAttr];exact bb.fin U.symm
 | false=>
   simp only [b_,aoA,aoK] at U;simp only [↓aa,ab,simprocAttr];refine bQ (lB b2.C 3) ?_;cases dD:cS 3 ws with
   | true=>
     simp only [dD,aoM] at U;simp only [↓aa,ab,simprocAttr];refine aY (p3 b2.C dD) ?_;rintro x ag ⟨m2,aR,bY,rfl,e4,bx⟩;rw [bY] at U
     try replace U:=hk U
     try dsimp only at U
     have bM:=b2.call m2 bx;obtain ⟨ar,aB,bj⟩:=bM.st [.int .i64 0,.int .i64 0,.int .i64 0,.str []] [.int .i64 aR.kind,.int .i64 aR.num,.int .i64 aR.pos,.str aR.text];have gC:=bj.leaf 2 0 (bI af ws) (s:=aR.text) (iF.fh bj.C e4);simp only [aq.enc,aB,bj.a'.g,↓aa,ab,simprocAttr];refine aY (gf 2 (bI af ws) aR.text gC.bg.c') ?_;rintro x aT ⟨rfl,cO⟩;have a6:=gC.ext cO;have o:=a6.bg.one;have bb:=a6.drop.du (vcs (aP.mk 2 0 (bI af ws) aR.text []) .cL);simp only [bb.a'.g,o.1,o.2.1,o.2.2,aX,vcs,bR,a6.a'.g,a6.bT.g,↓aa,ab,simprocAttr];exact bb.fin U.symm
   | false=>
     simp only [dD,aoA,aoK] at U;simp only [↓aa,ab,simprocAttr];refine aY (iy b2.C hr) ?_;rintro x ag ⟨m2,bc,bY,bx⟩;replace U:=iW (r:=(.ok ws)) U bY
     try dsimp only at U
     have bM:=b2.call m2 bx;simp only [↓aa,ab,simprocAttr];refine aY (I.ty d _ ag aC bM.C (fA (r:=bc) U a8)) ?_;rintro x ar ⟨a,b4,bV,fR,rfl,gZ,m3,cq⟩;replace U:=e6 (r:=bc) U fR
     try dsimp only at U
     have bj:=bM.eN m3 cq gZ;have c4:=bj.bg.one;obtain ⟨aT,bt,cO,eL⟩:=fz ar b8 (vcs a b4);have GL:=gZ.ext cO;have a6:=bj.box cO eL;have D:=(DQ bY).trans (u3 ((shorter af n).ty d · (.inl trivial)) fR);simp only [c4.1,c4.2.1,c4.2.2,bt,↓aa,ab,simprocAttr];refine bQ (jG a6.C) ?_;cases bV with
     | error e=>
       replace U:=kY U;replace U:(Except.error e >>= fun ws=>eD af fO ws >>= fun w=>.ok (a,w))=res:=U.symm;simp only [kl,↓aa,ab,simprocAttr];refine aY (iy a6.C fO) ?_;rintro x bE ⟨m5,b1,eW,bW⟩;replace U:=iW (r:=(.error e)) U eW
       try dsimp only at U
       have bO:=a6.call m5 bW;have o:=bO.bg.one;have bb:=bO.drop.du (vcs a b4);simp only [bb.a'.g,o.1,o.2.1,o.2.2,aX,vcs,bR,bO.a'.g,bO.bT.g,↓aa,ab,simprocAttr];exact bb.fin (ji U)
     | ok dk=>
       replace U:=hk U
       try dsimp only at U
       simp only [j2,↓aa,ab,simprocAttr];refine bQ (ff a6.C jt) ?_;cases eO:bm jt dk with
       | true=>
         obtain ⟨bE,ca,e7,s4⟩:=zX GL (aoF m3.next cO.next);have cd:h.next<ag.next:=bM.a'.lt
         have bO:=(a6.ext e7).drop;simp only [a6.a'.g,ca,↓aa,ab,simprocAttr];have qq:=bO.C.p6;refine alQ (dQ:=bI af ws) J C cd a8 _ _ _ _ ⟨by simp only [↓aa,cM,simprocAttr],by simp only [↓aa,cM,simprocAttr],by simp only [↓aa,cM,simprocAttr],bO.M,bO.a',by have:=m3.next;have:=cO.next;have:=e7.next;omega,n,[a],.ok dk,aoz _,by simp only [↓aa,cM,simprocAttr];exact s4,by simp,by simp,fun _=>⟨_,rfl,eO⟩,fun w e=>by cases e;simp only [aoH,aoS];omega,bO.C,U⟩ ?_;rintro r ad l rg z0 z2 z3 cw bz O aG cz U;have ee:=cE.start cz;simp only [z0,z2,z3,↓aa,ab,simprocAttr];refine aY (iy ee.C fO) ?_;rintro x ag ⟨m2,bc,bY,bx⟩;replace U:=iW (r:=rg) U bY
         try dsimp only at U
         have bM:=ee.call m2 bx;simp only [z0,z2,z3,↓aa,ab,simprocAttr];refine aY (x' bM.C 3) ?_;rintro x ar ⟨m3,eH,bV,fR,rfl,pR,cq⟩;replace U:=e6 (r:=bc) U fR
         try dsimp only at U
         have bj:=bM.call m3 cq;obtain ⟨aT,bt,a6⟩:=bj.st [.int .i64 0,.int .i64 0,.int .i64 0,.str []] [.int .i64 eH.kind,.int .i64 eH.num,.int .i64 eH.pos,.str eH.text];have lV:=hq O a6.M (by omega) (by omega);have cr:=lV.one;have T5:=bz.mod a6.M (bU bX);simp only [aq.enc,bt,a6.a'.g,cr.1,cr.2.1,cr.2.2,z0,z2,z3,↓aa,ab,simprocAttr];refine aY (gf 2 (bI af ws) eH.text (ud lV (by omega))) ?_;rintro x bN ⟨rfl,wN⟩;have bb:=(cE.xE C a6.C (cw.trans a6.M) T5 (rI lV (by omega) 2 0 (bI af ws) (iF.fh a6.C pR)) cd).ext wN;have mO:=bb.du (vcs (aP.mk 2 0 (bI af ws) eH.text l) (r 7));simp only [bb.a'.g,mO.a'.g,cr.1,cr.2.1,cr.2.2,aX,vcs,bR,z0,z2,z3,↓aa,ab,simprocAttr];exact mO.fin (ji U)
       | false=>
         cases n with
         | zero=>exact (a8 U.symm).elim
         | succ m=>
           replace U:(oC af (aU af m) d [a] dk >>= C' af a (bI af ws))=res:=U;unfold oC at U;rw [aoI (by rw [eO];exact ao2)] at U;replace U:(eD af fO dk >>= fun w=>.ok (a,w))=res:=U;simp only [↓aa,ab,simprocAttr];refine aY (iy a6.C fO) ?_;rintro x bE ⟨m5,b1,eW,bW⟩;replace U:=iW (r:=(.ok dk)) U eW
           try dsimp only at U
           have bO:=a6.call m5 bW;have o:=bO.bg.one;have bb:=bO.drop.du (vcs a b4);simp only [bb.a'.g,o.1,o.2.1,o.2.2,aX,vcs,bR,bO.a'.g,bO.bT.g,↓aa,ab,simprocAttr];exact bb.fin (ji U)
theorem ajb (m:Nat) (d:Nat) (ws:List aq) (h:ah) (aC:V) (C:dz W af ak h aC (.ok ws) d) (a8:pg af m ws≠.error b6):dY Tryz.prog 68 [.ptr (ao ak) 0] h (GF W af ak h aC d (pg af m ws)):=by
 generalize U:pg af m ws=res at a8 ⊢;unfold pg at U;refine Yu.z rfl (cm ?_);unfold N4;have bX:=C.lt;have IH:=C.p6;have ee:=cE.start C;simp only [↓aa,ab,simprocAttr];refine bQ (lB ee.C 5) ?_;cases b_:cS 5 ws with
 | true=>
   simp only [b_,aoM] at U;simp only [↓aa,ab,simprocAttr];refine aY (p3 ee.C b_) ?_;rintro x ad ⟨m1,b9,kA,rfl,xk,cz⟩;rw [kA] at U
   try replace U:=hk U
   try dsimp only at U
   have b2:=ee.call m1 cz;obtain ⟨ag,av,bM⟩:=b2.st [.int .i64 0,.int .i64 0,.int .i64 0,.str []] [.int .i64 b9.kind,.int .i64 b9.num,.int .i64 b9.pos,.str b9.text];have AI:=bM.leaf 1 0 b9.pos (s:=b9.text) (iF.fh bM.C xk);simp only [aq.enc,av,bM.a'.g,↓aa,ab,simprocAttr];refine aY (gf 1 b9.pos b9.text AI.bg.c') ?_;rintro x ar ⟨rfl,cT⟩;have bj:=AI.ext cT;have O:=dB.nil h.next (Fr h.next) ar 5
   obtain ⟨v4,aT,bt,oK,zK,_,_⟩:=pf (l:=[]) (hg:=h.next) O (bj.bg.eU (eX:=Fr h.next) fun b q=>q.1) (fun b q=>by cases q) (aoz _) bj.M.next (by simp)
   simp only [vcs,bR] at bt;simp only [aX,bt,vcs,bR,↓aa,ab,simprocAttr];exact ⟨[h4 b9],.ok ws.tail,U.symm,oK,by simp,ou bj.M zK (aoz _),C.own bj.C zK (fun b q=>q.1)⟩
 | false=>
   simp only [b_,aoA,aoK] at U;simp only [↓aa,ab,simprocAttr];refine bQ (ff ee.C hr) ?_;cases dD:bm hr ws with
   | true=>
     simp only [dD,aoM] at U;obtain ⟨i1,ad,bz,amk,an,m1,cz⟩:=ee.C.iG (gP dD);have b2:=ee.call m1 cz;simp only [bz.g,amk,an,↓aa,ab,simprocAttr];have BQ:=Am ws;refine gb (fun r g=>r 0=.ptr (ao ak) 0/\Mod (b3 ak) h g/\∃m l rg,dB h.next (Fr h.next) g 5 (List.map aP.enc l) (r 3)/\l.length<=1000002/\(∀w,rg=.ok w->l.length+w.length<=1000001)/\dz W af ak g aC rg d/\(rg >>= fun ws=>fc af 5 ws >>= fun q=>kN af m (l++[h4 q.1]) q.2 >>= fun z=>eD af fO z.2 >>= fun w=>.ok (z.1,w))=res) (fun _ g=>mB W ak g) ?_ ?_
     . exact ⟨by simp only [↓aa,cM,simprocAttr],b2.M,m,[],.ok ws.tail,by simp only [↓aa,cM,simprocAttr];exact dB.nil _ _ _ _,by simp,fun w e=>by cases e;simp only [aoS];omega,b2.C,U⟩
     rintro r ad ⟨z0,cw,m,l,rg,O,aG,hG,cz,U⟩;have ee:=cE.start cz;simp only [z0,↓aa,ab,simprocAttr];refine aY (x' ee.C 5) ?_;rintro x ag ⟨m2,aR,bc,bY,rfl,e4,bx⟩;replace U:=e6 (r:=rg) U bY
     try dsimp only at U
     have bM:=ee.call m2 bx;obtain ⟨ar,aB,bj⟩:=bM.st [.int .i64 0,.int .i64 0,.int .i64 0,.str []] [.int .i64 aR.kind,.int .i64 aR.num,.int .i64 aR.pos,.str aR.text];have gC:=bj.leaf 1 0 aR.pos (s:=aR.text) (iF.fh bj.C e4);simp only [aq.enc,aB,bj.a'.g,z0,↓aa,ab,simprocAttr];refine aY (gf 1 aR.pos aR.text gC.bg.c') ?_;rintro x aT ⟨rfl,cO⟩;have a6:=gC.ext cO;have D:=OQ bY;have lV:=hq O a6.M (bX) (bX);obtain ⟨v5,bE,ca,s4,Rs,_,_⟩:=pf lV (a6.bg.eU (eX:=Fr ad.next) fun b q=>q.1) (lg O (aoz _)) cw.next a6.M.next (by omega)
     try simp only [vcs,bR] at ca
     have op:=a6.bg.one;have bW:=C.own a6.C Rs (fun b q=>aoF (aoz _) q.1);have cR:=ou (cw.trans a6.M) Rs (aoz _);have bO:=cE.start bW;have on:=s4.one;simp only [op.1,op.2.1,op.2.2,ca,vcs,bR,z0,↓aa,ab,simprocAttr];refine bQ (jG bO.C) ?_;cases bc with
     | error e=>
       replace U:=kY U;replace U:((.error e) >>= fun ws=>eD af fO ws >>= fun w=>.ok (l++[h4 aR],w))=res:=U.symm;simp only [kl,on.1,on.2.1,on.2.2,z0,↓aa,ab,simprocAttr];refine aY (iy bO.C fO) ?_;rintro x bA ⟨m6,dS,iV,cv⟩;replace U:=iW (r:=(.error e)) U iV
       try dsimp only at U
       have cj:=bO.call m6 cv;simp only [aX,z0,↓aa,ab,simprocAttr];exact ⟨l++[h4 aR],_,ji U,hq s4 m6 bX bX,by rw [aoL,ao0];omega,cR.trans m6,cv⟩
     | ok ft=>
       replace U:=hk U
       try dsimp only at U
       simp only [j2,z0,↓aa,ab,simprocAttr];refine bQ (ff bO.C jt) ?_;cases eO:bm jt ft with
       | true=>
         cases m with
         | zero=>exact (a8 U.symm).elim
         | succ m=>
           replace U:(kN af (m+1) (l++[h4 aR]) ft >>= fun z=>eD af fO z.2 >>= fun w=>.ok (z.1,w))=res:=U;unfold kN at U;rw [aoN eO] at U;obtain ⟨i6,bA,kh,aml,cx,m6,cv⟩:=bO.C.iG (gP eO);have cj:=bO.call m6 cv;have cX:=s4.len;rw [ao6] at cX;simp only [kh.g,aml,cx,z0,↓aa,ab,simprocAttr];refine aY (Pd cj.C (l:=(l++[h4 aR])) cX) ?_;rintro x cl ⟨m7,fg,LG,eP⟩;have cV:=cj.call m7 eP;replace U:(fg >>= fun ws=>fc af 5 ws >>= fun q=>kN af m (l++[h4 aR]++[h4 q.1]) q.2 >>= fun z=>eD af fO z.2 >>= fun w=>.ok (z.1,w))=res:=by
            rw [<-U,LG];show ((jl af (l++[h4 aR]) ft.tail >>= fun _=>.ok ft.tail) >>= _)=((jl af (l++[h4 aR]) ft.tail >>= fun _=>fc af 5 ft.tail >>= fun q=>kN af m (l++[h4 aR]++[h4 q.1]) q.2) >>= _);cases jl af (l++[h4 aR]) ft.tail with
            | error e=>rfl
            | ok u=>
              show (fc af 5 ft.tail >>= _)=((fc af 5 ft.tail >>= _) >>= _);cases fc af 5 ft.tail<;>rfl
           simp only [z0,↓aa,ab,simprocAttr];obtain ⟨ye,rfl,anG⟩:=D _ rfl;have qq:=hG _ rfl;have anF:=x9 (gP eO);have Gk:=OP LG;have key:∀w,fg=.ok w->w.length<ye.length:=fun w e=>by obtain ⟨x,bs,au⟩:=Gk w e;cases bs;omega
           exact ⟨⟨cR.trans (m6.trans m7),m,l++[h4 aR],fg,hq (hq s4 m6 bX bX) m7 bX bX,by rw [aoL,ao0];omega,fun w e=>by have:=key w e;rw [aoL,ao0];omega,eP,U⟩,sD cz eP key⟩
       | false=>
         cases m with
         | zero=>exact (a8 U.symm).elim
         | succ m=>
           replace U:(kN af (m+1) (l++[h4 aR]) ft >>= fun z=>eD af fO z.2 >>= fun w=>.ok (z.1,w))=res:=U;unfold kN at U;rw [aoI (by rw [eO];exact ao2)] at U;replace U:((.ok ft) >>= fun ws=>eD af fO ws >>= fun w=>.ok (l++[h4 aR],w))=res:=U;simp only [on.1,on.2.1,on.2.2,z0,↓aa,ab,simprocAttr];refine aY (iy bO.C fO) ?_;rintro x bA ⟨m6,dS,iV,cv⟩;replace U:=iW (r:=(.ok ft)) U iV
           try dsimp only at U
           have cj:=bO.call m6 cv;simp only [aX,z0,↓aa,ab,simprocAttr];exact ⟨l++[h4 aR],_,ji U,hq s4 m6 bX bX,by rw [aoL,ao0];omega,cR.trans m6,cv⟩
   | false=>
     simp only [dD,aoA,aoK] at U;simp only [aX,↓aa,ab,simprocAttr];exact ⟨[],.ok ws,U.symm,dB.nil _ _ _ _,by simp,Mod.refl _ _,C⟩
end
section
variable {W:List aq} {af ak n d:Nat} {ws:List aq} {r:bJ (List aq)}
theorem aj0 {B:aN->Prop} {h:ah} {c:aP} {v:V} {a:Int} (A:dt B h c v):dt B h (.mk c.k c.n a c.s c.l) v:=⟨A.c',A.str⟩
theorem aag {k:Int} {bq:bJ (List aq)} {p:aP} {N:Nat} (E:(r >>= kZ af (aU af N) k)=bq.map (fun ws=>(p,ws))):p_ r bq:=by
 refine u3 (P:=fun _=>True) (fun w=>?_) E;unfold kZ;refine (ky (fun _ _=>trivial)).bind (fun _ _=>trivial) fun b9 a_ ad=>?_
 try simp only
 split
 . rename_i al;have:=fw al;exact ((shorter af N).ty 0 _ (.inl trivial)).bind (fun _ _=>trivial) fun b bu ag=>by show bu.length<_;omega
 . exact ad
theorem Z3 (I:jx W af ak n) (m0:Nat) (d:Nat) (bk:d=0) (ws:List aq):e2 W af ak 28 [] d (n5 af (aU af n) m0) (.ok ws):=by
 refine ll fun h aC res C U a8=>X0.z rfl (cm ?_);replace U:n5 af (aU af n) m0 ws=res:=U;unfold n5 at U;dsimp only at U;rw [show (aU af n).pat 0=(aU af n).pat d from by rw [bk],show (aU af n).seq 0=(aU af n).seq d from by rw [bk],show (aU af n).binds 0=(aU af n).binds d from by rw [bk]] at U;unfold NH;have bX:=C.lt;have IH:=C.p6;have ee:=cE.start C;obtain ⟨ad,an,b2⟩:=ee.new b8;simp only [an,↓aa,ab,simprocAttr];refine bQ (sj b2.C) ?_;simp only [↓aa,ab,simprocAttr];refine bQ (ff b2.C zB) ?_;cases b_:bm zB ws with
 | true=>
   simp only [b_,aoM] at U;obtain ⟨i2,ag,fu,mf,av,m2,bx⟩:=b2.C.iG (gP b_);have bM:=b2.call m2 bx;simp only [fu.g,mf,av,↓aa,ab,simprocAttr];refine aY (ajb m0 d _ ag aC bM.C (fun q=>by rw [q] at U;exact a8 U.symm)) ?_;rintro x ar ⟨j_,bV,fR,Dt,tC,m3,cq⟩;replace U:=e6 (r:=(.ok ws.tail)) (f:=pg af m0) U fR
   try dsimp only at U
   have ol:=Dt.one;have zF:=Dt.len;rw [ao6] at zF;have bj:=bM.call m3 cq;simp only [ol.1,ol.2.1,ol.2.2,zF,↓aa,ab,simprocAttr];refine aY (x' bj.C 3) ?_;rintro x aT ⟨m4,gn,cU,jY,rfl,xl,ch⟩;replace U:=e6 (r:=bV) U jY
   try dsimp only at U
   have a6:=bj.call m4 ch;obtain ⟨bE,ca,e7,iB⟩:=fz aT [.int .i64 0,.int .i64 0,.int .i64 0,.str []] [.int .i64 gn.kind,.int .i64 gn.num,.int .i64 gn.pos,.str gn.text];have bO:=a6.box e7 iB;simp only [aq.enc,ca,↓aa,ab,simprocAttr];refine aY (iy bO.C h3) ?_;rintro x bA ⟨m6,dS,iV,cv⟩;replace U:=iW (r:=cU) U iV
   try dsimp only at U
   have cj:=bO.call m6 cv;have cd:h.next<ag.next:=bM.a'.lt
   have GG:=R6 ((hq Dt m4 (by omega) (by omega))) (aoz _);have dI:=fun q=>dj (aoz _) ((hq Dt m4 (by omega) (by omega)).RP (b:=ao aT.next) q);have U0:=zW (GG.ext e7) m6 (by omega);have Aw:=cj.a';have anv:ag.next<=aT.next:=by have:=m3.next;have:=m4.next;omega
   have EM:aT.next<bA.next:=Aw.lt
   generalize Qi:aT.next=n6 at *
   obtain ⟨dQ,PV⟩:∃dQ:Int,dQ=(bI af ws:Nat):=⟨_,rfl⟩;rw [<-PV] at U;simp only [↓aa,ab,simprocAttr];refine gb (fun r g=>r 0=.ptr (ao ak) 0/\r 2=.ptr (ao h.next) 0/\r 3=.int .i64 (bI af ws)/\r 5=.int .i64 j_.length/\r 6=.ptr (ao n6) 0/\Mod (b3 ak) h g/\Has g h.next b8/\Has g n6 [.int .i64 gn.kind,.int .i64 gn.num,.int .i64 gn.pos,.str gn.text]/\∃m l rg,dB ag.next (lp ag.next n6) g 5 (List.map aP.enc (j_++l)) (r 4)/\¬(r 4).bp (ao n6)/\l.length<=1000000/\(∀w,rg=.ok w->l.length+w.length<=1000000)/\dz W af ak g aC rg d/\(rg >>= fun ws=>kZ af (aU af n) 47 ws >>= fun q=>oS af (aU af n) m (j_++l++[q.1]) q.2 >>= fun z=>.ok (aP.mk 50 j_.length dQ gn.text z.1,z.2))=res) (fun _ g=>mB W ak g) ?_ ?_
   . exact ⟨by simp only [↓aa,cM,simprocAttr],by simp only [↓aa,cM,simprocAttr],by simp only [↓aa,cM,simprocAttr],by simp only [↓aa,cM,simprocAttr],by simp only [↓aa,cM,simprocAttr],cj.M,cj.bT,Aw,m0,[],dS,by simp only [↓aa,cM,simprocAttr];rw [aoX];exact U0,by simp only [↓aa,cM,simprocAttr];exact dI,by simp,fun w e=>by have:=dz.p6 (e ▸ cj.C);simp only [aoS];omega,cj.C,by rw [aoX];exact U⟩
   clear U;subst PV;rintro r ad ⟨z0,z2,z3,z5,ke,cw,bz,Aw,m,l,rg,O,dI,aG,hG,cz,U⟩;have sh:ak<ag.next:=by omega
   have ee:=cE.start cz;simp only [z0,z2,z3,z5,ke,↓aa,ab,simprocAttr];refine aY (OB I d bk 47 _ ad aC ee.C (fA (r:=rg) U a8)) ?_;rintro x ag ⟨c,eu,bc,bY,rfl,gI,m2,bx⟩;replace U:=e6 (r:=rg) U bY
   try dsimp only at U
   have bM:=ee.eN m2 bx gI;have dN:=bM.bg.one;obtain ⟨ar,aB,bj⟩:=bM.st b8 (vcs c eu);have D:=aag bY;have ac8:=Aw.lt;have lV:=zW O bj.M sh;obtain ⟨v4,aT,bt,oK,zK,ag_,adT⟩:=Ka lV (bj.bg.eU (eX:=Fr ad.next) fun b q=>q.1) (lg O (aoz _)) ac8 (by omega) bj.M.next (by rw [aoL];omega)
   have op:=bj.CI;have ch:=C.own bj.C zK (fun b q=>aoF (apB cd) q.1);have cZ:=ou (cw.trans bj.M) zK (apB cd);have eL:=oa (bz.mod bj.M (bU bX)) zK (.inl cd);have Ax:=(Aw.mod bj.M (bU (by omega))).mod ag_ dI;have ahk:¬V.bp v4 (ao n6):=fun q=>by
    rcases adT _ q with q | q
    . exact dI q
    . rw [dh] at q;have:=bj.M.next;omega
   have a6:=cE.start ch;simp only [dN.1,dN.2.1,dN.2.2,aB,bj.a'.g,op.1,op.2.1,op.2.2,bt,z0,z2,z3,z5,ke,↓aa,ab,simprocAttr];refine bQ (jG a6.C) ?_;cases bc with
   | error e=>
     replace U:=kY U;have cr:=oK.one;have bb:=cE.xE C ch cZ eL (rI (oK.eU fun b q=>q.1) (by simp only [aoL,aoH,aoS];omega) 50 j_.length (bI af ws) (iF.fh ch xl)) cd;have mO:=bb.du (vcs (aP.mk 50 j_.length (bI af ws) gn.text (j_++l++[c])) v4);simp only [eL.g,Ax.g,bb.a'.g,mO.a'.g,cr.1,cr.2.1,cr.2.2,aX,vcs,bR,kl,z0,z2,z3,z5,ke,↓aa,ab,simprocAttr];exact mO.fin (r:=.error e) U
   | ok dk=>
     replace U:=hk U
     try dsimp only at U
     simp only [j2,z0,z2,z3,z5,ke,↓aa,ab,simprocAttr];refine bQ (ff a6.C jT) ?_;cases dD:bm jT dk with
     | true=>
       obtain ⟨i5,bE,iB,uG,ca,m5,bW⟩:=a6.C.iG (gP dD);have bO:=a6.call m5 bW;simp only [iB.g,uG,ca,z0,z2,z3,z5,ke,↓aa,ab,simprocAttr];have EA:=x9 (gP dD);obtain ⟨ye,rfl,BQ⟩:=D _ rfl;have qq:=hG _ rfl;cases m with
       | zero=>exact (a8 U.symm).elim
       | succ m=>
         replace U:(oS af (aU af n) (m+1) (j_++l++[c]) dk >>= fun z=>.ok (aP.mk 50 j_.length (bI af ws) gn.text z.1,z.2))=res:=U;unfold oS at U;rw [aoN dD] at U;refine ⟨⟨cZ.trans m5,eL.mod m5 (bU bX),Ax.mod m5 (bU (by omega)),m,l++[c],.ok dk.tail,by rw [<-List.append_assoc];exact zW oK m5 sh,ahk,by rw [aoL,ao0];omega,fun w e=>by cases e;rw [aoL,ao0];omega,bW,?_⟩,JK cz bW D (gP dD)⟩;rw [<-U];show (kZ af (aU af n) 47 dk.tail >>= _)=((kZ af (aU af n) 47 dk.tail >>= _) >>= _);rw [<-List.append_assoc];cases kZ af (aU af n) 47 dk.tail<;>rfl
     | false=>
       cases m with
       | zero=>exact (a8 U.symm).elim
       | succ m=>
         replace U:(oS af (aU af n) (m+1) (j_++l++[c]) dk >>= fun z=>.ok (aP.mk 50 j_.length (bI af ws) gn.text z.1,z.2))=res:=U;unfold oS at U;rw [aoI (by rw [dD];exact ao2)] at U;have cr:=oK.one;have bb:=cE.xE C ch cZ eL (rI (oK.eU fun b q=>q.1) (by simp only [aoL,aoH,aoS];omega) 50 j_.length (bI af ws) (iF.fh ch xl)) cd;have mO:=bb.du (vcs (aP.mk 50 j_.length (bI af ws) gn.text (j_++l++[c])) v4);simp only [eL.g,Ax.g,bb.a'.g,mO.a'.g,cr.1,cr.2.1,cr.2.2,aX,vcs,bR,z0,z2,z3,z5,ke,↓aa,ab,simprocAttr];exact mO.fin (r:=.ok dk) U.symm
 | false=>
   simp only [b_,aoA,aoK] at U;simp only [↓aa,ab,simprocAttr];refine bQ (ff b2.C zw) ?_;cases dD:bm zw ws with
   | true=>
     simp only [dD,aoM] at U;obtain ⟨i2,ag,fu,mf,av,m2,bx⟩:=b2.C.iG (gP dD);have bM:=b2.call m2 bx;simp only [fu.g,mf,av,↓aa,ab,simprocAttr];refine aY (OB I d bk 51 _ ag aC bM.C (fA (r:=(.ok ws.tail)) U a8)) ?_;rintro x ar ⟨c,eu,bV,fR,rfl,gZ,m3,cq⟩;replace U:=e6 (r:=(.ok ws.tail)) U fR
     try dsimp only at U
     have bj:=bM.eN m3 cq gZ;have c4:=bj.bg.one;obtain ⟨aT,bt,a6⟩:=bj.st b8 (vcs c eu);have bO:=a6.du [.int .i64 c.k,.int .i64 c.n,.int .i64 (bI af ws),.str c.s,eu];generalize ca:aT.set _ _=bE at bO;have gS:=bO.AS (aj0 (a:=bI af ws) bO.bg);have o:=gS.bg.one;have bb:=gS.drop.du (vcs (aP.mk c.k c.n (bI af ws) c.s c.l) eu);simp only [bb.a'.g,o.1,o.2.1,o.2.2,aX,vcs,bR,c4.1,c4.2.1,c4.2.2,bt,a6.a'.g,ca,bO.a'.g,gS.a'.g,gS.bT.g,↓aa,ab,simprocAttr];exact bb.fin (ji U)
   | false=>
     simp only [dD,aoA,aoK] at U;simp only [↓aa,ab,simprocAttr];refine aY (iy b2.C rC) ?_;rintro x ag ⟨m2,bc,bY,bx⟩;replace U:=iW (r:=(.ok ws)) U bY
     try dsimp only at U
     have bM:=b2.call m2 bx;simp only [↓aa,ab,simprocAttr];refine bQ (jG bM.C) ?_;cases bc with
     | error e=>
       replace U:=kY U;replace U:(Except.error e >>= fun aA=>(aU af n).pat d aA >>= fun q=>eD af h3 q.2 >>= fun w=>(aU af n).seq d w >>= fun z=>.ok (aP.mk 52 0 (bI af ws) [] [q.1,z.1],z.2))=res:=U.symm;simp only [kl,↓aa,ab,simprocAttr];refine aY (I.pat d _ ag aC bM.C (fA (r:=(.error e)) U a8)) ?_;rintro x ar ⟨a,b4,bV,fR,rfl,gZ,m3,cq⟩;replace U:=e6 (r:=(.error e)) U fR
       try dsimp only at U
       have bj:=bM.eN m3 cq gZ;have c4:=bj.bg.one;obtain ⟨aT,bt,a6⟩:=bj.st b8 (vcs a b4);simp only [c4.1,c4.2.1,c4.2.2,bt,↓aa,ab,simprocAttr];refine aY (iy a6.C h3) ?_;rintro x bE ⟨m5,b1,eW,bW⟩;replace U:=iW (r:=bV) U eW
       try dsimp only at U
       have bO:=a6.call m5 bW;simp only [↓aa,ab,simprocAttr];refine aY (I.seq d _ bE aC bO.C (fA (r:=b1) U a8)) ?_;rintro x bA ⟨b,eK,dS,iV,rfl,kW,m6,cv⟩;replace U:=e6 (r:=b1) U iV
       try dsimp only at U
       have cj:=bO.eN m6 cv kW;have gl:=cj.bg.one;obtain ⟨cl,dq,cV⟩:=cj.st b8 (vcs b eK);have kt:=cV.cg.one;have ku:=cV.bg.one;obtain ⟨er,dy,f',dK⟩:=cV.qD cV.cg cV.bg 52 (bI af ws) (s:=[]) (aoQ _);simp only [vcs,aoW,ao5] at dy;simp only [gl.1,gl.2.1,gl.2.2,dq,cV.bT.g,cV.a'.g,kt.1,kt.2.1,kt.2.2,ku.1,ku.2.1,ku.2.2,dy,↓aa,ab,simprocAttr];refine aY (gf 52 (bI af ws) [] dK.bg.c') ?_;rintro x fB ⟨rfl,jy⟩;have ep:=dK.ext jy;have o:=ep.bg.one;have bb:=ep.drop.drop.du (vcs (aP.mk 52 0 (bI af ws) [] [a,b]) (.slice (ao cl.next) 0 2 2));simp only [bb.a'.g,o.1,o.2.1,o.2.2,aX,vcs,bR,ep.a'.g,ep.bT.g,ep.c2.g,↓aa,ab,simprocAttr];exact bb.fin (ji U)
     | ok bu=>
       replace U:=hk U
       try dsimp only at U
       simp only [j2,↓aa,ab,simprocAttr];refine bQ (ff bM.C qA) ?_;cases eO:bm qA bu with
       | true=>
         simp only [eO,aoM] at U;obtain ⟨i3,ar,fj,yf,aB,m3,cq⟩:=bM.C.iG (gP eO);have bj:=bM.call m3 cq;simp only [fj.g,yf,aB,↓aa,ab,simprocAttr];refine aY (I.binds d _ ar aC bj.C (fun q=>by rw [q] at U;exact a8 U.symm)) ?_;rintro x aT ⟨l,cU,jY,oK,aG,m4,ch⟩;replace U:=e6 (r:=(.ok bu.tail)) (f:=(aU af n).binds d []) U jY
         try dsimp only at U
         have ol:=oK.one;have a6:=bj.call m4 ch;have cd:h.next<ar.next:=bj.a'.lt
         simp only [ol.1,ol.2.1,ol.2.2,↓aa,ab,simprocAttr];refine aY (gf 53 (bI af ws) [] (ud oK (by omega))) ?_;rintro aoq bN ⟨rfl,wN⟩;have bb:=(cE.xE C a6.C a6.M a6.a' (rI oK (by omega) 53 0 (bI af ws) (s:=[]) (aoQ _)) cd).ext wN;have mO:=bb.du (vcs (aP.mk 53 0 (bI af ws) [] l) x);simp only [bb.a'.g,mO.a'.g,ol.1,ol.2.1,ol.2.2,aX,vcs,bR,↓aa,ab,simprocAttr];exact mO.fin (ji U)
       | false=>
         simp only [eO,aoA,aoK] at U;simp only [↓aa,ab,simprocAttr];refine aY (I.pat d _ ag aC bM.C (fA (r:=(.ok bu)) U a8)) ?_;rintro x ar ⟨a,b4,bV,fR,rfl,gZ,m3,cq⟩;replace U:=e6 (r:=(.ok bu)) U fR
         try dsimp only at U
         have bj:=bM.eN m3 cq gZ;have c4:=bj.bg.one;obtain ⟨aT,bt,a6⟩:=bj.st b8 (vcs a b4);simp only [c4.1,c4.2.1,c4.2.2,bt,↓aa,ab,simprocAttr];refine aY (iy a6.C h3) ?_;rintro x bE ⟨m5,b1,eW,bW⟩;replace U:=iW (r:=bV) U eW
         try dsimp only at U
         have bO:=a6.call m5 bW;simp only [↓aa,ab,simprocAttr];refine aY (I.seq d _ bE aC bO.C (fA (r:=b1) U a8)) ?_;rintro x bA ⟨b,eK,dS,iV,rfl,kW,m6,cv⟩;replace U:=e6 (r:=b1) U iV
         try dsimp only at U
         have cj:=bO.eN m6 cv kW;have gl:=cj.bg.one;obtain ⟨cl,dq,cV⟩:=cj.st b8 (vcs b eK);have kt:=cV.cg.one;have ku:=cV.bg.one;obtain ⟨er,dy,f',dK⟩:=cV.qD cV.cg cV.bg 52 (bI af ws) (s:=[]) (aoQ _);simp only [vcs,aoW,ao5] at dy;simp only [gl.1,gl.2.1,gl.2.2,dq,cV.bT.g,cV.a'.g,kt.1,kt.2.1,kt.2.2,ku.1,ku.2.1,ku.2.2,dy,↓aa,ab,simprocAttr];refine aY (gf 52 (bI af ws) [] dK.bg.c') ?_;rintro x fB ⟨rfl,jy⟩;have ep:=dK.ext jy;have o:=ep.bg.one;have bb:=ep.drop.drop.du (vcs (aP.mk 52 0 (bI af ws) [] [a,b]) (.slice (ao cl.next) 0 2 2));simp only [bb.a'.g,o.1,o.2.1,o.2.2,aX,vcs,bR,ep.a'.g,ep.bT.g,ep.c2.g,↓aa,ab,simprocAttr];exact bb.fin (ji U)
end
section
variable {W:List aq} {af ak n d:Nat} {ws:List aq} {r:bJ (List aq)}
theorem kQ {f:Nat} {args:List V} {F:List aq->bJ (aP × List aq)} (h:F ws=.error b6):e2 W af ak f args d F (.ok ws):=fun _ _ _ q=>(q ws rfl h).elim
theorem aju (d:Nat) (e:Int × Nat) (F:List aq->bJ (aP × List aq)):e2 W af ak 73 [] d F (.error e):=fun h aC C _=>DW (q2:=fun _=>.error b6) (sX:=fun _=>.error b6) (s:=jt) N' (by decide) (by decide) (fun _=>kQ rfl) (fun _=>kQ rfl) rfl h aC C (fun _ q=>by cases q)
theorem akO (d:Nat) (e:Int × Nat) (F:List aq->bJ (aP × List aq)):e2 W af ak 74 [] d F (.error e):=fun h aC C _=>DW (q2:=fun _=>.error b6) (sX:=fun _=>.error b6) (s:=Ab) N_ (by decide) (by decide) (fun _=>kQ rfl) (fun _=>kQ rfl) rfl h aC C (fun _ q=>by cases q)
theorem alX (d:Nat) (e:Int × Nat) (F:List aq->bJ (aP × List aq)):e2 W af ak 120 [] d F (.error e):=by
 refine ll fun h aC res C U a8=>MS.z rfl (cm ?_);unfold G8;have ee:=cE.start C;obtain ⟨ad,an,b2⟩:=ee.new b8;simp only [an,↓aa,ab,simprocAttr];refine aY (DX b2.C) ?_;rintro x ag ⟨m2,⟨_,_,q,_⟩ | ⟨rfl,fi,bx,eh⟩⟩
 . cases q
 have aav:e=fi:=by have:=eh fun _=>.error b6;cases this;rfl
 subst aav;have bM:=b2.call m2 bx;have gS:=bM.leaf 0 0 0 (s:=[]) (aoQ _);have o:=gS.bg.one;have bb:=gS.du (vcs (.mk 0 0 0 [] []) .cL);simp only [bb.a'.g,o.1,o.2.1,o.2.2,aX,vcs,bR,gS.a'.g,↓aa,ab,simprocAttr];exact bb.fin (r:=.error e) U.symm
theorem ajC (W:List aq) (af ak:Nat):jx W af ak 0:=by
 have PF:∀d r,e2 W af ak 73 [] d (fun _=>.error b6) r:=fun d r=>by cases r with | ok w=>exact kQ rfl | error e=>exact aju d e _
 have gs:∀d r,e2 W af ak 74 [] d (fun _=>.error b6) r:=fun d r=>by cases r with | ok w=>exact kQ rfl | error e=>exact akO d e _
 exact {
  ty:=fun d r=>by cases r with | ok w=>exact kQ rfl | error e=>exact alX d e _
  hI:=fun d ws=>kQ rfl
  named:=fun d ws=>kQ rfl
  jf:=fun d ws=>kQ rfl
  pat:=PF
  iQ:=fun d ws=>kQ rfl
  gN:=fun d ws=>kQ rfl
  seq:=gs
  fn:=fun d r=>Py d (PF d) (gs d) r
  one:=fun d ws=>kQ rfl
  hl:=fun d k ws _=>kQ rfl
  lt:=fun d ws _=>kQ rfl
  binds:=fun d ws h aC _ q=>(q rfl).elim
  pair:=fun d ws=>kQ rfl
  iX:=fun d ws=>kQ rfl
  hA:=fun d ws=>kQ rfl
  hB:=fun d ws=>kQ rfl
  pre:=fun d ws=>kQ rfl
  app:=fun d ws=>kQ rfl
  atom:=fun d ws=>kQ rfl}
theorem R' (W:List aq) (af ak:Nat):∀n,∀m,m<=n->jx W af ak m
 | 0,m,hm=>by
   obtain rfl:m=0:=by omega
   exact ajC W af ak
 | n+1,m,hm=>by
   have J:=R' W af ak n;by_cases h:m<=n
   . exact J m h
   obtain rfl:m=n+1:=by omega
   have I:=J n (aoz n);exact {
    ty:=alW I
    hI:=ai3 I
    named:=ahf I
    jf:=alP J
    pat:=ajt I
    iQ:=ajp I
    gN:=ajr I
    seq:=akN I
    fn:=fun d r=>Py d (I.pat d) (I.seq d) r
    one:=ahZ I
    hl:=Y0 J
    lt:=agI I
    binds:=Wr J
    pair:=aiZ I
    iX:=Zp I
    hA:=alo J
    hB:=alq J
    pre:=ajM I
    app:=VQ J
    atom:=V_ I}
end
section
variable {W:List aq} {af ak n:Nat}
theorem ajq (I:iE W af ak n) (d:Nat) (ws:List aq):gD W af ak 105 [] d ws ((aU af (n+1)).iQ d ws):=by
 intro h aC i C a8;generalize U:(aU af (n+1)).iQ d ws=res at a8 ⊢;replace U:ug af (aU af n) d ws=res:=U;unfold ug at U;refine WN.x rfl (cm ?_);unfold MD;have bX:=C.at_.lt;obtain ⟨ad,an,aO,bz⟩:=fS h b8;have m1:Mod (b3 ak) h ad:=aO.mod _;have cw:=m1;have cz:=C.ext aO;simp only [an,↓aa,ab,simprocAttr];refine bQ (j' cz 4) ?_;cases b_:cS 4 ws with
 | true=>
   simp only [b_,aoM,aoA,aoK,bB] at U;simp only [↓aa,ab,simprocAttr];refine cH (mK cz 4) ?_ ?_
   rotate_left
   . rintro x ag ⟨e,he,rfl,m,bn⟩;simp only [cF,aX,↓aa,ab,simprocAttr];exact ⟨e,by rw [he] at U;exact U.symm,rfl,(cw.trans m),bn⟩
   rintro x ag ⟨⟨aR,bu⟩,bc,rfl,⟨e4,tz⟩,m2,i2,bx⟩;rw [bc] at U
   try simp only [bB] at U
   have M2:=cw.trans m2;obtain ⟨ar,aB,cT,fj⟩:=fz ag [.int .i64 0,.int .i64 0,.int .i64 0,.str []] [.int .i64 aR.kind,.int .i64 aR.num,.int .i64 aR.pos,.str aR.text];have m3:Mod (b3 ak) ag ar:=cT.mod _;have ct:=M2.trans m3;have cq:=bx.ext cT;obtain ⟨aT,bt,cO,eL⟩:=fz ar b8 [.int .i64 16,.int .i64 0,.int .i64 aR.pos,.str aR.text,.cL];have m4:Mod (b3 ak) ar aT:=cO.mod _;have cZ:=ct.trans m4;have ch:=cq.ext cO;obtain ⟨bE,ca,e7,rY,_⟩:=xy aT 1 5 [.str pn,.str hZ,.str hr,.str ic,.str i'] rfl (by unfold top;omega);simp only [pn,hZ,hr,ic,i'] at ca;have m5:Mod (b3 ak) aT bE:=e7.mod _;have cR:=cZ.trans m5;have bW:=ch.ext e7;simp only [aq.enc,aB,fj.g,bt,ca,↓aa,ab,simprocAttr];refine bQ (S' bW [pn,hZ,hr,ic,i'] rY (by simp)) ?_;simp +contextual only [↓aa,ab,simprocAttr];refine jz (.bool (cS 3 bu)) (fun ax=>by simp only [ax,↓aa,ab,simprocAttr];exact j' bW 3) ?_;simp +contextual only [ij,↓aa,ab,simprocAttr];refine jz (.bool (cS 1 bu)) (fun ax=>by simp only [ax,↓aa,ab,simprocAttr];exact j' bW 1) ?_;simp +contextual only [ij,↓aa,ab,simprocAttr];refine jz (.bool (cS 4 bu)) (fun ax=>by simp only [ax,↓aa,ab,simprocAttr];exact j' bW 4) ?_;have dp:(rR [pn,hZ,hr,ic,i'] bu||cS 3 bu||cS 1 bu||cS 4 bu)=x7 bu:=rfl;cases dD:x7 bu with
   | true=>
     simp only [dD,aoM,aoA,aoK,bB] at U;simp only [ij,dp,dD,↓aa,ab,simprocAttr];have g6:(aU af n).gN d bu≠.error b6:=fun q=>by rw [q] at U;exact a8 U.symm
     refine cH (I.gN d bu bE aC i2 bW g6) ?_ ?_
     rotate_left
     . rintro x bA ⟨e,he,rfl,m,bn⟩;simp only [cF,aX,↓aa,ab,simprocAttr];exact ⟨e,by rw [he] at U;exact U.symm,rfl,(cR.trans m),bn⟩
     rintro x bA ⟨a,jv,b4,i6,dS,rfl,aN,m6,cv⟩;rw [dS] at U
     try simp only [bB] at U
     have di:=cR.trans m6;have e':=aN.one;obtain ⟨cl,dq,dR,q3⟩:=sC (F:=Fr bE.next) (h:=bA) (size:=5) rfl aN.cs (rf m6.next);have m7:Mod (b3 ak) bA cl:=dR.mod _;have ew:=di.trans m7;have eP:=cv.ext dR;have ef:=oy (l:=[a]) 16 0 aR.pos aR.text q3 rfl (le_top (C.fh aR e4));have kU:=eL.mod (m5.trans (m6.trans m7)) (bU (by have:=ct.next;omega));obtain ⟨er,dy⟩:∃g,cl.set (ao ar.next) (.bd [.int .i64 16,.int .i64 0,.int .i64 aR.pos,.str aR.text,(.slice (ao bA.next) 0 1 1)] 0 false)=g:=⟨_,rfl⟩;have ps:=kU.put [.int .i64 16,.int .i64 0,.int .i64 aR.pos,.str aR.text,(.slice (ao bA.next) 0 1 1)];rw [dy] at ps;have gh:=C.box eP (n:=ar.next) ct.next (.bd [.int .i64 16,.int .i64 0,.int .i64 aR.pos,.str aR.text,(.slice (ao bA.next) 0 1 1)] 0 false)
     rw [dy] at gh;have gY:Mod (b3 ak) h er:=by rw [<-dy];exact ew.set (fun o=>absurd o (dj ct.next)) _
     have qd:=aN.mod m7 (by have:=cR.next;omega);have wk:=qd.box (n:=ar.next) (by have:=m5.next;have:=eL.lt;omega) (.bd [.int .i64 16,.int .i64 0,.int .i64 aR.pos,.str aR.text,(.slice (ao bA.next) 0 1 1)] 0 false);rw [dy] at wk;have oM:=ef.box (n:=ar.next) (by have:=m5.next;have:=eL.lt;omega) (.bd [.int .i64 16,.int .i64 0,.int .i64 aR.pos,.str aR.text,(.slice (ao bA.next) 0 1 1)] 0 false);rw [dy] at oM;have hC:=bz.mod (m2.trans (m3.trans (m4.trans (m5.trans (m6.trans m7))))) (bU bX);have p8:=hC.set (m:=ar.next) (by have:=bz.lt;have:=(m2.trans m3).next;omega) (.bd [.int .i64 16,.int .i64 0,.int .i64 aR.pos,.str aR.text,(.slice (ao bA.next) 0 1 1)] 0 false);rw [dy] at p8;have pr:=fj.mod (m4.trans (m5.trans (m6.trans m7))) (bU (by have:=M2.next;omega));have T8:=pr.set (m:=ar.next) (by have:=fj.lt;omega) (.bd [.int .i64 16,.int .i64 0,.int .i64 aR.pos,.str aR.text,(.slice (ao bA.next) 0 1 1)] 0 false);rw [dy] at T8;have m8:Mod (fun b=>b=ao ar.next) cl er:=by rw [<-dy];exact (Mod.refl (fun b=>b=ao ar.next) _).set (fun _=>rfl) _
     have o:=oM.one;simp only [o.1,o.2.1,o.2.2,aX,vcs,bR,e'.1,e'.2.1,e'.2.2,dq,kU.g,dy,ps.g,p8.g,↓aa,ab,simprocAttr];exact ⟨_,_,_,_,U.symm,rfl,(oM.box (by have:=(aoF m2.next (aoF m3.next (aoF m4.next m5.next)));have:=bz.lt;omega) _).cP (by have:=cR.next;omega),gY.set (fun o=>absurd o (dj (aoz _))) _,C.box gh (aoz _) _⟩
   | false=>
     simp only [dD,aoM,aoA,aoK,bB] at U;have hf:=eL.mod m5 (bU (by have:=ct.next;omega));have hT:=bz.mod (m2.trans (m3.trans (m4.trans m5))) (bU bX);simp only [aX,vcs,bR,ij,dp,dD,hf.g,hT.g,↓aa,ab,simprocAttr];exact ⟨_,_,_,_,U.symm,rfl,iR _ _ _ _ _ (le_top (C.fh aR e4)),cR.set (fun o=>absurd o (dj (aoz _))) _,C.box bW (aoz _) _⟩
 | false=>
   simp only [b_,aoM,aoA,aoK,bB] at U;simp only [↓aa,ab,simprocAttr];have g2:(aU af n).gN d ws≠.error b6:=fun q=>by rw [q] at U;exact a8 U.symm
   refine cH (I.gN d ws ad aC i cz g2) ?_ ?_
   rotate_left
   . rintro x ag ⟨e,he,rfl,m,bn⟩;simp only [cF,aX,↓aa,ab,simprocAttr];exact ⟨e,by rw [he] at U;exact U.symm,rfl,(cw.trans m),bn⟩
   rintro x ag ⟨a,bu,b4,i2,bc,rfl,aN,m2,bx⟩;rw [bc] at U
   try simp only [bB] at U
   have M2:=cw.trans m2;have kf:=bz.mod m2 (bU bX);have o:=aN.one;simp only [o.1,o.2.1,o.2.2,aX,vcs,bR,kf.g,↓aa,ab,simprocAttr];exact ⟨_,_,_,_,U.symm,rfl,(aN.box (by have:=bX;have:=bz.lt;omega) _).cP (by have:=cw.next;omega),M2.set (fun o=>absurd o (dj (aoz _))) _,C.box bx (aoz _) _⟩
theorem Tg (I:iE W af ak n) (d:Nat) (ws:List aq):gD W af ak 207 [.int .i64 3] d ws ((aU af n).pre d ws):=by
 intro h aC i C a8;generalize U:(aU af n).pre d ws=res at a8 ⊢;refine G'.x rfl (cm ?_);unfold DJ;have bX:=C.at_.lt;obtain ⟨ad,an,aO,bz⟩:=fS h b8;have m1:Mod (b3 ak) h ad:=aO.mod _;have cw:=m1;have cz:=C.ext aO;simp only [an,↓aa,ab,simprocAttr];have g2:(aU af n).pre d ws≠.error b6:=fun q=>by rw [q] at U;exact a8 U.symm
 refine cH (I.pre d ws ad aC i cz g2) ?_ ?_
 rotate_left
 . rintro x ag ⟨e,he,rfl,m,bn⟩;simp only [cF,aX,↓aa,ab,simprocAttr];exact ⟨e,by rw [he] at U;exact U.symm,rfl,(cw.trans m),bn⟩
 rintro x ag ⟨a,bu,b4,i2,bc,rfl,aN,m2,bx⟩;rw [bc] at U
 try simp only [bB] at U
 have M2:=cw.trans m2;have kf:=bz.mod m2 (bU bX);have o:=aN.one;simp only [o.1,o.2.1,o.2.2,aX,vcs,bR,kf.g,↓aa,ab,simprocAttr];exact ⟨_,_,_,_,U.symm,rfl,(aN.box (by have:=bX;have:=bz.lt;omega) _).cP (by have:=cw.next;omega),M2.set (fun o=>absurd o (dj (aoz _))) _,C.box bx (aoz _) _⟩
theorem alp (J:∀m,m<=n->iE W af ak m) (d:Nat) (ws:List aq):gD W af ak 207 [.int .i64 1] d ws ((aU af (n+1)).hA d ws):=by
 have I:=J n (aoz n);intro h aC i C a8;generalize U:(aU af (n+1)).hA d ws=res at a8 ⊢;replace U:C4 (aU af n) d ws=res:=U;unfold C4 at U;refine G'.x rfl (cm ?_);unfold DJ;have bX:=C.at_.lt;obtain ⟨ad,an,aO,bz⟩:=fS h b8;have m1:Mod (b3 ak) h ad:=aO.mod _;have cw:=m1;have cz:=C.ext aO;simp only [an,↓aa,ab,simprocAttr];have g2:(aU af n).hB d ws≠.error b6:=fun q=>by rw [q] at U;exact a8 U.symm
 refine cH (I.hB d ws ad aC i cz g2) ?_ ?_
 rotate_left
 . rintro x ag ⟨e,he,rfl,m,bn⟩;simp only [cF,aX,↓aa,ab,simprocAttr];exact ⟨e,by rw [he] at U;exact U.symm,rfl,(cw.trans m),bn⟩
 rintro x ag ⟨a,bu,b4,i2,bc,rfl,aN,m2,bx⟩;rw [bc] at U
 try simp only [bB] at U
 have M2:=cw.trans m2;have dN:=aN.one;obtain ⟨ar,aB,cT,fj⟩:=fz ag b8 (vcs a b4);have m3:Mod (b3 ak) ag ar:=cT.mod _;have ct:=M2.trans m3;have cq:=bx.ext cT;have mg:=bz.mod (m2.trans m3) (bU bX);have sW:=aN.By cT;have ov:ad.next<=ag.next:=m2.next
 simp only [dN.1,dN.2.1,dN.2.2,aB,fj.g,mg.g,↓aa,ab,simprocAttr];refine gb (fun r g=>r 0=.ptr (ao ak) 0/\r 1=.int .i64 1/\r 4=.ptr (ao h.next) 0/\r 5=.ptr (ao ag.next) 0/\Has g h.next b8/\Mod (b3 ak) h g/\∃m a b4 dm iY,m<=n/\Has g ag.next (vcs a b4)/\dt (lp ad.next ag.next) g a b4/\ed W af ak g d dm aC iY/\(aU af m).lH d a dm=res) (fun _ g=>qF W ak g) ?_ ?_
 . exact ⟨by simp only [↓aa,cM,simprocAttr],by simp only [↓aa,cM,simprocAttr],by simp only [↓aa,cM,simprocAttr],by simp only [↓aa,cM,simprocAttr],mg,ct,n,_,_,_,_,aoz _,fj,sW,cq,U⟩
 rintro r aT ⟨aW,cJ,cU,b1,R,cZ,m,a,b4,dm,iY,hm,A,P,ch,U⟩;cases m with
 | zero=>exact (a8 U.symm).elim
 | succ m=>
   replace U:ub (aU af m) d a dm=res:=U;unfold ub at U;have I:=J m (by omega);have ja:=A.lt;simp only [aW,cJ,cU,b1,↓aa,ab,simprocAttr];refine aY (J6 ch (k:=1) (by omega)) ?_;rintro x bE ⟨rfl,m5,i5,bW⟩;rw [aba] at bW ⊢;have cR:=cZ.trans m5;cases bG:nP dm with
   | none=>
     simp only [bG,Option.isSome,Option.getD,aoM,aoA,aoK,bB] at U bW;have AL:=P.xF m5 (by have:=cw.next;omega);have hT:=R.mod m5 (bU bX);have gA:=A.mod m5 (bU (by have:=M2.next;omega));have o:=AL.one;simp only [o.1,o.2.1,o.2.2,aX,vcs,bR,aW,cJ,cU,b1,Option.isSome,Option.getD,hT.g,gA.g,↓aa,ab,simprocAttr];exact ⟨_,_,_,_,U.symm,rfl,AL.De (by have:=bz.lt;have:=bX;omega) (by have:=cw.next;omega) _,cR.set (fun o=>absurd o (dj (aoz _))) _,C.box bW (aoz _) _⟩
   | some uo=>
     simp only [bG,Option.isSome,Option.getD,aoM,aoA,aoK,bB] at U bW;have gA:=A.mod m5 (bU (by have:=M2.next;omega));simp only [Option.isSome,Option.getD,gA.g,aW,cJ,cU,b1,↓aa,ab,simprocAttr];have g6:(aU af m).hB d dm.tail≠.error b6:=fun q=>by rw [q] at U;exact a8 U.symm
     refine cH (I.hB d dm.tail bE aC i5 bW g6) ?_ ?_
     rotate_left
     . rintro x bA ⟨e,he,rfl,m,bn⟩;simp only [cF,aX,gA.g,aW,cJ,cU,b1,kR,↓aa,ab,simprocAttr];exact ⟨rfl,e,by rw [he] at U;exact U.symm,rfl,(cR.trans m),bn⟩
     rintro x bA ⟨b,jv,eK,i6,dS,rfl,fM,m6,cv⟩;rw [dS] at U
     try simp only [bB] at U
     have di:=cR.trans m6;have kg:=gA.mod m6 (bU (by have:=M2.next;omega));simp only [aW,cJ,cU,b1,gA.g,kg.g,↓aa,ab,simprocAttr];have yz:=P.xF (m5.trans m6) (by have:=cw.next;omega);refine aY (J5 uo (RT bG) yz (fM.HT (h7:=ad.next) (n:=ag.next) (by have:=cZ.next;have:=m5.next;have:=ja;have:=ov;omega) (by have:=m5.next;have:=ja;have:=ov;omega))) ?_;rintro x cl ⟨eu,rfl,kX,dR⟩;have ef:=HU kX (by have:=cZ.next;have:=(aoF m5.next m6.next);have:=ja;have:=ov;omega) (by have:=(aoF m5.next m6.next);have:=ja;have:=ov;omega);have m7:Mod (b3 ak) bA cl:=dR.mod _;have ew:=di.trans m7;have eP:=cv.ext dR;have o:=ef.one;have pr:=kg.mod m7 (bU (by have:=M2.next;omega));have hC:=R.mod (m5.trans (m6.trans m7)) (bU bX);simp only [o.1,o.2.1,o.2.2,vcs,bR,aW,cJ,cU,b1,pr.g,gA.g,kg.g,↓aa,ab,simprocAttr];have fq:=C.box eP (n:=ag.next) M2.next (.bd (vcs (p2 uo a b) eu) 0 false)
     exact ⟨⟨hC.set (by have:=bz.lt;have:=m2.next;omega) _,ew.set (fun o=>absurd o (dj M2.next)) _,m,(p2 uo a b),eu,_,_,by omega,pr.put _,ef.set (fun q=>q.2 rfl) _,fq,U⟩,by rw [lD ch,lD fq];have:=RU bG;have:=va ((shorter af m).hB d dm.tail (.inl trivial)) dS;omega⟩
theorem alr (J:∀m,m<=n->iE W af ak m) (d:Nat) (ws:List aq):gD W af ak 207 [.int .i64 2] d ws ((aU af (n+1)).hB d ws):=by
 have I:=J n (aoz n);intro h aC i C a8;generalize U:(aU af (n+1)).hB d ws=res at a8 ⊢;replace U:C5 (aU af n) d ws=res:=U;unfold C5 at U;refine G'.x rfl (cm ?_);unfold DJ;have bX:=C.at_.lt;obtain ⟨ad,an,aO,bz⟩:=fS h b8;have m1:Mod (b3 ak) h ad:=aO.mod _;have cw:=m1;have cz:=C.ext aO;simp only [an,↓aa,ab,simprocAttr];have g2:(aU af n).pre d ws≠.error b6:=fun q=>by rw [q] at U;exact a8 U.symm
 refine cH ((Tg I) d ws ad aC i cz g2) ?_ ?_
 rotate_left
 . rintro x ag ⟨e,he,rfl,m,bn⟩;simp only [cF,aX,↓aa,ab,simprocAttr];exact ⟨e,by rw [he] at U;exact U.symm,rfl,(cw.trans m),bn⟩
 rintro x ag ⟨a,bu,b4,i2,bc,rfl,aN,m2,bx⟩;rw [bc] at U
 try simp only [bB] at U
 have M2:=cw.trans m2;have dN:=aN.one;obtain ⟨ar,aB,cT,fj⟩:=fz ag b8 (vcs a b4);have m3:Mod (b3 ak) ag ar:=cT.mod _;have ct:=M2.trans m3;have cq:=bx.ext cT;have mg:=bz.mod (m2.trans m3) (bU bX);have sW:=aN.By cT;have ov:ad.next<=ag.next:=m2.next
 simp only [dN.1,dN.2.1,dN.2.2,aB,fj.g,mg.g,↓aa,ab,simprocAttr];refine gb (fun r g=>r 0=.ptr (ao ak) 0/\r 1=.int .i64 2/\r 4=.ptr (ao h.next) 0/\r 5=.ptr (ao ag.next) 0/\Has g h.next b8/\Mod (b3 ak) h g/\∃m a b4 dm iY,m<=n/\Has g ag.next (vcs a b4)/\dt (lp ad.next ag.next) g a b4/\ed W af ak g d dm aC iY/\(aU af m).lI d a dm=res) (fun _ g=>qF W ak g) ?_ ?_
 . exact ⟨by simp only [↓aa,cM,simprocAttr],by simp only [↓aa,cM,simprocAttr],by simp only [↓aa,cM,simprocAttr],by simp only [↓aa,cM,simprocAttr],mg,ct,n,_,_,_,_,aoz _,fj,sW,cq,U⟩
 rintro r aT ⟨aW,cJ,cU,b1,R,cZ,m,a,b4,dm,iY,hm,A,P,ch,U⟩;cases m with
 | zero=>exact (a8 U.symm).elim
 | succ m=>
   replace U:uc (aU af m) d a dm=res:=U;unfold uc at U;have I:=J m (by omega);have ja:=A.lt;simp only [aW,cJ,cU,b1,↓aa,ab,simprocAttr];refine aY (J6 ch (k:=2) (by omega)) ?_;rintro x bE ⟨rfl,m5,i5,bW⟩;rw [abb] at bW ⊢;have cR:=cZ.trans m5;cases bG:nQ dm with
   | none=>
     simp only [bG,Option.isSome,Option.getD,aoM,aoA,aoK,bB] at U bW;have AL:=P.xF m5 (by have:=cw.next;omega);have hT:=R.mod m5 (bU bX);have gA:=A.mod m5 (bU (by have:=M2.next;omega));have o:=AL.one;simp only [o.1,o.2.1,o.2.2,aX,vcs,bR,aW,cJ,cU,b1,Option.isSome,Option.getD,hT.g,gA.g,↓aa,ab,simprocAttr];exact ⟨_,_,_,_,U.symm,rfl,AL.De (by have:=bz.lt;have:=bX;omega) (by have:=cw.next;omega) _,cR.set (fun o=>absurd o (dj (aoz _))) _,C.box bW (aoz _) _⟩
   | some uo=>
     simp only [bG,Option.isSome,Option.getD,aoM,aoA,aoK,bB] at U bW;have gA:=A.mod m5 (bU (by have:=M2.next;omega));simp only [Option.isSome,Option.getD,gA.g,aW,cJ,cU,b1,↓aa,ab,simprocAttr];have g6:(aU af m).pre d dm.tail≠.error b6:=fun q=>by rw [q] at U;exact a8 U.symm
     refine cH ((Tg I) d dm.tail bE aC i5 bW g6) ?_ ?_
     rotate_left
     . rintro x bA ⟨e,he,rfl,m,bn⟩;simp only [cF,aX,gA.g,aW,cJ,cU,b1,kR,↓aa,ab,simprocAttr];exact ⟨rfl,e,by rw [he] at U;exact U.symm,rfl,(cR.trans m),bn⟩
     rintro x bA ⟨b,jv,eK,i6,dS,rfl,fM,m6,cv⟩;rw [dS] at U
     try simp only [bB] at U
     have di:=cR.trans m6;have kg:=gA.mod m6 (bU (by have:=M2.next;omega));simp only [aW,cJ,cU,b1,gA.g,kg.g,↓aa,ab,simprocAttr];have yz:=P.xF (m5.trans m6) (by have:=cw.next;omega);refine aY (J5 uo (RV bG) yz (fM.HT (h7:=ad.next) (n:=ag.next) (by have:=cZ.next;have:=m5.next;have:=ja;have:=ov;omega) (by have:=m5.next;have:=ja;have:=ov;omega))) ?_;rintro x cl ⟨eu,rfl,kX,dR⟩;have ef:=HU kX (by have:=cZ.next;have:=(aoF m5.next m6.next);have:=ja;have:=ov;omega) (by have:=(aoF m5.next m6.next);have:=ja;have:=ov;omega);have m7:Mod (b3 ak) bA cl:=dR.mod _;have ew:=di.trans m7;have eP:=cv.ext dR;have o:=ef.one;have pr:=kg.mod m7 (bU (by have:=M2.next;omega));have hC:=R.mod (m5.trans (m6.trans m7)) (bU bX);simp only [o.1,o.2.1,o.2.2,vcs,bR,aW,cJ,cU,b1,pr.g,gA.g,kg.g,↓aa,ab,simprocAttr];have fq:=C.box eP (n:=ag.next) M2.next (.bd (vcs (p2 uo a b) eu) 0 false)
     exact ⟨⟨hC.set (by have:=bz.lt;have:=m2.next;omega) _,ew.set (fun o=>absurd o (dj M2.next)) _,m,(p2 uo a b),eu,_,_,by omega,pr.put _,ef.set (fun q=>q.2 rfl) _,fq,U⟩,by rw [lD ch,lD fq];have:=RW bG;have:=va ((shorter af m).pre d dm.tail (.inl trivial)) dS;omega⟩
end
section
variable {W:List aq} {af ak n:Nat}
theorem ahg (I:iE W af ak n) (d:Nat) (ws:List aq):gD W af ak 184 [] d ws ((aU af (n+1)).named d ws):=by
 intro h aC i C a8;generalize U:(aU af (n+1)).named d ws=res at a8 ⊢;replace U:CB (aU af n) d ws=res:=U;unfold CB at U;refine Xt.x rfl (cm ?_);unfold Nf;have bX:=C.at_.lt;obtain ⟨ad,an,aO,bz⟩:=fS h b8;have m1:Mod (b3 ak) h ad:=aO.mod _;have cw:=m1;have cz:=C.ext aO;simp only [an,↓aa,ab,simprocAttr];have g2:(aU af n).jf d ws≠.error b6:=fun q=>by rw [q] at U;exact a8 U.symm
 refine cH (I.jf d ws ad aC i cz g2) ?_ ?_
 rotate_left
 . rintro x ag ⟨e,he,rfl,m,bn⟩;simp only [cF,aX,↓aa,ab,simprocAttr];exact ⟨e,by rw [he] at U;exact U.symm,rfl,(cw.trans m),bn⟩
 rintro x ag ⟨a,bu,b4,i2,bc,rfl,aN,m2,bx⟩;rw [bc] at U
 try simp only [bB] at U
 have M2:=cw.trans m2;have dN:=aN.one;obtain ⟨ar,aB,cT,fj⟩:=fz ag b8 (vcs a b4);have m3:Mod (b3 ak) ag ar:=cT.mod _;have ct:=M2.trans m3;have cq:=bx.ext cT;have mg:=bz.mod (m2.trans m3) (bU bX);have sW:=aN.By cT;have ov:ad.next<=ag.next:=(m2.next)
 simp only [dN.1,dN.2.1,dN.2.2,aB,fj.g,mg.g,↓aa,ab,simprocAttr];refine gb (fun r g=>r 0=.ptr (ao ak) 0/\r 2=.ptr (ao h.next) 0/\r 3=.ptr (ao ag.next) 0/\Has g h.next b8/\Mod (b3 ak) h g/\∃a b4 dm iY,Has g ag.next (vcs a b4)/\dt (lp ad.next ag.next) g a b4/\ed W af ak g d dm aC iY/\(.ok (lb a dm):bJ (aP × List aq))=res) (fun _ g=>qF W ak g) ?_ ?_
 . exact ⟨by simp only [↓aa,cM,simprocAttr],by simp only [↓aa,cM,simprocAttr],by simp only [↓aa,cM,simprocAttr],mg,ct,_,_,_,_,fj,sW,cq,U⟩
 rintro r aT ⟨aW,bc,bV,R,cZ,a,b4,dm,iY,A,P,ch,U⟩;have ja:=A.lt;simp only [aW,bc,bV,↓aa,ab,simprocAttr];refine bQ (j' ch 3) ?_;cases dm with
 | nil=>
   have aD:cS 3 []=false:=rfl;have aI:lb a []=(a,[]):=rfl;rw [aI] at U;have o:=P.one;simp only [o.1,o.2.1,o.2.2,aX,vcs,bR,aW,bc,bV,aD,R.g,A.g,↓aa,ab,simprocAttr];exact ⟨_,_,_,_,U.symm,rfl,P.De (by have:=bz.lt;have:=bX;omega) (by have:=cw.next;omega) _,cZ.set (fun o=>absurd o (dj (aoz _))) _,C.box ch (aoz _) _⟩
 | cons w dm=>
   by_cases o6:w.kind=3
   . have aD:cS 3 (w::dm)=true:=by simp [cS,o6]
     have aI:lb a (w::dm)=lb (.mk 2 0 a.a w.text [a]) dm:=by simp [lb,o6]
     rw [aI] at U;have jO:=P.one;obtain ⟨bE,ca,e7,rY⟩:=sC (F:=lp ad.next ag.next) (h:=aT) (size:=5) rfl P.cs ⟨by rw [dh];have:=ja;omega,fun z=>by rw [lJ] at z;have:=ja;omega⟩;have m5:Mod (b3 ak) aT bE:=e7.mod _;have cR:=cZ.trans m5;have bW:=ch.ext e7;have gA:=A.mod m5 (bU (by have:=M2.next;omega));simp only [aD,A.g,jO.1,jO.2.1,jO.2.2,ca,vcs,bR,gA.g,aW,bc,bV,↓aa,ab,simprocAttr];refine cH (mK bW 3) ?_ ?_
     rotate_left
     . rintro x ae ⟨e,he,_⟩;rw [show fc af 3 (w::dm)=.ok (w,dm) from by simp [fc,o6]] at he;cases he
     rintro x bA ⟨⟨w',bS⟩,bq,rfl,⟨hw,anE⟩,m6,i6,cv⟩;rw [show fc af 3 (w::dm)=.ok (w,dm) from by simp [fc,o6]] at bq;cases bq;have di:=cR.trans m6;have ef:=(oy (l:=[a]) 2 0 a.a w.text rY rfl (le_top (C.fh w hw))).xF m6 (by have:=cw.next;omega);have kg:=gA.mod m6 (bU (by have:=M2.next;omega));have jg:=R.mod (m5.trans m6) (bU bX);simp only [aq.enc,vcs,bR,gA.g,kg.g,aW,bc,bV,↓aa,ab,simprocAttr];have fq:=C.box cv (n:=ag.next) M2.next (.bd (vcs (.mk 2 0 a.a w.text [a]) (.slice (ao aT.next) 0 1 1)) 0 false)
     exact ⟨⟨jg.set (by have:=bz.lt;have:=m2.next;omega) _,di.set (fun o=>absurd o (dj M2.next)) _,(.mk 2 0 a.a w.text [a]),(.slice (ao aT.next) 0 1 1),dm,_,kg.put _,ef.set (fun q=>q.2 rfl) _,fq,U⟩,by rw [lD ch];exact Nat.lt_of_le_of_lt (Nat.le_of_eq (lD fq)) (by simp)⟩
   . skip
     have aD:cS 3 (w::dm)=false:=by simp [cS,o6]
     have aI:lb a (w::dm)=(a,(w::dm)):=by simp [lb,o6]
     rw [aI] at U;have o:=P.one;simp only [o.1,o.2.1,o.2.2,aX,vcs,bR,aW,bc,bV,aD,R.g,A.g,↓aa,ab,simprocAttr];exact ⟨_,_,_,_,U.symm,rfl,P.De (by have:=bz.lt;have:=bX;omega) (by have:=cw.next;omega) _,cZ.set (fun o=>absurd o (dj (aoz _))) _,C.box ch (aoz _) _⟩
theorem Y1 (J:∀m,m<=n->iE W af ak m) (d:Nat) (ws:List aq):AO W af ak 186 [] d ws ((aU af (n+1)).cases d [] (if bm jT ws then ws.tail else ws)):=by
 intro h aC i C a8;generalize U:(aU af (n+1)).cases d [] (if bm jT ws then ws.tail else ws)=res at a8 ⊢;refine Xv.x rfl (cm ?_);unfold Nh;have bX:=C.at_.lt;simp only [↓aa,ab,simprocAttr];refine aY (ho C jT) ?_;rintro x ad ⟨rfl,m1,i1,cz⟩;have cw:=m1;simp only [↓aa,ab,simprocAttr];refine gb (fun r g=>r 0=.ptr (ao ak) 0/\Mod (b3 ak) h g/\∃m l dm iY,m<=n+1/\dB h.next (Fr h.next) g 5 (List.map aP.enc l) (r 3)/\l.length+dm.length<=1000000/\ed W af ak g d dm aC iY/\(aU af m).cases d l dm=res) (fun _ g=>qF W ak g) ?_ ?_
 . exact ⟨by simp only [↓aa,cM,simprocAttr],cw,n+1,[],_,_,aoz _,by simp only [↓aa,cM,simprocAttr];exact dB.nil _ _ _ _,by have:=cz.p6;simpa using this,cz,U⟩
 rintro r ag ⟨gy,M2,m,l,dm,iY,hm,O,aG,bx,U⟩;obtain ⟨dc,fG⟩:∃dc,r 3=dc:=⟨_,rfl⟩;rw [fG] at O;cases m with
 | zero=>exact (a8 U.symm).elim
 | succ m=>
   replace U:yK af (aU af m) d l dm=res:=U;unfold yK at U;have I:=J m (by omega);have cr:=O.one;simp only [gy,fG,cr.1,cr.2.1,cr.2.2,↓aa,ab,simprocAttr];have g3:(aU af m).pat d dm≠.error b6:=fun q=>by rw [q] at U;exact a8 U.symm
   refine cH (I.pat d dm ag aC iY bx g3) ?_ ?_
   rotate_left
   . rintro x ar ⟨e,he,rfl,m,bn⟩;simp only [cF,aX,gy,fG,kR,↓aa,ab,simprocAttr];exact ⟨e,by rw [he] at U;exact U.symm,rfl,(M2.trans m),bn⟩
   rintro x ar ⟨a,dd,b4,i3,bV,rfl,aN,m3,cq⟩;rw [bV] at U
   try simp only [bB] at U
   have ct:=M2.trans m3;have c4:=aN.one;obtain ⟨aT,bt,cO,eL⟩:=fz ar b8 (vcs a b4);have m4:Mod (b3 ak) ar aT:=cO.mod _;have cZ:=ct.trans m4;have ch:=cq.ext cO;simp only [c4.1,c4.2.1,c4.2.2,bt,gy,fG,cr.1,cr.2.1,cr.2.2,↓aa,ab,simprocAttr];refine cH (kM ch lN) ?_ ?_
   rotate_left
   . rintro x bE ⟨e,he,rfl,m,bn⟩;simp only [cF,aX,gy,fG,kR,↓aa,ab,simprocAttr];exact ⟨e,by rw [he] at U;exact U.symm,rfl,(cZ.trans m),bn⟩
   rintro x bE ⟨ft,b1,m5,i5,bW⟩;rw [b1] at U
   try simp only [bB] at U
   have cR:=cZ.trans m5;have hf:=eL.mod m5 (bU (by have:=ct.next;omega));simp only [hf.g,gy,fG,cr.1,cr.2.1,cr.2.2,↓aa,ab,simprocAttr];have g6:(aU af m).seq d ft≠.error b6:=fun q=>by rw [q] at U;exact a8 U.symm
   refine cH (I.seq d ft bE aC i5 bW g6) ?_ ?_
   rotate_left
   . rintro x bA ⟨e,he,rfl,m,bn⟩;simp only [cF,aX,hf.g,gy,fG,kR,↓aa,ab,simprocAttr];exact ⟨rfl,e,by rw [he] at U;exact U.symm,rfl,(cR.trans m),bn⟩
   rintro x bA ⟨b,jv,eK,i6,dS,rfl,fM,m6,cv⟩;rw [dS] at U
   try simp only [bB] at U
   have di:=cR.trans m6;have jF:=hf.mod m6 (bU (by have:=ct.next;omega));have uA:=va ((shorter af m).pat d dm (.inl trivial)) bV;have vT:=zM b1;have Le:=va ((shorter af m).seq d ft (.inl trivial)) dS;simp only [jF.g,gy,fG,cr.1,cr.2.1,cr.2.2,hf.g,↓aa,ab,simprocAttr];have uT:=aN.mod (m4.trans (m5.trans m6)) (by have:=M2.next;omega);refine aY (uy 45 uT (fM.cP (by have:=(aoF m3.next (aoF m4.next m5.next));omega))) ?_;rintro x cl ⟨eu,rfl,kX,dR⟩;have ef:=kX.eU (eX:=Fr ag.next) fun b q=>q.elim (fun q=>q.1) (fun q=>by have:=(aoF m3.next (aoF m4.next (aoF m5.next m6.next)));unfold Fr;omega);have m7:Mod (b3 ak) bA cl:=dR.mod _;have ew:=di.trans m7;have eP:=cv.ext dR;have py:=hq O (m3.trans (m4.trans (m5.trans (m6.trans m7)))) bX bX;have js:=ef.one;obtain ⟨ut,er,dy,ny,m8,tW,AZ⟩:=pf py (ef.cP (aoz _)) (lg O (aoz _)) (M2.next) ((aoF m3.next (aoF m4.next (aoF m5.next (aoF m6.next m7.next))))) (by omega);have kU:=jF.mod m7 (bU (by have:=ct.next;omega));have HK:(cl.next=ar.next)=False:=aoV (by have:=kU.lt;omega);have gh:=C.lY eP m8 (by have:=bX;omega);have gY:=ou ew m8 (by have:=bX;omega);have T9:=oa kU m8 (.inr (m3.next));have qd:=uT.mod m7 (by have:=M2.next;omega);have wk:=qd.lY m8 (aoz _);have U7:=fM.mod m7 (by have:=cR.next;omega);have U8:=U7.lY m8 ((aoF m3.next (aoF m4.next m5.next)));have oM:=ef.lY m8 (aoz _);have ih:=ny.one;have sS:(l++[(two 45 a b)]).length=l.length+1:=by simp<;>omega
   simp only [js.1,js.2.1,js.2.2,dy,HK,gy,fG,cr.1,cr.2.1,cr.2.2,hf.g,jF.g,ih.1,ih.2.1,ih.2.2,↓aa,ab,simprocAttr];refine aY (ho gh jT) ?_;rintro x fB ⟨rfl,m9,i9,fQ⟩;have h8:=gY.trans m9;cases b_:bm jT jv with
   | true=>
     simp only [b_,aoM,aoA,aoK,bB] at U fQ;have wj:=hq ny m9 bX bX;simp only [gy,fG,cr.1,cr.2.1,cr.2.2,hf.g,jF.g,ih.1,ih.2.1,ih.2.2,↓aa,ab,simprocAttr];exact ⟨⟨h8,m,_,_,_,by omega,wj,by have:=fw b_;rw [sS];omega,fQ,U⟩,by rw [lD bx,lD fQ];have:=fw b_;omega⟩
   | false=>
     simp only [b_,aoM,aoA,aoK,bB] at U fQ;have wj:=hq ny m9 bX bX;simp only [aX,gy,fG,cr.1,cr.2.1,cr.2.2,hf.g,jF.g,ih.1,ih.2.1,ih.2.2,↓aa,ab,simprocAttr];exact ⟨_,_,_,U.symm,wj,by rw [sS];omega,h8,fQ⟩
theorem Ws (J:∀m,m<=n->iE W af ak m) (d:Nat) (ws:List aq):AO W af ak 54 [] d ws ((aU af (n+1)).binds d [] ws):=by
 intro h aC i C a8;generalize U:(aU af (n+1)).binds d [] ws=res at a8 ⊢;refine Yf.x rfl (cm ?_);unfold NU;have bX:=C.at_.lt;simp only [↓aa,ab,simprocAttr];refine gb (fun r g=>r 0=.ptr (ao ak) 0/\Mod (b3 ak) h g/\∃m l dm iY,m<=n+1/\dB h.next (Fr h.next) g 5 (List.map aP.enc l) (r 3)/\l.length+dm.length<=1000000/\ed W af ak g d dm aC iY/\(aU af m).binds d l dm=res) (fun _ g=>qF W ak g) ?_ ?_
 . exact ⟨by simp only [↓aa,cM,simprocAttr],(Mod.refl (b3 ak) h),n+1,[],_,_,aoz _,by simp only [↓aa,cM,simprocAttr];exact dB.nil _ _ _ _,by have:=C.p6;simpa using this,C,U⟩
 rintro r ad ⟨gy,cw,m,l,dm,iY,hm,O,aG,cz,U⟩;obtain ⟨dc,fG⟩:∃dc,r 3=dc:=⟨_,rfl⟩;rw [fG] at O;cases m with
 | zero=>exact (a8 U.symm).elim
 | succ m=>
   replace U:yG af (aU af m) d l dm=res:=U;unfold yG at U;have I:=J m (by omega);have cr:=O.one;simp only [gy,fG,cr.1,cr.2.1,cr.2.2,↓aa,ab,simprocAttr];refine cH (mK cz 3) ?_ ?_
   rotate_left
   . rintro x ag ⟨e,he,rfl,m,bn⟩;simp only [cF,aX,gy,fG,kR,↓aa,ab,simprocAttr];exact ⟨e,by rw [he] at U;exact U.symm,rfl,(cw.trans m),bn⟩
   rintro x ag ⟨⟨aR,bu⟩,bc,rfl,⟨e4,tz⟩,m2,i2,bx⟩;rw [bc] at U
   try simp only [bB] at U
   have M2:=cw.trans m2;obtain ⟨ar,aB,cT,fj⟩:=fz ag [.int .i64 0,.int .i64 0,.int .i64 0,.str []] [.int .i64 aR.kind,.int .i64 aR.num,.int .i64 aR.pos,.str aR.text];have m3:Mod (b3 ak) ag ar:=cT.mod _;have ct:=M2.trans m3;have cq:=bx.ext cT;simp only [aq.enc,aB,gy,fG,cr.1,cr.2.1,cr.2.2,↓aa,ab,simprocAttr];refine cH (kM cq h3) ?_ ?_
   rotate_left
   . rintro x aT ⟨e,he,rfl,m,bn⟩;simp only [cF,aX,gy,fG,kR,↓aa,ab,simprocAttr];exact ⟨e,by rw [he] at U;exact U.symm,rfl,(ct.trans m),bn⟩
   rintro x aT ⟨dk,cU,m4,i4,ch⟩;rw [cU] at U
   try simp only [bB] at U
   have cZ:=ct.trans m4;simp only [gy,fG,cr.1,cr.2.1,cr.2.2,↓aa,ab,simprocAttr];refine bQ (qO ch) ?_;simp only [gy,fG,cr.1,cr.2.1,cr.2.2,↓aa,ab,simprocAttr];refine cH (kM ch mA) ?_ ?_
   rotate_left
   . rintro x bE ⟨e,he,rfl,m,bn⟩;simp only [cF,aX,gy,fG,kR,↓aa,ab,simprocAttr];exact ⟨e,by rw [he] at U;exact U.symm,rfl,(cZ.trans m),bn⟩
   rintro x bE ⟨ft,b1,m5,i5,bW⟩;rw [b1] at U
   try simp only [bB] at U
   have cR:=cZ.trans m5;have gA:=fj.mod (m4.trans m5) (bU (by have:=M2.next;omega));simp only [gA.g,gy,fG,cr.1,cr.2.1,cr.2.2,↓aa,ab,simprocAttr];have g6:(aU af m).fn d (bI af dk) ft≠.error b6:=fun q=>by rw [q] at U;exact a8 U.symm
   refine cH (I.fn d (bI af dk) ft bE aC i5 bW g6) ?_ ?_
   rotate_left
   . rintro x bA ⟨e,he,rfl,m,bn⟩;simp only [cF,aX,gA.g,gy,fG,kR,↓aa,ab,simprocAttr];exact ⟨rfl,e,by rw [he] at U;exact U.symm,rfl,(cR.trans m),bn⟩
   rintro x bA ⟨a,jv,b4,i6,dS,rfl,aN,m6,cv⟩;rw [dS] at U
   try simp only [bB] at U
   have di:=cR.trans m6;have kg:=gA.mod m6 (bU (by have:=M2.next;omega));have uA:bu.length<dm.length:=Tn bc;have vT:dk.length<bu.length:=zM cU;have Le:=zM b1;have Tx:=va ((shorter af m).fn d (bI af dk) ft (.inl trivial)) dS;have e':=aN.one;obtain ⟨cl,dq,dR,q3⟩:=sC (F:=Fr bE.next) (h:=bA) (size:=5) rfl aN.cs (rf m6.next);have m7:Mod (b3 ak) bA cl:=dR.mod _;have ew:=di.trans m7;have eP:=cv.ext dR;have ef:=oy (l:=[a]) 46 0 aR.pos aR.text q3 rfl (le_top (C.fh aR e4));have pr:=kg.mod m7 (bU (by have:=M2.next;omega));have py:=hq O (m2.trans (m3.trans (m4.trans (m5.trans (m6.trans m7))))) bX bX;have js:=ef.one;obtain ⟨ut,er,dy,ny,m8,tW,AZ⟩:=pf py (ef.cP ((aoF m2.next (aoF m3.next (aoF m4.next m5.next))))) (lg O (aoz _)) (cw.next) ((aoF m2.next (aoF m3.next (aoF m4.next (aoF m5.next (aoF m6.next m7.next)))))) (by omega);simp only [vcs,bR] at dy;have HK:(cl.next=ag.next)=False:=aoV (by have:=pr.lt;omega);have gh:=C.lY eP m8 (by have:=bX;omega);have gY:=ou ew m8 (by have:=bX;omega);have T9:=oa pr m8 (.inr (m2.next));have qd:=aN.mod m7 (by have:=cR.next;omega);have wk:=qd.lY m8 ((aoF m2.next (aoF m3.next (aoF m4.next m5.next))));have oM:=ef.lY m8 ((aoF m2.next (aoF m3.next (aoF m4.next m5.next))));have ih:=ny.one;have sS:(l++[(aP.mk 46 0 aR.pos aR.text [a])]).length=l.length+1:=by simp<;>omega
   simp only [e'.1,e'.2.1,e'.2.2,dq,pr.g,js.1,js.2.1,js.2.2,dy,HK,vcs,bR,gy,fG,cr.1,cr.2.1,cr.2.2,gA.g,kg.g,ih.1,ih.2.1,ih.2.2,↓aa,ab,simprocAttr];refine aY (ho gh zv) ?_;rintro x fB ⟨rfl,m9,i9,fQ⟩;have h8:=gY.trans m9;cases b_:bm zv jv with
   | true=>
     simp only [b_,aoM,aoA,aoK,bB] at U fQ;have wj:=hq ny m9 bX bX;simp only [gy,fG,cr.1,cr.2.1,cr.2.2,gA.g,kg.g,ih.1,ih.2.1,ih.2.2,↓aa,ab,simprocAttr];exact ⟨⟨h8,m,_,_,_,by omega,wj,by have:=fw b_;rw [sS];omega,fQ,U⟩,by rw [lD cz,lD fQ];have:=fw b_;omega⟩
   | false=>
     simp only [b_,aoM,aoA,aoK,bB] at U fQ;have wj:=hq ny m9 bX bX;simp only [aX,gy,fG,cr.1,cr.2.1,cr.2.2,gA.g,kg.g,ih.1,ih.2.1,ih.2.2,↓aa,ab,simprocAttr];exact ⟨_,_,_,U.symm,wj,by rw [sS];omega,h8,fQ⟩
end
section
variable {W:List aq} {af ak n:Nat}
theorem alR (J:∀m,m<=n->iE W af ak m) (d:Nat) (ws:List aq):gD W af ak 206 [] d ws ((aU af (n+1)).jf d ws):=by
 have I:=J n (aoz n);intro h aC i C a8;generalize U:(aU af (n+1)).jf d ws=res at a8 ⊢;replace U:uz af (aU af n) d ws=res:=U;unfold uz at U;dsimp only at U;refine XB.x rfl (cm ?_);unfold c206;have bX:=C.at_.lt;obtain ⟨ad,an,aO,bz⟩:=fS h b8;have m1:Mod (b3 ak) h ad:=aO.mod _;have cw:=m1;have cz:=C.ext aO;simp only [an,↓aa,ab,simprocAttr];refine bQ (qO cz) ?_;simp only [↓aa,ab,simprocAttr];refine bQ (j' cz 5) ?_;cases b_:cS 5 ws with
 | true=>
   simp only [b_,aoM,aoA,aoK,bB] at U;simp only [↓aa,ab,simprocAttr];refine cH (mK cz 5) ?_ ?_
   rotate_left
   . rintro x ag ⟨e,he,rfl,m,bn⟩;simp only [cF,aX,↓aa,ab,simprocAttr];exact ⟨e,by rw [he] at U;exact U.symm,rfl,(cw.trans m),bn⟩
   rintro x ag ⟨⟨aR,bu⟩,bc,rfl,⟨e4,tz⟩,m2,i2,bx⟩;rw [bc] at U
   try simp only [bB] at U
   have M2:=cw.trans m2;have kf:=bz.mod m2 (bU bX);simp only [aX,vcs,bR,aq.enc,kf.g,↓aa,ab,simprocAttr];exact ⟨_,_,_,_,U.symm,rfl,iR _ _ _ _ _ (le_top (C.fh aR e4)),M2.set (fun o=>absurd o (dj (aoz _))) _,C.box bx (aoz _) _⟩
 | false=>
   simp only [b_,aoM,aoA,aoK,bB] at U;simp only [↓aa,ab,simprocAttr];refine bQ (j' cz 3) ?_;cases dD:cS 3 ws with
   | true=>
     simp only [dD,aoM,aoA,aoK,bB] at U;simp only [↓aa,ab,simprocAttr];refine cH (mK cz 3) ?_ ?_
     rotate_left
     . rintro x ag ⟨e,he,rfl,m,bn⟩;simp only [cF,aX,↓aa,ab,simprocAttr];exact ⟨e,by rw [he] at U;exact U.symm,rfl,(cw.trans m),bn⟩
     rintro x ag ⟨⟨aR,bu⟩,bc,rfl,⟨e4,tz⟩,m2,i2,bx⟩;rw [bc] at U
     try simp only [bB] at U
     have M2:=cw.trans m2;have kf:=bz.mod m2 (bU bX);simp only [aX,vcs,bR,aq.enc,kf.g,↓aa,ab,simprocAttr];exact ⟨_,_,_,_,U.symm,rfl,iR _ _ _ _ _ (le_top (C.fh aR e4)),M2.set (fun o=>absurd o (dj (aoz _))) _,C.box bx (aoz _) _⟩
   | false=>
     simp only [dD,aoM,aoA,aoK,bB] at U;simp only [↓aa,ab,simprocAttr];refine cH (kM cz hr) ?_ ?_
     rotate_left
     . rintro x ag ⟨e,he,rfl,m,bn⟩;simp only [cF,aX,↓aa,ab,simprocAttr];exact ⟨e,by rw [he] at U;exact U.symm,rfl,(cw.trans m),bn⟩
     rintro x ag ⟨bu,bc,m2,i2,bx⟩;rw [bc] at U
     try simp only [bB] at U
     have M2:=cw.trans m2;simp only [↓aa,ab,simprocAttr];have g3:(aU af n).ty d bu≠.error b6:=fun q=>by rw [q] at U;exact a8 U.symm
     refine cH (I.ty d bu ag aC i2 bx g3) ?_ ?_
     rotate_left
     . rintro x ar ⟨e,he,rfl,m,bn⟩;simp only [cF,aX,↓aa,ab,simprocAttr];exact ⟨e,by rw [he] at U;exact U.symm,rfl,(M2.trans m),bn⟩
     rintro x ar ⟨a,dd,b4,i3,bV,rfl,aN,m3,cq⟩;rw [bV] at U
     try simp only [bB] at U
     have ct:=M2.trans m3;have c4:=aN.one;obtain ⟨aT,bt,cO,lW⟩:=zX aN (m3.next);have m4:Mod (b3 ak) ar aT:=cO.mod _;have cZ:=ct.trans m4;have ch:=cq.ext cO;have kT:=bz.mod (m2.trans (m3.trans m4)) (bU bX);generalize az:(aU af n).ju d [a] dd=rt at U;have xi:rt≠.error b6:=fun q=>by rw [q] at U;exact a8 U.symm
     simp only [c4.1,c4.2.1,c4.2.2,bt,kT.g,↓aa,ab,simprocAttr];refine gb (fun r g=>r 0=.ptr (ao ak) 0/\r 2=.ptr (ao h.next) 0/\r 3=.int .i64 (bI af ws)/\Has g h.next b8/\Mod (b3 ak) h g/\ag.next<=g.next/\∃m t dm iY,m<=n/\dB ag.next (Fr ag.next) g 5 (List.map aP.enc (a::t)) (r 4)/\(a::t).length<=64/\ed W af ak g d dm aC iY/\(aU af m).ju d (a::t) dm=rt) (fun _ g=>qF W ak g) ?_ ?_
     . exact ⟨by simp only [↓aa,cM,simprocAttr],by simp only [↓aa,cM,simprocAttr],by simp only [↓aa,cM,simprocAttr],kT,cZ,((aoF m3.next m4.next)),n,[],_,_,aoz _,by simp only [↓aa,cM,simprocAttr];exact lW,by simp,ch,az⟩
     have pN:=U;have B1:=a8;clear U a8;rintro r bE ⟨gy,mH,fG,R,cR,ja,m,t,dm,iY,hm,O,aG,bW,U⟩;obtain ⟨dc,ik⟩:∃dc,r 4=dc:=⟨_,rfl⟩;rw [ik] at O;have a8:=xi;cases m with
     | zero=>exact (a8 U.symm).elim
     | succ m=>
       replace U:oC af (aU af m) d (a::t) dm=rt:=U;unfold oC at U;have I:=J m (by omega);have cr:=O.one;simp only [gy,mH,fG,ik,cr.1,cr.2.1,cr.2.2,↓aa,ab,simprocAttr];refine aY (ho bW jt) ?_;rintro x bA ⟨rfl,m6,i6,cv⟩;have di:=cR.trans m6;cases eO:bm jt dm with
       | true=>
         simp only [eO,aoM,aoA,aoK,bB] at U cv;have AK:=hq O m6 (by have:=M2.next;omega) (by have:=M2.next;omega);have hlen:k' dc=some (.int .i64 (a::t).length):=by have:=AK.len;rwa [ao6] at this
         simp only [gy,mH,fG,ik,cr.1,cr.2.1,cr.2.2,↓aa,ab,simprocAttr];refine cH (Pf cv hlen) ?_ ?_
         rotate_left
         . rintro x cl ⟨e,he,rfl,m,bn⟩;simp only [cF,aX,gy,mH,fG,ik,kR,↓aa,ab,simprocAttr];exact ⟨e,by rw [he] at U;rw [<-pN,<-U];rfl,rfl,(di.trans m),bn⟩
         rintro x ae ⟨fL,bP⟩;cases bP;rw [fL] at U;have vc:(a::t).length<64:=by unfold jl at fL;split at fL;cases fL;omega
         try simp only [bB] at U
         simp only [gy,mH,fG,ik,cr.1,cr.2.1,cr.2.2,↓aa,ab,simprocAttr];have g7:(aU af m).ty d dm.tail≠.error b6:=fun q=>by rw [q] at U;exact a8 U.symm
         refine cH (I.ty d dm.tail bA aC i6 cv g7) ?_ ?_
         rotate_left
         . rintro x cl ⟨e,he,rfl,m,bn⟩;simp only [cF,aX,gy,mH,fG,ik,kR,↓aa,ab,simprocAttr];exact ⟨e,by rw [he] at U;rw [<-pN,<-U];rfl,rfl,(di.trans m),bn⟩
         rintro x cl ⟨b,mL,eK,i7,fg,rfl,fM,m7,eP⟩;rw [fg] at U
         try simp only [bB] at U
         have ew:=di.trans m7;have py:=hq AK m7 (by have:=M2.next;omega) (by have:=M2.next;omega);have js:=fM.one;obtain ⟨ut,er,dy,ny,m8,tW,AZ⟩:=pf py (fM.cP (m6.next)) (lg O (aoz _)) (ja) ((aoF m6.next m7.next)) (by omega);have hC:=R.mod (m6.trans m7) (bU bX);have HL:(cl.next=h.next)=False:=aoV (by have:=hC.lt;omega);have gh:=C.lY eP m8 (by have:=M2.next;omega);have gY:=ou ew m8 (by have:=M2.next;omega);have p8:=oa hC m8 (.inl (by have:=bz.lt;have:=m2.next;omega));have U8:=fM.lY m8 (m6.next);have ih:=ny.one;have sS:((a::t)++[b]).length=(a::t).length+1:=by simp<;>omega
         simp only [js.1,js.2.1,js.2.2,dy,HL,gy,mH,fG,ik,cr.1,cr.2.1,cr.2.2,ih.1,ih.2.1,ih.2.2,↓aa,ab,simprocAttr];exact ⟨⟨p8,gY,((aoF ja (aoF m6.next (aoF m7.next m8.next)))),m,t++[b],_,_,by omega,ny,by simp only [aoL,aoH,aoS] at vc ⊢;omega,gh,U⟩,by rw [lD bW,lD gh];have:=fw eO;have:=va ((shorter af m).ty d dm.tail (.inl trivial)) fg;omega⟩
       | false=>
         simp only [eO,aoM,aoA,aoK,bB] at U cv;rw [<-U] at pN;clear U a8;have U:=pN;have a8:=B1
         try simp only [bB] at U
         simp only [gy,mH,fG,ik,cr.1,cr.2.1,cr.2.2,↓aa,ab,simprocAttr];refine cH (kM cv fO) ?_ ?_
         rotate_left
         . rintro x cl ⟨e,he,rfl,m,bn⟩;simp only [cF,aX,gy,mH,fG,ik,kR,↓aa,ab,simprocAttr];exact ⟨e,by rw [he] at U;exact U.symm,rfl,(di.trans m),bn⟩
         rintro x cl ⟨mL,fg,m7,i7,eP⟩;rw [fg] at U
         try simp only [bB] at U
         have ew:=di.trans m7;have py:=hq O (m6.trans m7) (by have:=M2.next;omega) (by have:=M2.next;omega);have hlen:k' dc=some (.int .i64 (List.map aP.enc (a::t)).length):=py.len;cases t with
         | nil=>
           have f0:((List.map aP.enc [a]).length:Int)=1:=rfl;rw [aoN (show [a].length=1 from rfl)] at U;obtain ⟨ck,off,aog,dr,fo,LY⟩:=aiL py (by simp);have hC:=R.mod (m6.trans m7) (bU bX);have o:=LY.one;simp only [o.1,o.2.1,o.2.2,aX,vcs,bR,hlen,f0,dr,fo,hC.g,gy,mH,fG,ik,cr.1,cr.2.1,cr.2.2,↓aa,ab,simprocAttr];exact ⟨_,_,_,_,U.symm,rfl,(LY.box (by have:=m2.next;have:=bz.lt;omega) _).cP (by have:=M2.next;omega),ew.set (fun o=>absurd o (dj (aoz _))) _,C.box eP (aoz _) _⟩
         | cons b t=>
           have f0:((List.map aP.enc (a::b::t)).length:Int)≠1:=by simp only [ao6,aoH];omega
           have f1:(((List.map aP.enc (a::b::t)).length:Int)=1)=False:=aoV f0;rw [aoI (by simp)] at U;simp only [hlen,f1,gy,mH,fG,ik,cr.1,cr.2.1,cr.2.2,↓aa,ab,simprocAttr];refine cH (mK eP 3) ?_ ?_
           rotate_left
           . rintro x er ⟨e,he,rfl,m,bn⟩;simp only [cF,aX,gy,mH,fG,ik,kR,↓aa,ab,simprocAttr];exact ⟨e,by rw [he] at U;exact U.symm,rfl,(ew.trans m),bn⟩
           rintro x er ⟨⟨F5,vX⟩,gm,rfl,⟨adX,anD⟩,m8,i8,gh⟩;rw [gm] at U
           try simp only [bB] at U
           have gY:=ew.trans m8;have UX:=hq py m8 (by have:=M2.next;omega) (by have:=M2.next;omega);have qe:=rI UX (by omega) 2 0 (bI af ws) (s:=F5.text) (le_top (C.fh F5 adX));have Gc:=R.mod (m6.trans (m7.trans m8)) (bU bX);have o:=qe.one;simp only [o.1,o.2.1,o.2.2,aX,vcs,bR,aq.enc,Gc.g,gy,mH,fG,ik,cr.1,cr.2.1,cr.2.2,↓aa,ab,simprocAttr];exact ⟨_,_,_,_,U.symm,rfl,(qe.box (by have:=m2.next;have:=bz.lt;omega) _).cP (by have:=M2.next;omega),gY.set (fun o=>absurd o (dj (aoz _))) _,C.box gh (aoz _) _⟩
theorem Zj (I:iE W af ak n) (d:Nat) (k:Int) (a0:Nat) (ws:List aq):gD W af ak 150 [.int .i64 k,.int .i64 a0] d ws ((aU af (n+1)).hl d k a0 ws):=by
 intro h aC i C a8;generalize U:(aU af (n+1)).hl d k a0 ws=res at a8 ⊢;replace U:Bb af (aU af n) d k a0 ws=res:=U;unfold Bb at U;refine Xh.x rfl (cm ?_);unfold M8;have bX:=C.at_.lt;obtain ⟨ad,an,aO,bz⟩:=fS h b8;have m1:Mod (b3 ak) h ad:=aO.mod _;have cw:=m1;have cz:=C.ext aO;simp only [an,↓aa,ab,simprocAttr];have g2:(aU af n).seq d ws≠.error b6:=fun q=>by rw [q] at U;exact a8 U.symm
 refine cH (I.seq d ws ad aC i cz g2) ?_ ?_
 rotate_left
 . rintro x ag ⟨e,he,rfl,m,bn⟩;simp only [cF,aX,↓aa,ab,simprocAttr];exact ⟨e,by rw [he] at U;exact U.symm,rfl,(cw.trans m),bn⟩
 rintro x ag ⟨a,bu,b4,i2,bc,rfl,aN,m2,bx⟩;rw [bc] at U
 try simp only [bB] at U
 have M2:=cw.trans m2;have dN:=aN.one;obtain ⟨ar,aB,cT,lW⟩:=zX aN (m2.next);have m3:Mod (b3 ak) ag ar:=cT.mod _;have ct:=M2.trans m3;have cq:=bx.ext cT;simp only [dN.1,dN.2.1,dN.2.2,aB,↓aa,ab,simprocAttr];refine cH (kM cq Cf) ?_ ?_
 rotate_left
 . rintro x aT ⟨e,he,rfl,m,bn⟩;simp only [cF,aX,↓aa,ab,simprocAttr];exact ⟨e,by rw [he] at U;exact U.symm,rfl,(ct.trans m),bn⟩
 rintro x aT ⟨dk,cU,m4,i4,ch⟩;rw [cU] at U
 try simp only [bB] at U
 have cZ:=ct.trans m4;simp only [↓aa,ab,simprocAttr];have g5:(aU af n).cases d [] (if bm jT dk then dk.tail else dk)≠.error b6:=fun q=>by rw [q] at U;exact a8 U.symm
 refine cH (I.cases d dk aT aC i4 ch g5) ?_ ?_
 rotate_left
 . rintro x bE ⟨e,he,rfl,m,bn⟩;simp only [cF,aX,↓aa,ab,simprocAttr];exact ⟨e,by rw [he] at U;exact U.symm,rfl,(cZ.trans m),bn⟩
 rintro aod bE ⟨lc,ft,i5,b1,LX,TT,m5,bW⟩;rw [b1] at U
 try simp only [bB] at U
 have cR:=cZ.trans m5;have J4:=LX.one;have GC:=hq lW (m4.trans m5) (by have:=cw.next;omega) (by have:=cw.next;omega);obtain ⟨ama,bA,cx,AJ,m6⟩:=aiK GC LX (lg lW (m4.next)) ((aoF m2.next (aoF m3.next m4.next))) (m5.next) (by simp) (aoF TT (by decide));have cv:=C.lY bW m6 (by have:=cw.next;omega);have di:=ou cR m6 (by have:=cw.next;omega);have hT:=bz.mod (m2.trans (m3.trans (m4.trans m5))) (bU bX);have yo:=oa hT m6 (.inl (by have:=bz.lt;have:=aoz 0;omega));have xV:=AJ.one;have Lv:([a]++lc).length=1+lc.length:=by simp<;>omega
 have oN:=rI AJ (by have:=(rfl:[a].length=1);have:=TT;have:=Lv;omega) k 0 a0 (s:=[]) (aoQ _);have o:=oN.one;simp only [o.1,o.2.1,o.2.2,aX,vcs,bR,cx,yo.g,J4.1,J4.2.1,J4.2.2,xV.1,xV.2.1,xV.2.2,↓aa,ab,simprocAttr];exact ⟨_,_,_,_,U.symm,rfl,(oN.box (by have:=bX;have:=bz.lt;omega) _).cP (by have:=cw.next;omega),di.set (fun o=>absurd o (dj (aoz _))) _,C.box cv (aoz _) _⟩
theorem agV (I:iE W af ak n) (d:Nat) (a0:Nat) (ws:List aq):gD W af ak 149 [.int .i64 a0] d ws ((aU af (n+1)).lt d a0 ws):=by
 intro h aC i C a8;generalize U:(aU af (n+1)).lt d a0 ws=res at a8 ⊢;replace U:tV af (aU af n) d a0 ws=res:=U;unfold tV at U;refine Xg.x rfl (cm ?_);unfold M7;have bX:=C.at_.lt;obtain ⟨ad,an,aO,bz⟩:=fS h b8;have m1:Mod (b3 ak) h ad:=aO.mod _;have cw:=m1;have cz:=C.ext aO;simp only [an,↓aa,ab,simprocAttr];refine aY (ho cz qA) ?_;rintro x ag ⟨rfl,m2,i2,bx⟩;have M2:=cw.trans m2;cases b_:bm qA ws with
 | true=>
   simp only [b_,aoM,aoA,aoK,bB] at U bx;simp only [↓aa,ab,simprocAttr];have g3:(aU af n).binds d [] ws.tail≠.error b6:=fun q=>by rw [q] at U;exact a8 U.symm
   refine cH (I.binds d ws.tail ag aC i2 bx g3) ?_ ?_
   rotate_left
   . rintro x ar ⟨e,he,rfl,m,bn⟩;simp only [cF,aX,↓aa,ab,simprocAttr];exact ⟨e,by rw [he] at U;exact U.symm,rfl,(M2.trans m),bn⟩
   rintro ul ar ⟨zF,dd,i3,bV,lW,Gb,m3,cq⟩;rw [bV] at U
   try simp only [bB] at U
   have ct:=M2.trans m3;have nn:=lW.one;simp only [nn.1,nn.2.1,nn.2.2,↓aa,ab,simprocAttr];refine cH (kM cq vv) ?_ ?_
   rotate_left
   . rintro x aT ⟨e,he,rfl,m,bn⟩;simp only [cF,aX,↓aa,ab,simprocAttr];exact ⟨e,by rw [he] at U;exact U.symm,rfl,(ct.trans m),bn⟩
   rintro x aT ⟨dk,cU,m4,i4,ch⟩;rw [cU] at U
   try simp only [bB] at U
   have cZ:=ct.trans m4;simp only [nn.1,nn.2.1,nn.2.2,↓aa,ab,simprocAttr];have g5:(aU af n).seq d dk≠.error b6:=fun q=>by rw [q] at U;exact a8 U.symm
   refine cH (I.seq d dk aT aC i4 ch g5) ?_ ?_
   rotate_left
   . rintro x bE ⟨e,he,rfl,m,bn⟩;simp only [cF,aX,↓aa,ab,simprocAttr];exact ⟨e,by rw [he] at U;exact U.symm,rfl,(cZ.trans m),bn⟩
   rintro x bE ⟨b,ft,eK,i5,b1,rfl,fM,m5,bW⟩;rw [b1] at U
   try simp only [bB] at U
   have cR:=cZ.trans m5;have GC:=hq lW (m4.trans m5) (by have:=M2.next;omega) (by have:=M2.next;omega);have fm:=fM.one;obtain ⟨ama,bA,cx,AJ,m6,lC,am9⟩:=pf GC (fM.cP (m4.next)) (lg lW (aoz _)) (m3.next) ((aoF m4.next m5.next)) (aoF Gb (by decide));have hT:=bz.mod (m2.trans (m3.trans (m4.trans m5))) (bU bX);have aaX:(bE.next=h.next)=False:=aoV (by have:=hT.lt;omega);have cv:=C.lY bW m6 (by have:=M2.next;omega);have di:=ou cR m6 (by have:=M2.next;omega);have yo:=oa hT m6 (.inl (by have:=bz.lt;have:=m2.next;omega));have am4:=fM.lY m6 (m4.next);have xV:=AJ.one;have Lv:(zF++[b]).length=zF.length+1:=by simp<;>omega
   have oN:=rI AJ (by have:=Gb;have:=Lv;omega) 30 0 a0 (s:=[]) (aoQ _);have o:=oN.one;simp only [o.1,o.2.1,o.2.2,aX,vcs,bR,fm.1,fm.2.1,fm.2.2,cx,aaX,yo.g,nn.1,nn.2.1,nn.2.2,xV.1,xV.2.1,xV.2.2,↓aa,ab,simprocAttr];exact ⟨_,_,_,_,U.symm,rfl,(oN.box (by have:=m2.next;have:=bz.lt;omega) _).cP (by have:=M2.next;omega),di.set (fun o=>absurd o (dj (aoz _))) _,C.box cv (aoz _) _⟩
 | false=>
   simp only [b_,aoM,aoA,aoK,bB] at U bx;simp only [↓aa,ab,simprocAttr];have g3:(aU af n).pat d ws≠.error b6:=fun q=>by rw [q] at U;exact a8 U.symm
   refine cH (I.pat d ws ag aC i2 bx g3) ?_ ?_
   rotate_left
   . rintro x ar ⟨e,he,rfl,m,bn⟩;simp only [cF,aX,↓aa,ab,simprocAttr];exact ⟨e,by rw [he] at U;exact U.symm,rfl,(M2.trans m),bn⟩
   rintro x ar ⟨p,dd,uE,i3,bV,rfl,oN,m3,cq⟩;rw [bV] at U
   try simp only [bB] at U
   have ct:=M2.trans m3;have c4:=oN.one;obtain ⟨aT,bt,cO,eL⟩:=fz ar b8 (vcs p uE);have m4:Mod (b3 ak) ar aT:=cO.mod _;have cZ:=ct.trans m4;have ch:=cq.ext cO;simp only [c4.1,c4.2.1,c4.2.2,bt,↓aa,ab,simprocAttr];refine cH (kM ch h3) ?_ ?_
   rotate_left
   . rintro x bE ⟨e,he,rfl,m,bn⟩;simp only [cF,aX,↓aa,ab,simprocAttr];exact ⟨e,by rw [he] at U;exact U.symm,rfl,(cZ.trans m),bn⟩
   rintro x bE ⟨ft,b1,m5,i5,bW⟩;rw [b1] at U
   try simp only [bB] at U
   have cR:=cZ.trans m5;simp only [↓aa,ab,simprocAttr];have g6:(aU af n).seq d ft≠.error b6:=fun q=>by rw [q] at U;exact a8 U.symm
   refine cH (I.seq d ft bE aC i5 bW g6) ?_ ?_
   rotate_left
   . rintro x bA ⟨e,he,rfl,m,bn⟩;simp only [cF,aX,↓aa,ab,simprocAttr];exact ⟨e,by rw [he] at U;exact U.symm,rfl,(cR.trans m),bn⟩
   rintro x bA ⟨a,jv,b4,i6,dS,rfl,aN,m6,cv⟩;rw [dS] at U
   try simp only [bB] at U
   have di:=cR.trans m6;have gl:=aN.one;obtain ⟨cl,dq,dR,rW⟩:=fz bA b8 (vcs a b4);have m7:Mod (b3 ak) bA cl:=dR.mod _;have ew:=di.trans m7;have eP:=cv.ext dR;simp only [gl.1,gl.2.1,gl.2.2,dq,↓aa,ab,simprocAttr];refine cH (kM eP vv) ?_ ?_
   rotate_left
   . rintro x er ⟨e,he,rfl,m,bn⟩;simp only [cF,aX,↓aa,ab,simprocAttr];exact ⟨e,by rw [he] at U;exact U.symm,rfl,(ew.trans m),bn⟩
   rintro x er ⟨vX,gm,m8,i8,gh⟩;rw [gm] at U
   try simp only [bB] at U
   have gY:=ew.trans m8;have v':=eL.mod (m5.trans (m6.trans (m7.trans m8))) (bU (by have:=ct.next;omega));have sT:=rW.mod m8 (bU (by have:=di.next;omega));simp only [v'.g,sT.g,↓aa,ab,simprocAttr];have g9:(aU af n).seq d vX≠.error b6:=fun q=>by rw [q] at U;exact a8 U.symm
   refine cH (I.seq d vX er aC i8 gh g9) ?_ ?_
   rotate_left
   . rintro x fB ⟨e,he,rfl,m,bn⟩;simp only [cF,aX,v'.g,sT.g,↓aa,ab,simprocAttr];exact ⟨rfl,e,by rw [he] at U;exact U.symm,rfl,(gY.trans m),bn⟩
   rintro x fB ⟨b,uI,eK,i9,mb,rfl,fM,m9,fQ⟩;rw [mb] at U
   try simp only [bB] at U
   have h8:=gY.trans m9;have Lw:=v'.mod m9 (bU (by have:=ct.next;omega));have At:=sT.mod m9 (bU (by have:=di.next;omega));have AN:=oN.mod (m4.trans (m5.trans (m6.trans (m7.trans (m8.trans m9))))) (by have:=M2.next;omega);have uU:=aN.mod (m7.trans (m8.trans m9)) (by have:=cR.next;omega);have xL:=AN.one;have xM:=uU.one;have JV:=fM.one;obtain ⟨iJ,l',u5,Gt⟩:=JD (F:=Fr ag.next) (h:=fB) (size:=5) rfl rfl rfl AN.cs (uU.cP (h7:=ag.next) (by have:=(aoF m3.next (aoF m4.next m5.next));omega)).cs (fM.cP (h7:=ag.next) (by have:=(aoF m3.next (aoF m4.next (aoF m5.next (aoF m6.next (aoF m7.next m8.next)))));omega)).cs (rf (m3.trans (m4.trans (m5.trans (m6.trans (m7.trans (m8.trans m9)))))).next);simp only [vcs,aoW,ao5] at l';have m10:Mod (b3 ak) fB iJ:=u5.mod _;have oJ:=h8.trans m10;have iU:=fQ.ext u5;have AM:=oy (l:=[p,a,b]) 29 0 a0 [] Gt rfl (aoQ _);have v8:=bz.mod (m2.trans (m3.trans (m4.trans (m5.trans (m6.trans (m7.trans (m8.trans (m9.trans m10)))))))) (bU bX);have TZ:=Lw.mod m10 (bU (by have:=ct.next;omega));have Ge:=At.mod m10 (bU (by have:=di.next;omega));have o:=AM.one;simp only [o.1,o.2.1,o.2.2,aX,vcs,bR,xL.1,xL.2.1,xL.2.2,xM.1,xM.2.1,xM.2.2,JV.1,JV.2.1,JV.2.2,l',v8.g,TZ.g,Ge.g,v'.g,sT.g,Lw.g,At.g,↓aa,ab,simprocAttr];exact ⟨_,_,_,_,U.symm,rfl,(AM.box (by have:=m2.next;have:=bz.lt;omega) _).cP (by have:=M2.next;omega),oJ.set (fun o=>absurd o (dj (aoz _))) _,C.box iU (aoz _) _⟩
end
end
section
open Go ba
variable {W:List aq} {af ak n:Nat}
theorem ajz:iE W af ak 0:=by constructor<;>(intros;intro h aC i C a8;exact absurd rfl a8)
theorem ajy (J:∀m,m<=n->iE W af ak m):iE W af ak (n+1):=by have I:=J n (aoz n);exact ⟨alY I,ai4 I,ahg I,alR J,ajv I,ajq I,ajs I,akP I,Y1 J,abh I,ah9 I,Zj I,agV I,Ws J,ai0 I,Zq I,alp J,alr J,ajN I,VS J,Wa I⟩
theorem Km (W:List aq) (af ak:Nat):∀n m,m<=n->iE W af ak m
 | 0,m,h=>by obtain rfl:m=0:=by omega
             exact ajz
 | n+1,m,h=>by
   by_cases e:m=n+1
   . rw [e];exact ajy (Km W af ak n)
   . exact Km W af ak n m (by omega)
theorem vH (W:List aq) (af ak n:Nat):iE W af ak n:=Km W af ak n n (aoz n)
end
section
open Go ba
section
variable {W:List aq} {af ak n:Nat}
theorem Hw (I:iE W af ak n) (k:Int) (ws:List aq):gD W af ak 53 [.int .i64 k] 0 ws (kZ af (aU af n) k ws):=by
 intro h aC i C a8;generalize U:kZ af (aU af n) k ws=res at a8 ⊢;unfold kZ at U;refine Ye.x rfl (cm ?_);unfold NT;have bX:=C.at_.lt;obtain ⟨ad,an,aO,bz⟩:=fS h b8;have m1:Mod (b3 ak) h ad:=aO.mod _;have cw:=m1;have cz:=C.ext aO;simp only [an,↓aa,ab,simprocAttr];refine cH (mK cz 4) ?_ ?_
 rotate_left
 . rintro x ag ⟨e,he,rfl,m,bn⟩;simp only [cF,aX,↓aa,ab,simprocAttr];exact ⟨e,by rw [he] at U;exact U.symm,rfl,(cw.trans m),bn⟩
 rintro x ag ⟨⟨aR,bu⟩,bc,rfl,⟨e4,tz⟩,m2,i2,bx⟩;rw [bc] at U
 try simp only [bB] at U
 have M2:=cw.trans m2;obtain ⟨ar,aB,cT,fj⟩:=fz ag [.int .i64 0,.int .i64 0,.int .i64 0,.str []] [.int .i64 aR.kind,.int .i64 aR.num,.int .i64 aR.pos,.str aR.text];have m3:Mod (b3 ak) ag ar:=cT.mod _;have ct:=M2.trans m3;have cq:=bx.ext cT;obtain ⟨aT,bt,cO,eL⟩:=fz ar b8 [.int .i64 k,.int .i64 0,.int .i64 aR.pos,.str aR.text,.cL];have m4:Mod (b3 ak) ar aT:=cO.mod _;have cZ:=ct.trans m4;have ch:=cq.ext cO;simp only [aq.enc,aB,fj.g,bt,↓aa,ab,simprocAttr];refine aY (ho ch zy) ?_;rintro x bE ⟨rfl,m5,i5,bW⟩;have cR:=cZ.trans m5;cases b_:bm zy bu with
 | true=>
   simp only [b_,aoM,aoA,aoK,bB] at U bW;simp only [↓aa,ab,simprocAttr];have g6:(aU af n).ty 0 bu.tail≠.error b6:=fun q=>by rw [q] at U;exact a8 U.symm
   refine cH (I.ty 0 bu.tail bE aC i5 bW g6) ?_ ?_
   rotate_left
   . rintro x bA ⟨e,he,rfl,m,bn⟩;simp only [cF,aX,↓aa,ab,simprocAttr];exact ⟨e,by rw [he] at U;exact U.symm,rfl,(cR.trans m),bn⟩
   rintro x bA ⟨a,jv,b4,i6,dS,rfl,aN,m6,cv⟩;rw [dS] at U
   try simp only [bB] at U
   have di:=cR.trans m6;have e':=aN.one;obtain ⟨cl,dq,dR,q3⟩:=sC (F:=Fr bE.next) (h:=bA) (size:=5) rfl aN.cs (rf m6.next);have m7:Mod (b3 ak) bA cl:=dR.mod _;have ew:=di.trans m7;have eP:=cv.ext dR;have ef:=oy (l:=[a]) k 0 aR.pos aR.text q3 rfl (le_top (C.fh aR e4));have kU:=eL.mod (m5.trans (m6.trans m7)) (bU (by have:=ct.next;omega));obtain ⟨er,dy⟩:∃g,cl.set (ao ar.next) (.bd [.int .i64 k,.int .i64 0,.int .i64 aR.pos,.str aR.text,(.slice (ao bA.next) 0 1 1)] 0 false)=g:=⟨_,rfl⟩;have ps:=kU.put [.int .i64 k,.int .i64 0,.int .i64 aR.pos,.str aR.text,(.slice (ao bA.next) 0 1 1)];rw [dy] at ps;have gh:=C.box eP (n:=ar.next) ct.next (.bd [.int .i64 k,.int .i64 0,.int .i64 aR.pos,.str aR.text,(.slice (ao bA.next) 0 1 1)] 0 false)
   rw [dy] at gh;have gY:Mod (b3 ak) h er:=by rw [<-dy];exact ew.set (fun o=>absurd o (dj ct.next)) _
   have qd:=aN.mod m7 (by have:=cR.next;omega);have wk:=qd.box (n:=ar.next) (by have:=m5.next;have:=eL.lt;omega) (.bd [.int .i64 k,.int .i64 0,.int .i64 aR.pos,.str aR.text,(.slice (ao bA.next) 0 1 1)] 0 false);rw [dy] at wk;have oM:=ef.box (n:=ar.next) (by have:=m5.next;have:=eL.lt;omega) (.bd [.int .i64 k,.int .i64 0,.int .i64 aR.pos,.str aR.text,(.slice (ao bA.next) 0 1 1)] 0 false);rw [dy] at oM;have hC:=bz.mod (m2.trans (m3.trans (m4.trans (m5.trans (m6.trans m7))))) (bU bX);have p8:=hC.set (m:=ar.next) (by have:=bz.lt;have:=(m2.trans m3).next;omega) (.bd [.int .i64 k,.int .i64 0,.int .i64 aR.pos,.str aR.text,(.slice (ao bA.next) 0 1 1)] 0 false);rw [dy] at p8;have pr:=fj.mod (m4.trans (m5.trans (m6.trans m7))) (bU (by have:=M2.next;omega));have Gi:=pr.set (m:=ar.next) (by have:=fj.lt;omega) (.bd [.int .i64 k,.int .i64 0,.int .i64 aR.pos,.str aR.text,(.slice (ao bA.next) 0 1 1)] 0 false);rw [dy] at Gi;have m8:Mod (fun b=>b=ao ar.next) cl er:=by rw [<-dy];exact (Mod.refl (fun b=>b=ao ar.next) _).set (fun _=>rfl) _
   have o:=oM.one;simp only [o.1,o.2.1,o.2.2,aX,vcs,bR,e'.1,e'.2.1,e'.2.2,dq,kU.g,dy,ps.g,p8.g,↓aa,ab,simprocAttr];exact ⟨_,_,_,_,U.symm,rfl,(oM.box (by have:=(aoF m2.next (aoF m3.next (aoF m4.next m5.next)));have:=bz.lt;omega) _).cP (by have:=cR.next;omega),gY.set (fun o=>absurd o (dj (aoz _))) _,C.box gh (aoz _) _⟩
 | false=>
   simp only [b_,aoM,aoA,aoK,bB] at U bW;have hf:=eL.mod m5 (bU (by have:=ct.next;omega));have hT:=bz.mod (m2.trans (m3.trans (m4.trans m5))) (bU bX);simp only [aX,vcs,bR,hf.g,hT.g,↓aa,ab,simprocAttr];exact ⟨_,_,_,_,U.symm,rfl,iR _ _ _ _ _ (le_top (C.fh aR e4)),cR.set (fun o=>absurd o (dj (aoz _))) _,C.box bW (aoz _) _⟩
theorem Lf {h:ah} {d i b:Nat} {ws:List aq} {aC:V} (C:ed W af ak h d ws aC i) (yk:Has h b [.ptr (ao ak) 0]):jW Tryz.prog 98 [.ptr (ao b) 0] h (fun x ae=>∃q,fc af 5 ws=.ok q/\x=.agg (vcs (h4 q.1) .cL)/\q.1 ∈ W/\Mod (b3 ak) h ae/\∃fV,ed W af ak ae d q.2 aC fV) (s7 W af ak h (fc af 5 ws)):=by
 refine YO.x rfl (cm ?_);unfold On;have bX:=C.at_.lt;obtain ⟨ad,an,aO,bz⟩:=fS h b8;have cz:=C.ext aO;have T6:=yk.ext aO;simp only [an,T6.g,↓aa,ab,simprocAttr];refine cH (mK cz 5) ?_ ?_
 rotate_left
 . rintro x ag ⟨e,he,rfl,m,bn⟩;simp only [cF,aX,↓aa,ab,simprocAttr];exact ⟨e,he,rfl,(aO.mod _).trans m,bn⟩
 rintro x ag ⟨⟨w,bu⟩,bc,rfl,⟨hw,aD⟩,m2,i2,bx⟩;obtain ⟨ar,aB,cT,fj⟩:=fz ag [.int .i64 0,.int .i64 0,.int .i64 0,.str []] [.int .i64 w.kind,.int .i64 w.num,.int .i64 w.pos,.str w.text];have cq:=bx.ext cT;have p7:=(bz.mod m2 (bU bX)).ext cT;simp only [aq.enc,aB,fj.g,p7.g,h4,vcs,bR,aX,↓aa,ab,simprocAttr];exact ⟨_,bc,rfl,hw,(((aO.mod (b3 ak)).trans m2).trans (cT.mod _)).set (fun o=>absurd o (dj (aoz _))) _,i2,C.box cq (aoz _) _⟩
theorem aje (k:Nat) (ws:List aq):AO W af ak 51 [] 0 ws (pg af k ws):=by
 intro h aC i C a8;generalize U:pg af k ws=res at a8 ⊢;unfold pg at U;refine Yc.x rfl (cm ?_);unfold c51;have bX:=C.at_.lt;obtain ⟨ad,an,aO,bz⟩:=fS h [.ptr (ao ak) 0];have m1:Mod (b3 ak) h ad:=aO.mod _;have cw:=m1;have cz:=C.ext aO;simp only [an,bz.g,↓aa,ab,simprocAttr];refine bQ (j' cz 5) ?_;cases b_:cS 5 ws with
 | true=>
   simp only [b_,aoM,aoA,aoK,bB] at U;simp only [bz.g,↓aa,ab,simprocAttr];refine cH (Lf cz bz) ?_ ?_
   rotate_left
   . rintro x ag ⟨e,he,rfl,m,bn⟩;simp only [cF,aX,↓aa,ab,simprocAttr];exact ⟨e,by rw [he] at U;exact U.symm,rfl,(cw.trans m),bn⟩
   rintro x ag ⟨⟨aR,bu⟩,bc,rfl,e4,m2,i2,bx⟩;rw [bc] at U
   try simp only [bB] at U
   have M2:=cw.trans m2;have L3:dt (Fr ag.next) ag (h4 aR) .cL:=iR _ _ _ _ _ (le_top (C.fh aR e4));have dN:=L3.one;obtain ⟨ar,aB,cT,lW⟩:=zX L3 (aoz _);have m3:Mod (b3 ak) ag ar:=cT.mod _;have ct:=M2.trans m3;have cq:=bx.ext cT;have cr:=lW.one;simp only [cr.1,cr.2.1,cr.2.2,aX,dN.1,dN.2.1,dN.2.2,aB,↓aa,ab,simprocAttr];exact ⟨_,_,_,U.symm,R4 lW (M2.next),by simp,ct,cq⟩
 | false=>
   simp only [b_,aoM,aoA,aoK,bB] at U;simp only [bz.g,↓aa,ab,simprocAttr];refine aY (ho cz hr) ?_;rintro x ag ⟨rfl,m2,i2,bx⟩;have M2:=cw.trans m2;cases dD:bm hr ws with
   | true=>
     simp only [dD,aoM,aoA,aoK,bB] at U bx;have kf:=bz.mod m2 (bU bX);simp only [kf.g,↓aa,ab,simprocAttr];refine cH (Lf bx kf) ?_ ?_
     rotate_left
     . rintro x ar ⟨e,he,rfl,m,bn⟩;simp only [cF,aX,↓aa,ab,simprocAttr];exact ⟨e,by rw [he] at U;exact U.symm,rfl,(M2.trans m),bn⟩
     rintro x ar ⟨⟨eH,dd⟩,bV,rfl,pR,m3,i3,cq⟩;rw [bV] at U
     try simp only [bB] at U
     have ct:=M2.trans m3;have L4:dt (Fr ar.next) ar (h4 eH) .cL:=iR _ _ _ _ _ (le_top (C.fh eH pR));have c4:=L4.one;obtain ⟨aT,bt,cO,lW⟩:=zX L4 (aoz _);have m4:Mod (b3 ak) ar aT:=cO.mod _;have cZ:=ct.trans m4;have ch:=cq.ext cO;have kT:=kf.mod (m3.trans m4) (bU bX);generalize az:kN af k [(h4 eH)] dd=rt at U;have xi:rt≠.error b6:=fun q=>by rw [q] at U;exact a8 U.symm
     simp only [c4.1,c4.2.1,c4.2.2,bt,↓aa,ab,simprocAttr];refine gb (fun r g=>r 1=.ptr (ao h.next) 0/\r 3=.func 98 [.ptr (ao h.next) 0]/\Has g h.next [.ptr (ao ak) 0]/\Mod (b3 ak) h g/\ar.next<=g.next/\∃m l dm iY,dB ar.next (Fr ar.next) g 5 (List.map aP.enc l) (r 4)/\l.length<=64/\ed W af ak g 0 dm aC iY/\kN af m l dm=rt) (fun _ g=>qF W ak g) ?_ ?_
     . exact ⟨by simp only [↓aa,cM,simprocAttr],by simp only [↓aa,cM,simprocAttr],kT,cZ,(m4.next),k,[(h4 eH)],_,_,by simp only [↓aa,cM,simprocAttr];exact lW,by simp,ch,az⟩
     have pN:=U;have B1:=a8;clear U a8;rintro r bE ⟨uj,fG,R,cR,ja,m,l,dm,iY,O,aG,bW,U⟩;obtain ⟨dc,ik⟩:∃dc,r 4=dc:=⟨_,rfl⟩;rw [ik] at O;have a8:=xi;cases m with
     | zero=>exact (a8 U.symm).elim
     | succ m=>
       simp only [kN] at U;have cr:=O.one;simp only [uj,fG,ik,R.g,cr.1,cr.2.1,cr.2.2,↓aa,ab,simprocAttr];refine aY (ho bW jt) ?_;rintro x bA ⟨rfl,m6,i6,cv⟩;have di:=cR.trans m6;cases eO:bm jt dm with
       | true=>
         simp only [eO,aoM,aoA,aoK,bB] at U cv;have AK:=hq O m6 (by have:=ct.next;omega) (by have:=ct.next;omega);have hlen:k' dc=some (.int .i64 l.length):=by have:=AK.len;rwa [ao6] at this
         have jg:=R.mod m6 (bU bX);simp only [jg.g,uj,fG,ik,cr.1,cr.2.1,cr.2.2,↓aa,ab,simprocAttr];refine cH (Pf cv hlen) ?_ ?_
         rotate_left
         . rintro x cl ⟨e,he,rfl,m,bn⟩;simp only [cF,aX,uj,fG,ik,kR,↓aa,ab,simprocAttr];exact ⟨e,by rw [he] at U;rw [<-pN,<-U];rfl,rfl,(di.trans m),bn⟩
         rintro x ae ⟨fL,bP⟩;cases bP;rw [fL] at U;have vc:l.length<64:=by unfold jl at fL;split at fL;cases fL;omega
         try simp only [bB] at U
         simp only [jg.g,uj,fG,ik,cr.1,cr.2.1,cr.2.2,↓aa,ab,simprocAttr];refine cH (Lf cv jg) ?_ ?_
         rotate_left
         . rintro x cl ⟨e,he,rfl,m,bn⟩;simp only [cF,aX,uj,fG,ik,kR,↓aa,ab,simprocAttr];exact ⟨e,by rw [he] at U;rw [<-pN,<-U];rfl,rfl,(di.trans m),bn⟩
         rintro x cl ⟨⟨Lh,mL⟩,fg,rfl,adW,m7,i7,eP⟩;rw [fg] at U
         try simp only [bB] at U
         have ew:=di.trans m7;have GK:dt (Fr cl.next) cl (h4 Lh) .cL:=iR _ _ _ _ _ (le_top (C.fh Lh adW));have py:=hq AK m7 (by have:=ct.next;omega) (by have:=ct.next;omega);have js:=GK.one;obtain ⟨ut,er,dy,ny,m8,tW,AZ⟩:=pf py (GK.cP ((aoF m6.next m7.next))) (lg O (aoz _)) (ja) ((aoF m6.next m7.next)) (by omega);have hC:=jg.mod m7 (bU bX);have aaZ:(cl.next=h.next)=False:=aoV (by have:=hC.lt;omega);have gh:=C.lY eP m8 (by have:=ct.next;omega);have gY:=ou ew m8 (by have:=ct.next;omega);have Ua:=oa hC m8 (.inl (by have:=bz.lt;have:=(aoF m2.next m3.next);omega));have am5:=GK.lY m8 ((aoF m6.next m7.next));have ih:=ny.one;have sS:(l++[(h4 Lh)]).length=l.length+1:=by simp<;>omega
         simp only [js.1,js.2.1,js.2.2,dy,aaZ,uj,fG,ik,cr.1,cr.2.1,cr.2.2,ih.1,ih.2.1,ih.2.2,↓aa,ab,simprocAttr];exact ⟨⟨Ua,gY,((aoF ja (aoF m6.next (aoF m7.next m8.next)))),m,_,_,_,ny,by rw [sS];omega,gh,U⟩,by rw [lD bW,lD gh];show mL.length<_;have:=fw eO;have fB:mL.length<dm.tail.length:=Tn fg;omega⟩
       | false=>
         simp only [eO,aoM,aoA,aoK,bB] at U cv;rw [<-U] at pN;clear U a8;have U:=pN;have a8:=B1
         try simp only [bB] at U
         have jg:=R.mod m6 (bU bX);simp only [jg.g,uj,fG,ik,cr.1,cr.2.1,cr.2.2,↓aa,ab,simprocAttr];refine cH (kM cv fO) ?_ ?_
         rotate_left
         . rintro x cl ⟨e,he,rfl,m,bn⟩;simp only [cF,aX,uj,fG,ik,kR,↓aa,ab,simprocAttr];exact ⟨e,by rw [he] at U;exact U.symm,rfl,(di.trans m),bn⟩
         rintro x cl ⟨mL,fg,m7,i7,eP⟩;rw [fg] at U
         try simp only [bB] at U
         have ew:=di.trans m7;have py:=hq O (m6.trans m7) (by have:=ct.next;omega) (by have:=ct.next;omega);simp only [aX,uj,fG,ik,cr.1,cr.2.1,cr.2.2,↓aa,ab,simprocAttr];exact ⟨_,_,_,U.symm,R4 py (by have:=ct.next;omega),by omega,ew,eP⟩
   | false=>
     simp only [dD,aoM,aoA,aoK,bB] at U bx;simp only [aX,↓aa,ab,simprocAttr];exact ⟨_,_,_,U.symm,dB.nil _ _ _ _,by simp,M2,bx⟩
end
section
variable {W:List aq} {af ak n:Nat}
theorem ZN (af n:Nat) (k:Int) (ws:List aq):eI (fun _=>True) ws (kZ af (aU af n) k ws):=by
 try dsimp only
 refine (ky (fun _ _=>trivial)).bind (fun _ _=>trivial) fun w a_ ad=>?_
 try simp only
 split
 . rename_i al;have:=fw al
   try dsimp only
   exact ((shorter af n).ty _ _ (.inl trivial)).bind (fun _ _=>trivial) fun b bu ag=>by show bu.length<_;omega
 . exact ad
theorem Z5 (I:iE W af ak n) (k:Nat) (ws:List aq):gD W af ak 23 [] 0 ws (n5 af (aU af n) k ws):=by
 intro h aC i C a8;generalize U:n5 af (aU af n) k ws=res at a8 ⊢;unfold n5 at U;dsimp only at U;refine XU.x rfl (cm ?_);unfold Nv;have bX:=C.at_.lt;obtain ⟨ad,an,aO,bz⟩:=fS h b8;have m1:Mod (b3 ak) h ad:=aO.mod _;have cw:=m1;have cz:=C.ext aO;simp only [an,↓aa,ab,simprocAttr];refine bQ (qO cz) ?_;simp only [↓aa,ab,simprocAttr];refine aY (ho cz zB) ?_;rintro x ag ⟨rfl,m2,i2,bx⟩;have M2:=cw.trans m2;cases b_:bm zB ws with
 | true=>
   simp only [b_,aoM,aoA,aoK,bB] at U bx;simp only [↓aa,ab,simprocAttr];have g3:pg af k ws.tail≠.error b6:=fun q=>by rw [q] at U;exact a8 U.symm
   refine cH (aje k ws.tail ag aC i2 bx g3) ?_ ?_
   rotate_left
   . rintro x ar ⟨e,he,rfl,m,bn⟩;simp only [cF,aX,↓aa,ab,simprocAttr];exact ⟨e,by rw [he] at U;exact U.symm,rfl,(M2.trans m),bn⟩
   rintro up ar ⟨hH,dd,i3,bV,Op,TV,m3,cq⟩;rw [bV] at U
   try simp only [bB] at U
   have ct:=M2.trans m3;have qM:=Op.one;have hlen:k' up=some (.int .i64 hH.length):=by have:=Op.len;rwa [ao6] at this
   simp only [hlen,qM.1,qM.2.1,qM.2.2,↓aa,ab,simprocAttr];refine cH (mK cq 3) ?_ ?_
   rotate_left
   . rintro x aT ⟨e,he,rfl,m,bn⟩;simp only [cF,aX,↓aa,ab,simprocAttr];exact ⟨e,by rw [he] at U;exact U.symm,rfl,(ct.trans m),bn⟩
   rintro x aT ⟨⟨gn,dk⟩,cU,rfl,⟨xl,vj⟩,m4,i4,ch⟩;rw [cU] at U
   try simp only [bB] at U
   have cZ:=ct.trans m4;have GG:=R6 Op (m4.next);obtain ⟨bE,ca,e7,iB⟩:=fz aT b8 [.int .i64 50,.int .i64 hH.length,.int .i64 (bI af ws),.str gn.text,.cL];have m5:Mod (b3 ak) aT bE:=e7.mod _;have cR:=cZ.trans m5;have bW:=ch.ext e7;have ap:¬V.bp up (ao aT.next):=fun z=>by have:=lg Op (aoz _) _ z;rw [dh] at this;have:=m4.next;omega
   simp only [aq.enc,ca,qM.1,qM.2.1,qM.2.2,↓aa,ab,simprocAttr];refine cH (kM bW h3) ?_ ?_
   rotate_left
   . rintro x bA ⟨e,he,rfl,m,bn⟩;simp only [cF,aX,↓aa,ab,simprocAttr];exact ⟨e,by rw [he] at U;exact U.symm,rfl,(cR.trans m),bn⟩
   rintro x bA ⟨jv,dS,m6,i6,cv⟩;rw [dS] at U
   try simp only [bB] at U
   have di:=cR.trans m6;simp only [qM.1,qM.2.1,qM.2.2,↓aa,ab,simprocAttr];have g7:kZ af (aU af n) 47 jv≠.error b6:=fun q=>by rw [q] at U;exact a8 U.symm
   refine cH (Hw I 47 jv bA aC i6 cv g7) ?_ ?_
   rotate_left
   . rintro x cl ⟨e,he,rfl,m,bn⟩;simp only [cF,aX,↓aa,ab,simprocAttr];exact ⟨e,by rw [he] at U;exact U.symm,rfl,(di.trans m),bn⟩
   rintro x cl ⟨c,mL,eu,i7,fg,rfl,ef,m7,eP⟩;rw [fg] at U
   try simp only [bB] at U
   have ew:=di.trans m7;have UY:=zW GG (m4.trans (m5.trans (m6.trans m7))) (by have:=M2.next;omega);have js:=ef.one;obtain ⟨ul,er,dy,lW,m8,tW,AZ⟩:=Ka UY ef (lg Op ((aoF m4.next (aoF m5.next m6.next)))) (by have:=iB.lt;have:=m6.next;omega) ((aoF m3.next (aoF m4.next (aoF m5.next m6.next)))) (m7.next) (aoF TV (by decide));have hC:=bz.mod (m2.trans (m3.trans (m4.trans (m5.trans (m6.trans m7))))) (bU bX);have HL:(cl.next=h.next)=False:=aoV (by have:=hC.lt;omega);have Ly:=iB.mod (m6.trans m7) (bU (by have:=cZ.next;omega));have aaY:(cl.next=aT.next)=False:=aoV (by have:=Ly.lt;omega);have gh:=C.lY eP m8 (by have:=M2.next;omega);have gY:=ou ew m8 (by have:=M2.next;omega);have p8:=oa hC m8 (.inl (by have:=bz.lt;have:=m2.next;omega));have Gi:=Ly.mod tW ap;have oM:=ef.lY m8 (aoz _);have nn:=lW.one;have amP:(hH++[c]).length=hH.length+1:=by simp<;>omega
   have Mb:¬V.bp ul (ao aT.next):=fun z=>(AZ _ z).elim ap (fun z=>by rw [dh] at z;have:=iB.lt;have:=(aoF m6.next m7.next);omega);generalize az:oS af (aU af n) k (hH++[c]) mL=rt at U;have xi:rt≠.error b6:=fun q=>by rw [q] at U;exact a8 U.symm
   simp only [js.1,js.2.1,js.2.2,dy,HL,aaY,vcs,bR,qM.1,qM.2.1,qM.2.2,nn.1,nn.2.1,nn.2.2,↓aa,ab,simprocAttr];refine gb (fun r g=>r 0=.ptr (ao ak) 0/\r 2=.ptr (ao h.next) 0/\r 5=.ptr (ao aT.next) 0/\Has g h.next b8/\Has g aT.next ([.int .i64 50,.int .i64 hH.length,.int .i64 (bI af ws),.str gn.text,.cL])/\¬V.bp (r 4) (ao aT.next)/\Mod (b3 ak) h g/\ag.next<=g.next/\∃m l dm iY,dB ag.next (lp ag.next aT.next) g 5 (List.map aP.enc l) (r 4)/\l.length+dm.length<=2000001/\ed W af ak g 0 dm aC iY/\oS af (aU af n) m l dm=rt) (fun _ g=>qF W ak g) ?_ ?_
   . exact ⟨by simp only [↓aa,cM,simprocAttr],by simp only [↓aa,cM,simprocAttr],by simp only [↓aa,cM,simprocAttr],p8,Gi,by simp only [↓aa,cM,simprocAttr];exact Mb,gY,((aoF m3.next (aoF m4.next (aoF m5.next (aoF m6.next (aoF m7.next m8.next)))))),k,_,_,_,by simp only [↓aa,cM,simprocAttr];exact lW,by rw [amP];have:=TV;have:=gh.p6;omega,gh,az⟩
   have pN:=U;have B1:=a8;clear U a8;clear ap Mb;rintro r fB ⟨gy,mH,CX,R,iB,ap,h8,ja,m,l,dm,iY,O,aG,fQ,U⟩;obtain ⟨dc,ik⟩:∃dc,r 4=dc:=⟨_,rfl⟩;rw [ik] at O ap;have CA:=iB.lt;have a8:=xi;cases m with
   | zero=>exact (a8 U.symm).elim
   | succ m=>
     simp only [oS] at U;have cr:=O.one;simp only [gy,mH,ik,CX,cr.1,cr.2.1,cr.2.2,↓aa,ab,simprocAttr];refine aY (ho fQ jT) ?_;rintro x iJ ⟨rfl,m10,i10,iU⟩;have oJ:=h8.trans m10;cases dD:bm jT dm with
     | true=>
       simp only [dD,aoM,aoA,aoK,bB] at U iU;simp only [gy,mH,ik,CX,cr.1,cr.2.1,cr.2.2,↓aa,ab,simprocAttr];have g11:kZ af (aU af n) 47 dm.tail≠.error b6:=fun q=>by rw [q] at U;exact a8 U.symm
       refine cH (Hw I 47 dm.tail iJ aC i10 iU g11) ?_ ?_
       rotate_left
       . rintro x lv ⟨e,he,rfl,m,bn⟩;simp only [cF,aX,gy,mH,ik,CX,kR,↓aa,ab,simprocAttr];exact ⟨e,by rw [he] at U;rw [<-pN,<-U];rfl,rfl,(oJ.trans m),bn⟩
       rintro x lv ⟨b,TQ,eK,i11,vL,rfl,fM,m11,lo⟩;rw [vL] at U
       try simp only [bB] at U
       have uR:=oJ.trans m11;have uA:TQ.length<dm.tail.length:=va (ZN af n 47 dm.tail) vL;have UW:=zW O (m10.trans m11) (by have:=M2.next;omega);have JX:=fM.one;obtain ⟨ut,Bz,x0,ny,m12,ag4,Wg⟩:=Ka UW fM (lg O (m10.next)) (by have:=CA;have:=m10.next;omega) ((aoF ja m10.next)) (m11.next) (by omega);have Dh:=R.mod (m10.trans m11) (bU bX);have aaW:(lv.next=h.next)=False:=aoV (by have:=Dh.lt;omega);have As:=iB.mod (m10.trans m11) (bU (by have:=cZ.next;omega));have aaV:(lv.next=aT.next)=False:=aoV (by have:=As.lt;omega);have v_:=C.lY lo m12 (by have:=M2.next;omega);have Gx:=ou uR m12 (by have:=M2.next;omega);have T_:=oa Dh m12 (.inl (by have:=bz.lt;have:=m2.next;omega));have T':=As.mod ag4 ap;have am3:=fM.lY m12 (aoz _);have ih:=ny.one;have sS:(l++[b]).length=l.length+1:=by simp<;>omega
       simp only [JX.1,JX.2.1,JX.2.2,x0,aaW,aaV,gy,mH,ik,CX,cr.1,cr.2.1,cr.2.2,ih.1,ih.2.1,ih.2.2,↓aa,ab,simprocAttr];exact ⟨⟨T_,T',fun z=>(Wg _ z).elim ap (fun z=>by rw [dh] at z;have:=CA;have:=(aoF m10.next m11.next);omega),Gx,((aoF ja (aoF m10.next (aoF m11.next m12.next)))),m,_,_,_,ny,by rw [sS];have:=fw dD;omega,v_,U⟩,by rw [lD fQ,lD v_];have:=fw dD;omega⟩
     | false=>
       simp only [dD,aoM,aoA,aoK,bB] at U iU;rw [<-U] at pN;clear U a8;have U:=pN;have a8:=B1
       try simp only [bB] at U
       have UU:=zW O m10 (by have:=M2.next;omega);have Lx:=iB.mod m10 (bU (by have:=cZ.next;omega));have v8:=R.mod m10 (bU bX);obtain ⟨lv,pk⟩:∃g,iJ.set (ao aT.next) (.bd ([.int .i64 50,.int .i64 hH.length,.int .i64 (bI af ws),.str gn.text,dc]) 0 false)=g:=⟨_,rfl⟩;have As:=Lx.put ([.int .i64 50,.int .i64 hH.length,.int .i64 (bI af ws),.str gn.text,dc]);rw [pk] at As;have L5:=v8.set (m:=aT.next) (by have:=bz.lt;have:=(aoF m2.next (aoF m3.next m4.next));omega) (.bd ([.int .i64 50,.int .i64 hH.length,.int .i64 (bI af ws),.str gn.text,dc]) 0 false);rw [pk] at L5;have lo:=C.box iU (n:=aT.next) cZ.next (.bd ([.int .i64 50,.int .i64 hH.length,.int .i64 (bI af ws),.str gn.text,dc]) 0 false)
       rw [pk] at lo;have uR:=oJ.set (b:=ao aT.next) (fun o=>absurd o (dj cZ.next)) (.bd ([.int .i64 50,.int .i64 hH.length,.int .i64 (bI af ws),.str gn.text,dc]) 0 false);rw [pk] at uR;have qe:=aiP UU ap (.bd ([.int .i64 50,.int .i64 hH.length,.int .i64 (bI af ws),.str gn.text,dc]) 0 false) (by omega) 50 hH.length (bI af ws) (le_top (C.fh gn xl));rw [pk] at qe;have o:=qe.one;simp only [o.1,o.2.1,o.2.2,aX,vcs,bR,Lx.g,pk,As.g,L5.g,gy,mH,ik,CX,cr.1,cr.2.1,cr.2.2,↓aa,ab,simprocAttr];exact ⟨_,_,_,_,U.symm,rfl,(qe.box (by have:=m2.next;have:=bz.lt;omega) _).cP (by have:=M2.next;omega),uR.set (fun o=>absurd o (dj (aoz _))) _,C.box lo (aoz _) _⟩
 | false=>
   simp only [b_,aoM,aoA,aoK,bB] at U bx;simp only [↓aa,ab,simprocAttr];refine aY (ho bx zw) ?_;rintro x ar ⟨rfl,m3,i3,cq⟩;have ct:=M2.trans m3;cases eO:bm zw ws with
   | true=>
     simp only [eO,aoM,aoA,aoK,bB] at U cq;simp only [↓aa,ab,simprocAttr];have g4:kZ af (aU af n) 51 ws.tail≠.error b6:=fun q=>by rw [q] at U;exact a8 U.symm
     refine cH (Hw I 51 ws.tail ar aC i3 cq g4) ?_ ?_
     rotate_left
     . rintro x aT ⟨e,he,rfl,m,bn⟩;simp only [cF,aX,↓aa,ab,simprocAttr];exact ⟨e,by rw [he] at U;exact U.symm,rfl,(ct.trans m),bn⟩
     rintro x aT ⟨c,dk,eu,i4,cU,rfl,ef,m4,ch⟩;rw [cU] at U
     try simp only [bB] at U
     have cZ:=ct.trans m4;have jO:=ef.one;obtain ⟨bE,ca,e7,iB⟩:=fz aT b8 (vcs c eu);have m5:Mod (b3 ak) aT bE:=e7.mod _;have cR:=cZ.trans m5;have bW:=ch.ext e7;have sW:=ef.By e7;obtain ⟨bA,cx⟩:∃g,bE.set (ao aT.next) (.bd [.int .i64 c.k,.int .i64 c.n,.int .i64 (bI af ws),.str c.s,eu] 0 false)=g:=⟨_,rfl⟩;have kh:=iB.put [.int .i64 c.k,.int .i64 c.n,.int .i64 (bI af ws),.str c.s,eu];rw [cx] at kh;have cv:=C.box bW (n:=aT.next) cZ.next (.bd [.int .i64 c.k,.int .i64 c.n,.int .i64 (bI af ws),.str c.s,eu] 0 false)
     rw [cx] at cv;have di:Mod (b3 ak) h bA:=by rw [<-cx];exact cR.set (fun o=>absurd o (dj cZ.next)) _
     have hT:=bz.mod (m2.trans (m3.trans (m4.trans m5))) (bU bX);have yo:=hT.set (m:=aT.next) (by have:=bz.lt;have:=(m2.trans (m3.trans m4)).next;omega) (.bd [.int .i64 c.k,.int .i64 c.n,.int .i64 (bI af ws),.str c.s,eu] 0 false);rw [cx] at yo;have m6:Mod (fun b=>b=ao aT.next) bE bA:=by rw [<-cx];exact (Mod.refl (fun b=>b=ao aT.next) _).set (fun _=>rfl) _
     have q2:=sW.set (b:=ao aT.next) (fun q=>q.2 rfl) (.bd [.int .i64 c.k,.int .i64 c.n,.int .i64 (bI af ws),.str c.s,eu] 0 false);rw [cx] at q2;have qe:dt (Fr ar.next) bA (.mk c.k c.n (bI af ws) c.s c.l) eu:=⟨q2.c'.eU fun b q=>q.1,q2.str⟩;have o:=qe.one;simp only [o.1,o.2.1,o.2.2,aX,vcs,bR,jO.1,jO.2.1,jO.2.2,ca,iB.g,cx,kh.g,yo.g,↓aa,ab,simprocAttr];exact ⟨_,_,_,_,U.symm,rfl,(qe.box (by have:=(aoF m2.next m3.next);have:=bz.lt;omega) _).cP (by have:=ct.next;omega),di.set (fun o=>absurd o (dj (aoz _))) _,C.box cv (aoz _) _⟩
   | false=>
     simp only [eO,aoM,aoA,aoK,bB] at U cq;simp only [↓aa,ab,simprocAttr];refine cH (kM cq rC) ?_ ?_
     rotate_left
     . rintro x aT ⟨e,he,rfl,m,bn⟩;simp only [cF,aX,↓aa,ab,simprocAttr];exact ⟨e,by rw [he] at U;exact U.symm,rfl,(ct.trans m),bn⟩
     rintro x aT ⟨dk,cU,m4,i4,ch⟩;rw [cU] at U
     try simp only [bB] at U
     have cZ:=ct.trans m4;simp only [↓aa,ab,simprocAttr];refine aY (ho ch qA) ?_;rintro x bE ⟨rfl,m5,i5,bW⟩;have cR:=cZ.trans m5;cases jn:bm qA dk with
     | true=>
       simp only [jn,aoM,aoA,aoK,bB] at U bW;simp only [↓aa,ab,simprocAttr];have g6:(aU af n).binds 0 [] dk.tail≠.error b6:=fun q=>by rw [q] at U;exact a8 U.symm
       refine cH (I.binds 0 dk.tail bE aC i5 bW g6) ?_ ?_
       rotate_left
       . rintro x bA ⟨e,he,rfl,m,bn⟩;simp only [cF,aX,↓aa,ab,simprocAttr];exact ⟨e,by rw [he] at U;exact U.symm,rfl,(cR.trans m),bn⟩
       rintro ul bA ⟨zF,jv,i6,dS,lW,Gb,m6,cv⟩;rw [dS] at U
       try simp only [bB] at U
       have di:=cR.trans m6;have nn:=lW.one;have qe:=rI lW (aoF Gb (by decide)) 53 0 (bI af ws) (s:=[]) (aoQ _);have jg:=bz.mod (m2.trans (m3.trans (m4.trans (m5.trans m6)))) (bU bX);have o:=qe.one;simp only [o.1,o.2.1,o.2.2,aX,vcs,bR,jg.g,nn.1,nn.2.1,nn.2.2,↓aa,ab,simprocAttr];exact ⟨_,_,_,_,U.symm,rfl,(qe.box (by have:=(aoF m2.next (aoF m3.next (aoF m4.next m5.next)));have:=bz.lt;omega) _).cP (by have:=cR.next;omega),di.set (fun o=>absurd o (dj (aoz _))) _,C.box cv (aoz _) _⟩
     | false=>
       simp only [jn,aoM,aoA,aoK,bB] at U bW;simp only [↓aa,ab,simprocAttr];have g6:(aU af n).pat 0 dk≠.error b6:=fun q=>by rw [q] at U;exact a8 U.symm
       refine cH (I.pat 0 dk bE aC i5 bW g6) ?_ ?_
       rotate_left
       . rintro x bA ⟨e,he,rfl,m,bn⟩;simp only [cF,aX,↓aa,ab,simprocAttr];exact ⟨e,by rw [he] at U;exact U.symm,rfl,(cR.trans m),bn⟩
       rintro x bA ⟨p,jv,uE,i6,dS,rfl,oN,m6,cv⟩;rw [dS] at U
       try simp only [bB] at U
       have di:=cR.trans m6;have gl:=oN.one;obtain ⟨cl,dq,dR,rW⟩:=fz bA b8 (vcs p uE);have m7:Mod (b3 ak) bA cl:=dR.mod _;have ew:=di.trans m7;have eP:=cv.ext dR;simp only [gl.1,gl.2.1,gl.2.2,dq,↓aa,ab,simprocAttr];refine cH (kM eP h3) ?_ ?_
       rotate_left
       . rintro x er ⟨e,he,rfl,m,bn⟩;simp only [cF,aX,↓aa,ab,simprocAttr];exact ⟨e,by rw [he] at U;exact U.symm,rfl,(ew.trans m),bn⟩
       rintro x er ⟨vX,gm,m8,i8,gh⟩;rw [gm] at U
       try simp only [bB] at U
       have gY:=ew.trans m8;have sT:=rW.mod m8 (bU (by have:=di.next;omega));simp only [sT.g,↓aa,ab,simprocAttr];have g9:(aU af n).seq 0 vX≠.error b6:=fun q=>by rw [q] at U;exact a8 U.symm
       refine cH (I.seq 0 vX er aC i8 gh g9) ?_ ?_
       rotate_left
       . rintro x fB ⟨e,he,rfl,m,bn⟩;simp only [cF,aX,sT.g,↓aa,ab,simprocAttr];exact ⟨rfl,e,by rw [he] at U;exact U.symm,rfl,(gY.trans m),bn⟩
       rintro x fB ⟨b,uI,eK,i9,mb,rfl,fM,m9,fQ⟩;rw [mb] at U
       try simp only [bB] at U
       have h8:=gY.trans m9;have At:=sT.mod m9 (bU (by have:=di.next;omega));have AN:=oN.mod (m7.trans (m8.trans m9)) (by have:=cR.next;omega);have xL:=AN.one;have xM:=fM.one;obtain ⟨iJ,l',u5,Gt⟩:=xx (F:=Fr bE.next) (h:=fB) (size:=5) rfl rfl AN.cs (fM.cP (h7:=bE.next) (by have:=(aoF m6.next (aoF m7.next m8.next));omega)).cs (rf (m6.trans (m7.trans (m8.trans m9))).next);simp only [vcs,aoW,ao5] at l';have m10:Mod (b3 ak) fB iJ:=u5.mod _;have oJ:=h8.trans m10;have iU:=fQ.ext u5;have ef:=oy (l:=[p,b]) 52 0 (bI af ws) [] Gt rfl (aoQ _);have v8:=bz.mod (m2.trans (m3.trans (m4.trans (m5.trans (m6.trans (m7.trans (m8.trans (m9.trans m10)))))))) (bU bX);have Ge:=At.mod m10 (bU (by have:=di.next;omega));have o:=ef.one;simp only [o.1,o.2.1,o.2.2,aX,vcs,bR,xL.1,xL.2.1,xL.2.2,xM.1,xM.2.1,xM.2.2,l',v8.g,Ge.g,sT.g,At.g,↓aa,ab,simprocAttr];exact ⟨_,_,_,_,U.symm,rfl,(ef.box (by have:=(aoF m2.next (aoF m3.next (aoF m4.next m5.next)));have:=bz.lt;omega) _).cP (by have:=cR.next;omega),oJ.set (fun o=>absurd o (dj (aoz _))) _,C.box iU (aoz _) _⟩
end
inductive LV where
 | ty | hI | named | names | jf | ju | pat | iQ | gN | seq | cases | fn (a:Nat) | one | hl (k:Int) (a:Nat) | lt (a:Nat) | binds | pair | iX | hA | hB | lH | lI | pre | app | args | atom
 | ctor (k:Int) | params | kN | ctors | decl
def eg (s:List UInt8) (w:aq):Prop:=(w.kind=7\/w.kind=6)/\w.text=s
inductive bC:LV->List aP->List aq->List aP->List aq->Prop where
 | alN {ws a_ a}:bC .hI [] ws [a] a_->bC .ty [] ws [a] a_
 | alO {ws a_ bu a b w}:bC .hI [] ws [a] (w::a_)->eg lN w->bC .ty [] a_ [b] bu->bC .ty [] ws [two 4 a b] bu
 | ai1 {ws a_ a}:bC .named [] ws [a] a_->bC .hI [] ws [a] a_
 | ai2 {ws a_ bu a b w}:bC .named [] ws [a] (w::a_)->eg nV w->bC .hI [] a_ [b] bu->bC .hI [] ws [two 3 a b] bu
 | named {ws a_ bu a b}:bC .jf [] ws [a] a_->bC .names [a] a_ [b] bu->bC .named [] ws [b] bu
 | Ry {ws a}:bC .names [a] ws [a] ws
 | ahh {ws a_ a b w}:w.kind=3->bC .names [.mk 2 0 a.a w.text [a]] ws [b] a_->bC .names [a] (w::ws) [b] a_
 | alV {ws w}:w.kind=5->bC .jf [] (w::ws) [.mk 1 0 w.pos w.text []] ws
 | alT {ws w}:w.kind=3->bC .jf [] (w::ws) [.mk 2 0 w.pos w.text []] ws
 | alU {ws a_ bu a w c}:eg hr w->bC .ty [] ws [a] a_->bC .ju [a] a_ [a] (c::bu)->eg fO c->bC .jf [] (w::ws) [a] bu
 | alS {ws a_ bu a l w c v}:eg hr w->bC .ty [] ws [a] a_->bC .ju [a] a_ l (c::v::bu)->eg fO c->v.kind=3->bC .jf [] (w::ws) [.mk 2 0 w.pos v.text l] bu
 | alZ {ws l}:bC .ju l ws l ws
 | al0 {ws a_ bu l eC a w}:eg jt w->l.length≠64->bC .ty [] ws [a] a_->bC .ju (l++[a]) a_ eC bu->bC .ju l (w::ws) eC bu
 | aiV {ws a_ a}:bC .iQ [] ws [a] a_->bC .pat [] ws [a] a_
 | aiW {ws a_ bu a b w}:bC .iQ [] ws [a] (w::a_)->eg jt w->bC .pat [] a_ [b] bu->bC .pat [] ws [two 15 a b] bu
 | ajx {ws a_ p w}:w.kind=4->bC .gN [] ws [p] a_->bC .iQ [] (w::ws) [.mk 16 0 w.pos w.text [p]] a_
 | ajw {ws w}:w.kind=4->bC .iQ [] (w::ws) [.mk 16 0 w.pos w.text []] ws
 | ajA {ws a_ p}:bC .gN [] ws [p] a_->bC .iQ [] ws [p] a_
 | ai' {ws w}:eg pn w->bC .gN [] (w::ws) [.mk 10 0 w.pos [] []] ws
 | aj1 {ws w}:w.kind=3->bC .gN [] (w::ws) [.mk 11 0 w.pos w.text []] ws
 | ajB {ws w}:w.kind=4->bC .gN [] (w::ws) [.mk 16 0 w.pos w.text []] ws
 | ajI {ws w}:w.kind=1->bC .gN [] (w::ws) [.mk 12 w.num w.pos [] []] ws
 | ajH {ws w v}:eg hZ w->v.kind=1->bC .gN [] (w::v::ws) [.mk 12 (sF v.num) w.pos [] []] ws
 | ajU {ws w}:eg ic w->bC .gN [] (w::ws) [.mk 14 1 w.pos [] []] ws
 | ajD {ws w}:eg i' w->bC .gN [] (w::ws) [.mk 14 0 w.pos [] []] ws
 | punit {ws w c}:eg hr w->eg fO c->bC .gN [] (w::c::ws) [.mk 13 0 w.pos [] []] ws
 | ajK {ws a_ p w c}:eg hr w->bC .pat [] ws [p] (c::a_)->eg fO c->bC .gN [] (w::ws) [p] a_
 | seq1 {ws a_ a}:bC .one [] ws [a] a_->bC .seq [] ws [a] a_
 | akL {ws a_ bu a b w}:bC .one [] ws [a] (w::a_)->eg Ab w->bC .seq [] a_ [b] bu->bC .seq [] ws [two 35 a b] bu
 | YX {ws a_ bu l p b w}:bC .pat [] ws [p] (w::a_)->eg lN w->bC .seq [] a_ [b] bu->bC .cases l ws (l++[two 45 p b]) bu
 | YY {ws a_ bu dd l eC p b w v}:bC .pat [] ws [p] (w::a_)->eg lN w->bC .seq [] a_ [b] (v::bu)->eg jT v->bC .cases (l++[two 45 p b]) bu eC dd->bC .cases l ws eC dd
 | fn {ws a_ bu p b w} {a:Nat}:bC .pat [] ws [p] (w::a_)->eg lN w->bC .seq [] a_ [b] bu->bC (.fn a) [] ws [.mk 27 0 a [] [p,b]] bu
 | ahR {ws a_ a w}:eg rC w->bC (.lt w.pos) [] ws [a] a_->bC .one [] (w::ws) [a] a_
 | ahP {ws a_ a w}:eg mA w->bC (.fn w.pos) [] ws [a] a_->bC .one [] (w::ws) [a] a_
 | ahQ {ws a_ bu dd a b c w t e}:eg vu w->bC .seq [] ws [a] (t::a_)->eg EV t->bC .one [] a_ [b] (e::bu)->eg ET e->bC .one [] bu [c] dd->bC .one [] (w::ws) [.mk 31 0 w.pos [] [a,b,c]] dd
 | ahS {ws a_ a w}:eg zx w->bC (.hl 32 w.pos) [] ws [a] a_->bC .one [] (w::ws) [a] a_
 | aiD {ws a_ a w}:eg zA w->bC (.hl 33 w.pos) [] ws [a] a_->bC .one [] (w::ws) [a] a_
 | aio {ws a_ a}:bC .pair [] ws [a] a_->bC .one [] ws [a] a_
 | oset {ws a_ bu a b w}:bC .pair [] ws [a] (w::a_)->eg Ac w->bC .one [] a_ [b] bu->bC .one [] ws [two 37 a b] bu
 | Zg {ws a_ bu a l w} {k:Int} {n:Nat}:bC .seq [] ws [a] (w::a_)->eg Cf w->bC .cases [] a_ l bu->bC (.hl k n) [] ws [.mk k 0 n [] (a::l)] bu
 | fA {ws a_ bu a l w v} {k:Int} {n:Nat}:bC .seq [] ws [a] (w::v::a_)->eg Cf w->eg jT v->bC .cases [] a_ l bu->bC (.hl k n) [] ws [.mk k 0 n [] (a::l)] bu
 | d_ {ws a_ bu l b w i} {n:Nat}:eg qA w->bC .binds [] ws l (i::a_)->eg vv i->bC .seq [] a_ [b] bu->bC (.lt n) [] (w::ws) [.mk 30 0 n [] (l++[b])] bu
 | agW {ws a_ bu dd p a b e i} {n:Nat}:bC .pat [] ws [p] (e::a_)->eg h3 e->bC .seq [] a_ [a] (i::bu)->eg vv i->bC .seq [] bu [b] dd->bC (.lt n) [] ws [.mk 29 0 n [] [p,a,b]] dd
 | Wp {ws a_ l b w e f}:w.kind=3->eg h3 e->eg mA f->bC (.fn f.pos) [] ws [b] a_->bC .binds l (w::e::f::ws) (l++[.mk 46 0 w.pos w.text [b]]) a_
 | Wq {ws a_ bu l eC b w e f v}:w.kind=3->eg h3 e->eg mA f->bC (.fn f.pos) [] ws [b] (v::a_)->eg zv v->bC .binds (l++[.mk 46 0 w.pos w.text [b]]) a_ eC bu->bC .binds l (w::e::f::ws) eC bu
 | aiX {ws a_ a}:bC .iX [] ws [a] a_->bC .pair [] ws [a] a_
 | aiY {ws a_ bu a b w}:bC .iX [] ws [a] (w::a_)->eg jt w->bC .pair [] a_ [b] bu->bC .pair [] ws [two 26 a b] bu
 | Zn {ws a_ a}:bC .hA [] ws [a] a_->bC .iX [] ws [a] a_
 | Zo {ws a_ bu a b w s}:bC .hA [] ws [a] (w::a_)->eg s w->s ∈ [h3,qS,qR]->bC .hA [] a_ [b] bu->bC .iX [] ws [p2 s a b] bu
 | hA {ws a_ bu a b}:bC .hB [] ws [a] a_->bC .lH [a] a_ [b] bu->bC .hA [] ws [b] bu
 | air {ws a}:bC .lH [a] ws [a] ws
 | ais {ws a_ bu a b c w s}:eg s w->s ∈ [rO,hZ]->bC .hB [] ws [b] a_->bC .lH [p2 s a b] a_ [c] bu->bC .lH [a] (w::ws) [c] bu
 | hB {ws a_ bu a b}:bC .pre [] ws [a] a_->bC .lI [a] a_ [b] bu->bC .hB [] ws [b] bu
 | ait {ws a}:bC .lI [a] ws [a] ws
 | aiu {ws a_ bu a b c w s}:eg s w->s ∈ [nV,qT,qz]->bC .pre [] ws [b] a_->bC .lI [p2 s a b] a_ [c] bu->bC .lI [a] (w::ws) [c] bu
 | neg {ws a_ a w}:eg hZ w->bC .pre [] ws [a] a_->bC .pre [] (w::ws) [.mk 39 0 w.pos [] [a]] a_
 | get {ws a_ a w}:eg x5 w->bC .pre [] ws [a] a_->bC .pre [] (w::ws) [.mk 36 0 w.pos [] [a]] a_
 | ajL {ws a_ a}:bC .app [] ws [a] a_->bC .pre [] ws [a] a_
 | raise {ws a_ a w}:eg zz w->bC .atom [] ws [a] a_->bC .app [] (w::ws) [.mk 34 0 w.pos [] [a]] a_
 | Zs {ws a_ a w}:w.kind=4->bC .atom [] ws [a] a_->bC .app [] (w::ws) [.mk 25 0 w.pos w.text [a]] a_
 | Zr {ws w}:w.kind=4->bC .app [] (w::ws) [.mk 25 0 w.pos w.text []] ws
 | app {ws a_ bu a b}:bC .atom [] ws [a] a_->bC .args [a] a_ [b] bu->bC .app [] ws [b] bu
 | VU {ws a}:bC .args [a] ws [a] ws
 | VV {ws a_ bu a b c}:bC .atom [] ws [b] a_->bC .args [two 28 a b] a_ [c] bu->bC .args [a] ws [c] bu
 | VJ {ws w}:w.kind=1->bC .atom [] (w::ws) [.mk 20 w.num w.pos [] []] ws
 | V7 {ws w}:w.kind=2->bC .atom [] (w::ws) [.mk 21 0 w.pos w.text []] ws
 | Wd {ws w}:w.kind=3->bC .atom [] (w::ws) [.mk 24 0 w.pos w.text []] ws
 | Vo {ws w}:w.kind=4->bC .atom [] (w::ws) [.mk 25 0 w.pos w.text []] ws
 | Wb {ws w}:eg ic w->bC .atom [] (w::ws) [.mk 23 1 w.pos [] []] ws
 | VG {ws w}:eg i' w->bC .atom [] (w::ws) [.mk 23 0 w.pos [] []] ws
 | Vm {ws a_ a w e}:eg pa w->bC .seq [] ws [a] (e::a_)->eg EU e->bC .atom [] (w::ws) [a] a_
 | Wc {ws w c}:eg hr w->eg fO c->bC .atom [] (w::c::ws) [.mk 22 0 w.pos [] []] ws
 | VK {ws a_ a w c}:eg hr w->bC .seq [] ws [a] (c::a_)->eg fO c->bC .atom [] (w::ws) [a] a_
 | ZL {ws w} {k:Int}:w.kind=4->bC (.ctor k) [] (w::ws) [.mk k 0 w.pos w.text []] ws
 | ZM {ws a_ t w o} {k:Int}:w.kind=4->eg zy o->bC .ty [] ws [t] a_->bC (.ctor k) [] (w::o::ws) [.mk k 0 w.pos w.text [t]] a_
 | ai_ {ws}:bC .params [] ws [] ws
 | aja {ws w}:w.kind=5->bC .params [] (w::ws) [h4 w] ws
 | ajh {ws a_ l o w c}:eg hr o->w.kind=5->bC .kN [h4 w] ws l (c::a_)->eg fO c->bC .params [] (o::w::ws) l a_
 | ajf {ws l}:bC .kN l ws l ws
 | ajg {ws a_ l eC w v}:eg jt w->l.length≠64->v.kind=5->bC .kN (l++[h4 v]) ws eC a_->bC .kN l (w::v::ws) eC a_
 | ZO {ws l}:bC .ctors l ws l ws
 | ZP {ws a_ bu l eC c w}:eg jT w->bC (.ctor 47) [] ws [c] a_->bC .ctors (l++[c]) a_ eC bu->bC .ctors l (w::ws) eC bu
 | aau {ws a_ bu dd l m c w n e}:eg zB w->bC .params [] ws l (n::e::a_)->n.kind=3->eg h3 e->bC (.ctor 47) [] a_ [c] bu->bC .ctors (l++[c]) bu m dd->bC .decl [] (w::ws) [.mk 50 l.length w.pos n.text m] dd
 | ON {ws a_ c w}:eg zw w->bC (.ctor 51) [] ws [c] a_->bC .decl [] (w::ws) [.mk c.k c.n w.pos c.s c.l] a_
 | aas {ws a_ l w r}:eg rC w->eg qA r->bC .binds [] ws l a_->bC .decl [] (w::r::ws) [.mk 53 0 w.pos [] l] a_
 | aaj {ws a_ bu p b w e}:eg rC w->bC .pat [] ws [p] (e::a_)->eg h3 e->bC .seq [] a_ [b] bu->bC .decl [] (w::ws) [.mk 52 0 w.pos [] [p,b]] bu
section
variable {α β:Type} {af:Nat} {ws bS:List aq}
theorem dv {r:bJ α} {f:α->bJ β} {y:β} (h:(r >>= f)=.ok y):∃x,r=.ok x/\f x=.ok y:=by
 cases r with
 | error e=>cases h
 | ok x=>exact ⟨x,rfl,h⟩
theorem pb {r:bJ α} {f:α->β} {y:β} (h:r.map f=.ok y):∃x,r=.ok x/\f x=y:=by
 cases r with
 | error e=>cases h
 | ok x=>cases h;exact ⟨x,rfl,rfl⟩
theorem la {s:List UInt8} (h:eD af s ws=.ok bS):∃w,ws=w::bS/\eg s w:=by
 unfold eD at h
 split at h
 . rename_i q;cases ws with
   | nil=>cases q
   | cons w r=>cases h;simp only [bm,aoE,apF,aoO] at q;exact ⟨w,rfl,q⟩
 . cases h
theorem me {k:Int} {w:aq} (h:fc af k ws=.ok (w,bS)):ws=w::bS/\w.kind=k:=by
 cases ws with
 | nil=>cases h
 | cons v r=>
   simp only [fc] at h
   split at h
   . cases h;exact ⟨rfl,by assumption⟩
   . cases h
theorem hc {s:List UInt8} (q:bm s ws=true):∃w r,ws=w::r/\eg s w:=by
 cases ws with
 | nil=>cases q
 | cons w r=>simp only [bm,aoE,apF,aoO] at q;exact ⟨w,r,rfl,q⟩
theorem Pe {l:List aP} (h:jl af l ws=.ok ()):l.length≠64:=by
 unfold jl at h
 split at h
 . cases h
 . assumption
theorem DZ {d:Nat} {r:bJ (aP × List aq)} {y:aP × List aq} (h:j1 af d ws r=.ok y):r=.ok y:=by
 unfold j1 at h
 split at h
 . cases h
 . exact h
theorem aie {s:List UInt8} (h:nO ws=some s):bm s ws=true/\s ∈ [h3,qS,qR]:=by
 unfold nO at h
 repeat' split at h
 all_goals (cases h;try exact ⟨by assumption,by simp⟩)
theorem aij {s:List UInt8} (h:nP ws=some s):bm s ws=true/\s ∈ [rO,hZ]:=by
 unfold nP at h
 repeat' split at h
 all_goals (cases h;try exact ⟨by assumption,by simp⟩)
theorem aim {s:List UInt8} (h:nQ ws=some s):bm s ws=true/\s ∈ [nV,qT,qz]:=by
 unfold nQ at h
 repeat' split at h
 all_goals (cases h;try exact ⟨by assumption,by simp⟩)
end
theorem Tw {af:Nat}:∀(n:Nat) {d:Nat} {l eC:List aP} {ws bS:List aq},(aU af n).ju d l ws=.ok (eC,bS)->∃t,eC=l++t
 | 0,_,_,_,_,_,h=>by cases h
 | n+1,d,l,eC,ws,bS,h=>by
   replace h:oC af (aU af n) d l ws=_:=h;unfold oC at h
   split at h
   . replace h:=dv h;obtain ⟨_,_,h⟩:=h;replace h:=dv h;obtain ⟨⟨a,a_⟩,_,h⟩:=h;obtain ⟨t,e⟩:=Tw n h;exact ⟨a::t,by rw [e];simp⟩
   . cases h;exact ⟨[],by simp⟩
theorem Rz:∀(a:aP) (ws:List aq),bC .names [a] ws [(lb a ws).1] (lb a ws).2
 | a,[]=>.Ry
 | a,w::ws=>by
   simp only [lb]
   split
   . rename_i h;exact .ahh h (Rz _ ws)
   . exact .Ry
structure Up (T:qh):Prop where
 ty:∀{d ws p bS},T.ty d ws=.ok (p,bS)->bC .ty [] ws [p] bS
 hI:∀{d ws p bS},T.hI d ws=.ok (p,bS)->bC .hI [] ws [p] bS
 named:∀{d ws p bS},T.named d ws=.ok (p,bS)->bC .named [] ws [p] bS
 jf:∀{d ws p bS},T.jf d ws=.ok (p,bS)->bC .jf [] ws [p] bS
 ju:∀{d l ws p bS},T.ju d l ws=.ok (p,bS)->bC .ju l ws p bS
 pat:∀{d ws p bS},T.pat d ws=.ok (p,bS)->bC .pat [] ws [p] bS
 iQ:∀{d ws p bS},T.iQ d ws=.ok (p,bS)->bC .iQ [] ws [p] bS
 gN:∀{d ws p bS},T.gN d ws=.ok (p,bS)->bC .gN [] ws [p] bS
 seq:∀{d ws p bS},T.seq d ws=.ok (p,bS)->bC .seq [] ws [p] bS
 cases:∀{d l ws p bS},T.cases d l ws=.ok (p,bS)->bC .cases l ws p bS
 fn:∀{d a ws p bS},T.fn d a ws=.ok (p,bS)->bC (.fn a) [] ws [p] bS
 one:∀{d ws p bS},T.one d ws=.ok (p,bS)->bC .one [] ws [p] bS
 hl:∀{d k a ws p bS},T.hl d k a ws=.ok (p,bS)->bC (.hl k a) [] ws [p] bS
 lt:∀{d a ws p bS},T.lt d a ws=.ok (p,bS)->bC (.lt a) [] ws [p] bS
 binds:∀{d l ws p bS},T.binds d l ws=.ok (p,bS)->bC .binds l ws p bS
 pair:∀{d ws p bS},T.pair d ws=.ok (p,bS)->bC .pair [] ws [p] bS
 iX:∀{d ws p bS},T.iX d ws=.ok (p,bS)->bC .iX [] ws [p] bS
 hA:∀{d ws p bS},T.hA d ws=.ok (p,bS)->bC .hA [] ws [p] bS
 hB:∀{d ws p bS},T.hB d ws=.ok (p,bS)->bC .hB [] ws [p] bS
 lH:∀{d a ws p bS},T.lH d a ws=.ok (p,bS)->bC .lH [a] ws [p] bS
 lI:∀{d a ws p bS},T.lI d a ws=.ok (p,bS)->bC .lI [a] ws [p] bS
 pre:∀{d ws p bS},T.pre d ws=.ok (p,bS)->bC .pre [] ws [p] bS
 app:∀{d ws p bS},T.app d ws=.ok (p,bS)->bC .app [] ws [p] bS
 args:∀{d a ws p bS},T.args d a ws=.ok (p,bS)->bC .args [a] ws [p] bS
 atom:∀{d ws p bS},T.atom d ws=.ok (p,bS)->bC .atom [] ws [p] bS
theorem H0 (af:Nat):∀n,Up (aU af n)
 | 0=>by constructor<;>(intros;rename_i h;cases h)
 | n+1=>by
   have I:=H0 af n;constructor
   case ty=>
    intro d ws p bS h;replace h:=dv (DZ h);obtain ⟨⟨a,a_⟩,ad,h⟩:=h
    try dsimp only at h
    split at h
    . rename_i al;replace al:=hc al;obtain ⟨w,r,rfl,al⟩:=al;replace h:=dv h;obtain ⟨⟨b,bu⟩,ag,h⟩:=h;cases h;exact .alO (I.hI ad) al (I.ty ag)
    . cases h;exact .alN (I.hI ad)
   case hI=>
    intro d ws p bS h;replace h:=dv h;obtain ⟨⟨a,a_⟩,ad,h⟩:=h
    try dsimp only at h
    split at h
    . rename_i al;replace al:=hc al;obtain ⟨w,r,rfl,al⟩:=al;replace h:=dv h;obtain ⟨⟨b,bu⟩,ag,h⟩:=h;cases h;exact .ai2 (I.named ad) al (I.hI ag)
    . cases h;exact .ai1 (I.named ad)
   case named=>
    intro d ws p bS h;replace h:=dv h;obtain ⟨⟨a,a_⟩,ad,h⟩:=h;have ae:=Rz a a_
    try dsimp only at h
    cases aI:lb a a_ with
    | mk x y=>
      rw [aI] at h ae;cases h;exact .named (I.jf ad) ae
   case jf=>
    intro d ws p bS h;replace h:uz af (aU af n) d ws=_:=h;unfold uz at h
    split at h
    . replace h:=pb h;obtain ⟨⟨w,r⟩,ad,h⟩:=h;have aM:=me ad;obtain ⟨rfl,aD⟩:=aM;cases h;exact .alV aD
    split at h
    . replace h:=pb h;obtain ⟨⟨w,r⟩,ad,h⟩:=h;have aM:=me ad;obtain ⟨rfl,aD⟩:=aM;cases h;exact .alT aD
    try dsimp only at h
    replace h:=dv h;obtain ⟨a_,ad,h⟩:=h;have aM:=la ad;obtain ⟨w,rfl,al⟩:=aM;replace h:=dv h;obtain ⟨⟨a,bu⟩,ag,h⟩:=h;replace h:=dv h;obtain ⟨⟨l,dd⟩,ar,h⟩:=h;replace h:=dv h;obtain ⟨dk,aT,h⟩:=h;have aM:=la aT;obtain ⟨c,e,ax⟩:=aM
    try dsimp only at e
    try dsimp only at h
    subst e
    split at h
    . cases h;obtain ⟨t,rfl⟩:=Tw n ar;have e:t=[]:=by rename_i q;simpa using q
      subst e;exact .alU al (I.ty ag) (I.ju ar) ax
    . replace h:=dv h;obtain ⟨⟨v,ft⟩,bE,h⟩:=h;have aM:=me bE;obtain ⟨rfl,aD⟩:=aM;cases h;exact .alS al (I.ty ag) (I.ju ar) ax aD
   case ju=>
    intro d l ws p bS h;replace h:oC af (aU af n) d l ws=_:=h;unfold oC at h
    split at h
    . rename_i al;replace al:=hc al;obtain ⟨w,r,rfl,al⟩:=al;replace h:=dv h;obtain ⟨_,ad,h⟩:=h;replace h:=dv h;obtain ⟨⟨a,a_⟩,ag,h⟩:=h;exact .al0 al (Pe ad) (I.ty ag) (I.ju h)
    . cases h;exact .alZ
   case pat=>
    intro d ws p bS h;replace h:=dv (DZ h);obtain ⟨⟨a,a_⟩,ad,h⟩:=h
    try dsimp only at h
    split at h
    . rename_i al;replace al:=hc al;obtain ⟨w,r,rfl,al⟩:=al;replace h:=dv h;obtain ⟨⟨b,bu⟩,ag,h⟩:=h;cases h;exact .aiW (I.iQ ad) al (I.pat ag)
    . cases h;exact .aiV (I.iQ ad)
   case iQ=>
    intro d ws p bS h;replace h:ug af (aU af n) d ws=_:=h;unfold ug at h
    split at h
    . replace h:=dv h;obtain ⟨⟨w,r⟩,ad,h⟩:=h;have aM:=me ad;obtain ⟨rfl,aD⟩:=aM
      try dsimp only at h
      split at h
      . replace h:=dv h;obtain ⟨⟨b,bu⟩,ag,h⟩:=h;cases h;exact .ajx aD (I.gN ag)
      . cases h;exact .ajw aD
    . exact .ajA (I.gN h)
   case gN=>
    intro d ws p bS h;replace h:uh af (aU af n) d ws=_:=h;unfold uh at h
    try dsimp only at h
    split at h
    . rename_i al;replace al:=hc al;obtain ⟨w,r,rfl,al⟩:=al;cases h;exact .ai' al
    split at h
    . replace h:=pb h;obtain ⟨⟨w,r⟩,ad,h⟩:=h;have aM:=me ad;obtain ⟨rfl,aD⟩:=aM;cases h;exact .aj1 aD
    split at h
    . replace h:=pb h;obtain ⟨⟨w,r⟩,ad,h⟩:=h;have aM:=me ad;obtain ⟨rfl,aD⟩:=aM;cases h;exact .ajB aD
    split at h
    . replace h:=pb h;obtain ⟨⟨w,r⟩,ad,h⟩:=h;have aM:=me ad;obtain ⟨rfl,aD⟩:=aM;cases h;exact .ajI aD
    split at h
    . rename_i al;replace al:=hc al;obtain ⟨w,r,rfl,al⟩:=al;replace h:=pb h;obtain ⟨⟨v,r⟩,ad,h⟩:=h;have aM:=me ad;obtain ⟨e,aD⟩:=aM
      try dsimp only [List.tail] at e
      subst e;cases h;exact .ajH al aD
    split at h
    . rename_i al;replace al:=hc al;obtain ⟨w,r,rfl,al⟩:=al;cases h;exact .ajU al
    split at h
    . rename_i al;replace al:=hc al;obtain ⟨w,r,rfl,al⟩:=al;cases h;exact .ajD al
    replace h:=dv h;obtain ⟨a_,ad,h⟩:=h;have aM:=la ad;obtain ⟨w,rfl,al⟩:=aM
    split at h
    . rename_i ax;replace ax:=hc ax;obtain ⟨c,r,rfl,ax⟩:=ax;cases h;exact .punit al ax
    . replace h:=dv h;obtain ⟨⟨b,bu⟩,ag,h⟩:=h;replace h:=dv h;obtain ⟨dd,ar,h⟩:=h;have aM:=la ar;obtain ⟨c,e,ax⟩:=aM
      try dsimp only at e
      subst e;cases h;exact .ajK al (I.pat ag) ax
   case seq=>
    intro d ws p bS h;replace h:=dv (DZ h);obtain ⟨⟨a,a_⟩,ad,h⟩:=h
    try dsimp only at h
    split at h
    . rename_i al;replace al:=hc al;obtain ⟨w,r,rfl,al⟩:=al;replace h:=dv h;obtain ⟨⟨b,bu⟩,ag,h⟩:=h;cases h;exact .akL (I.one ad) al (I.seq ag)
    . cases h;exact .seq1 (I.one ad)
   case cases=>
    intro d l ws p bS h;replace h:=dv h;obtain ⟨⟨a,a_⟩,ad,h⟩:=h;replace h:=dv h;obtain ⟨bu,ag,h⟩:=h;have aM:=la ag;obtain ⟨w,e,hw⟩:=aM
    try dsimp only at e
    subst e;replace h:=dv h;obtain ⟨⟨b,dd⟩,ar,h⟩:=h
    try dsimp only at h
    split at h
    . rename_i al;replace al:=hc al;obtain ⟨v,r,rfl,al⟩:=al;exact .YY (I.pat ad) hw (I.seq ar) al (I.cases h)
    . cases h;exact .YX (I.pat ad) hw (I.seq ar)
   case fn=>
    intro d a0 ws p bS h;replace h:=dv h;obtain ⟨⟨a,a_⟩,ad,h⟩:=h;replace h:=dv h;obtain ⟨bu,ag,h⟩:=h;have aM:=la ag;obtain ⟨w,e,hw⟩:=aM
    try dsimp only at e
    subst e;replace h:=dv h;obtain ⟨⟨b,dd⟩,ar,h⟩:=h;cases h;exact .fn (I.pat ad) hw (I.seq ar)
   case one=>
    intro d ws p bS h;replace h:ua af (aU af n) d ws=_:=h;unfold ua at h
    try dsimp only at h
    split at h
    . rename_i al;replace al:=hc al;obtain ⟨w,r,rfl,al⟩:=al;exact .ahR al (I.lt h)
    split at h
    . rename_i al;replace al:=hc al;obtain ⟨w,r,rfl,al⟩:=al;exact .ahP al (I.fn h)
    split at h
    . rename_i al;replace al:=hc al;obtain ⟨w,r,rfl,al⟩:=al;replace h:=dv h;obtain ⟨⟨a,a_⟩,ad,h⟩:=h;replace h:=dv h;obtain ⟨bu,ag,h⟩:=h;have aM:=la ag;obtain ⟨t,e,az⟩:=aM
      try dsimp only at e
      subst e;replace h:=dv h;obtain ⟨⟨b,dd⟩,ar,h⟩:=h;replace h:=dv h;obtain ⟨dk,aT,h⟩:=h;have aM:=la aT;obtain ⟨l,e,aG⟩:=aM
      try dsimp only at e
      subst e;replace h:=dv h;obtain ⟨⟨c,ft⟩,bE,h⟩:=h;cases h;exact .ahQ al (I.seq ad) az (I.one ar) aG (I.one bE)
    split at h
    . rename_i al;replace al:=hc al;obtain ⟨w,r,rfl,al⟩:=al;exact .ahS al (I.hl h)
    split at h
    . rename_i al;replace al:=hc al;obtain ⟨w,r,rfl,al⟩:=al;exact .aiD al (I.hl h)
    replace h:=dv h;obtain ⟨⟨a,a_⟩,ad,h⟩:=h
    try dsimp only at h
    split at h
    . rename_i al;replace al:=hc al;obtain ⟨w,r,rfl,al⟩:=al;replace h:=dv h;obtain ⟨⟨b,bu⟩,ag,h⟩:=h;cases h;exact .oset (I.pair ad) al (I.one ag)
    . cases h;exact .aio (I.pair ad)
   case hl=>
    intro d k a0 ws p bS h;replace h:=dv h;obtain ⟨⟨a,a_⟩,ad,h⟩:=h;replace h:=dv h;obtain ⟨bu,ag,h⟩:=h;have aM:=la ag;obtain ⟨w,e,hw⟩:=aM
    try dsimp only at e
    subst e;replace h:=dv h;obtain ⟨⟨l,dd⟩,ar,h⟩:=h;cases h
    split at ar
    . rename_i al;replace al:=hc al;obtain ⟨v,r,rfl,al⟩:=al;exact .fA (I.seq ad) hw al (I.cases ar)
    . exact .Zg (I.seq ad) hw (I.cases ar)
   case lt=>
    intro d a0 ws p bS h;replace h:tV af (aU af n) d a0 ws=_:=h;unfold tV at h
    split at h
    . rename_i al;replace al:=hc al;obtain ⟨w,r,rfl,al⟩:=al;replace h:=dv h;obtain ⟨⟨l,a_⟩,ad,h⟩:=h;replace h:=dv h;obtain ⟨bu,ag,h⟩:=h;have aM:=la ag;obtain ⟨t,e,az⟩:=aM
      try dsimp only at e
      subst e;replace h:=dv h;obtain ⟨⟨b,dd⟩,ar,h⟩:=h;cases h;exact .d_ al (I.binds ad) az (I.seq ar)
    . replace h:=dv h;obtain ⟨⟨a,a_⟩,ad,h⟩:=h;replace h:=dv h;obtain ⟨bu,ag,h⟩:=h;have aM:=la ag;obtain ⟨t,e,az⟩:=aM
      try dsimp only at e
      subst e;replace h:=dv h;obtain ⟨⟨b,dd⟩,ar,h⟩:=h;replace h:=dv h;obtain ⟨dk,aT,h⟩:=h;have aM:=la aT;obtain ⟨l,e,aG⟩:=aM
      try dsimp only at e
      subst e;replace h:=dv h;obtain ⟨⟨c,ft⟩,bE,h⟩:=h;cases h;exact .agW (I.pat ad) az (I.seq ar) aG (I.seq bE)
   case binds=>
    intro d l ws p bS h;replace h:=dv h;obtain ⟨⟨w,a_⟩,ad,h⟩:=h;have aM:=me ad;obtain ⟨rfl,aD⟩:=aM;replace h:=dv h;obtain ⟨bu,ag,h⟩:=h;have aM:=la ag;obtain ⟨e,aO,he⟩:=aM
    try dsimp only at aO
    subst aO;replace h:=dv h;obtain ⟨dd,ar,h⟩:=h;have aM:=la ar;obtain ⟨f,aO,aE⟩:=aM;subst aO;replace h:=dv h;obtain ⟨⟨b,dk⟩,aT,h⟩:=h
    try dsimp only at h
    split at h
    . rename_i al;replace al:=hc al;obtain ⟨v,r,rfl,al⟩:=al;exact .Wq aD he aE (I.fn aT) al (I.binds h)
    . cases h;exact .Wp aD he aE (I.fn aT)
   case pair=>
    intro d ws p bS h;replace h:=dv h;obtain ⟨⟨a,a_⟩,ad,h⟩:=h
    try dsimp only at h
    split at h
    . rename_i al;replace al:=hc al;obtain ⟨w,r,rfl,al⟩:=al;replace h:=dv h;obtain ⟨⟨b,bu⟩,ag,h⟩:=h;cases h;exact .aiY (I.iX ad) al (I.pair ag)
    . cases h;exact .aiX (I.iX ad)
   case iX=>
    intro d ws p bS h;replace h:=dv h;obtain ⟨⟨a,a_⟩,ad,h⟩:=h
    try dsimp only at h
    split at h
    . rename_i s al;replace al:=aie al;obtain ⟨al,hm⟩:=al;replace al:=hc al;obtain ⟨w,r,rfl,al⟩:=al;replace h:=dv h;obtain ⟨⟨b,bu⟩,ag,h⟩:=h;cases h;exact .Zo (I.hA ad) al hm (I.hA ag)
    . cases h;exact .Zn (I.hA ad)
   case hA=>
    intro d ws p bS h;replace h:=dv h;obtain ⟨⟨a,a_⟩,ad,h⟩:=h;exact .hA (I.hB ad) (I.lH h)
   case hB=>
    intro d ws p bS h;replace h:=dv h;obtain ⟨⟨a,a_⟩,ad,h⟩:=h;exact .hB (I.pre ad) (I.lI h)
   case lH=>
    intro d a ws p bS h;replace h:ub (aU af n) d a ws=_:=h;unfold ub at h
    split at h
    . rename_i s al;replace al:=aij al;obtain ⟨al,hm⟩:=al;replace al:=hc al;obtain ⟨w,r,rfl,al⟩:=al;replace h:=dv h;obtain ⟨⟨b,bu⟩,ag,h⟩:=h;exact .ais al hm (I.hB ag) (I.lH h)
    . cases h;exact .air
   case lI=>
    intro d a ws p bS h;replace h:uc (aU af n) d a ws=_:=h;unfold uc at h
    split at h
    . rename_i s al;replace al:=aim al;obtain ⟨al,hm⟩:=al;replace al:=hc al;obtain ⟨w,r,rfl,al⟩:=al;replace h:=dv h;obtain ⟨⟨b,bu⟩,ag,h⟩:=h;exact .aiu al hm (I.pre ag) (I.lI h)
    . cases h;exact .ait
   case pre=>
    intro d ws p bS h;replace h:=DZ h
    try dsimp only at h
    split at h
    . rename_i al;replace al:=hc al;obtain ⟨w,r,rfl,al⟩:=al;replace h:=pb h;obtain ⟨⟨a,a_⟩,ad,h⟩:=h;cases h;exact .neg al (I.pre ad)
    split at h
    . rename_i al;replace al:=hc al;obtain ⟨w,r,rfl,al⟩:=al;replace h:=pb h;obtain ⟨⟨a,a_⟩,ad,h⟩:=h;cases h;exact .get al (I.pre ad)
    exact .ajL (I.app h)
   case app=>
    intro d ws p bS h;replace h:pC af (aU af n) d ws=_:=h;unfold pC at h
    try dsimp only at h
    split at h
    . rename_i al;replace al:=hc al;obtain ⟨w,r,rfl,al⟩:=al;replace h:=pb h;obtain ⟨⟨a,a_⟩,ad,h⟩:=h;cases h;exact .raise al (I.atom ad)
    split at h
    . replace h:=dv h;obtain ⟨⟨w,r⟩,ad,h⟩:=h;have aM:=me ad;obtain ⟨rfl,aD⟩:=aM
      try dsimp only at h
      split at h
      . replace h:=dv h;obtain ⟨⟨b,bu⟩,ag,h⟩:=h;cases h;exact .Zs aD (I.atom ag)
      . cases h;exact .Zr aD
    replace h:=dv h;obtain ⟨⟨a,a_⟩,ad,h⟩:=h;exact .app (I.atom ad) (I.args h)
   case args=>
    intro d a ws p bS h;replace h:s9 (aU af n) d a ws=_:=h;unfold s9 at h
    split at h
    . replace h:=dv h;obtain ⟨⟨b,bu⟩,ag,h⟩:=h;exact .VV (I.atom ag) (I.args h)
    . cases h;exact .VU
   case atom=>
    intro d ws p bS h;replace h:tb af (aU af n) d ws=_:=h;unfold tb at h
    try dsimp only at h
    split at h
    . replace h:=pb h;obtain ⟨⟨w,r⟩,ad,h⟩:=h;have aM:=me ad;obtain ⟨rfl,aD⟩:=aM;cases h;exact .VJ aD
    split at h
    . replace h:=pb h;obtain ⟨⟨w,r⟩,ad,h⟩:=h;have aM:=me ad;obtain ⟨rfl,aD⟩:=aM;cases h;exact .V7 aD
    split at h
    . replace h:=pb h;obtain ⟨⟨w,r⟩,ad,h⟩:=h;have aM:=me ad;obtain ⟨rfl,aD⟩:=aM;cases h;exact .Wd aD
    split at h
    . replace h:=pb h;obtain ⟨⟨w,r⟩,ad,h⟩:=h;have aM:=me ad;obtain ⟨rfl,aD⟩:=aM;cases h;exact .Vo aD
    split at h
    . rename_i al;replace al:=hc al;obtain ⟨w,r,rfl,al⟩:=al;cases h;exact .Wb al
    split at h
    . rename_i al;replace al:=hc al;obtain ⟨w,r,rfl,al⟩:=al;cases h;exact .VG al
    split at h
    . rename_i al;replace al:=hc al;obtain ⟨w,r,rfl,al⟩:=al;replace h:=dv h;obtain ⟨⟨a,a_⟩,ad,h⟩:=h;replace h:=dv h;obtain ⟨bu,ag,h⟩:=h;have aM:=la ag;obtain ⟨t,e,az⟩:=aM
      try dsimp only at e
      subst e;cases h;exact .Vm al (I.seq ad) az
    replace h:=dv h;obtain ⟨a_,ad,h⟩:=h;have aM:=la ad;obtain ⟨w,rfl,al⟩:=aM
    split at h
    . rename_i ax;replace ax:=hc ax;obtain ⟨c,r,rfl,ax⟩:=ax;cases h;exact .Wc al ax
    . replace h:=dv h;obtain ⟨⟨b,bu⟩,ag,h⟩:=h;replace h:=dv h;obtain ⟨dd,ar,h⟩:=h;have aM:=la ar;obtain ⟨c,e,ax⟩:=aM
      try dsimp only at e
      subst e;cases h;exact .VK al (I.seq ag) ax
section
variable {af n:Nat} {ws bS:List aq} {p:aP} {l eC:List aP}
theorem Hv {k:Int} (h:kZ af (aU af n) k ws=.ok (p,bS)):bC (.ctor k) [] ws [p] bS:=by
 have I:=H0 af n;unfold kZ at h;replace h:=dv h;obtain ⟨⟨w,a_⟩,ad,h⟩:=h;have aM:=me ad;obtain ⟨rfl,aD⟩:=aM
 try dsimp only at h
 split at h
 . rename_i al;replace al:=hc al;obtain ⟨v,r,rfl,al⟩:=al;replace h:=dv h;obtain ⟨⟨b,bu⟩,ag,h⟩:=h;cases h;exact .ZM aD al (I.ty ag)
 . cases h;exact .ZL aD
theorem R8:∀(m:Nat) {l eC:List aP} {ws bS:List aq},kN af m l ws=.ok (eC,bS)->bC .kN l ws eC bS
 | 0,_,_,_,_,h=>by cases h
 | m+1,l,eC,ws,bS,h=>by
   simp only [kN] at h
   split at h
   . rename_i al;replace al:=hc al;obtain ⟨v,r,rfl,al⟩:=al;replace h:=dv h;obtain ⟨_,ad,h⟩:=h;replace h:=dv h;obtain ⟨⟨w,a_⟩,ag,h⟩:=h;have aM:=me ag;obtain ⟨e,aD⟩:=aM
     try dsimp only [List.tail] at e
     subst e;exact .ajg al (Pe ad) aD (R8 m h)
   . cases h;exact .ajf
theorem ajd {m:Nat} (h:pg af m ws=.ok (l,bS)):bC .params [] ws l bS:=by
 unfold pg at h
 split at h
 . replace h:=pb h;obtain ⟨⟨w,r⟩,ad,h⟩:=h;have aM:=me ad;obtain ⟨rfl,aD⟩:=aM;cases h;exact .aja aD
 split at h
 . rename_i al;replace al:=hc al;obtain ⟨v,r,rfl,al⟩:=al;replace h:=dv h;obtain ⟨⟨w,a_⟩,ad,h⟩:=h;have aM:=me ad;obtain ⟨e,aD⟩:=aM
   try dsimp only [List.tail] at e
   subst e;replace h:=dv h;obtain ⟨⟨iN,bu⟩,ag,h⟩:=h;replace h:=dv h;obtain ⟨dd,ar,h⟩:=h;have aM:=la ar;obtain ⟨c,e,ax⟩:=aM
   try dsimp only at e
   subst e;cases h;exact .ajh al aD (R8 m ag) ax
 . cases h;exact .ai_
theorem OD:∀(m:Nat) {l eC:List aP} {ws bS:List aq},oS af (aU af n) m l ws=.ok (eC,bS)->bC .ctors l ws eC bS
 | 0,_,_,_,_,h=>by cases h
 | m+1,l,eC,ws,bS,h=>by
   simp only [oS] at h
   split at h
   . rename_i al;replace al:=hc al;obtain ⟨v,r,rfl,al⟩:=al;replace h:=dv h;obtain ⟨⟨c,a_⟩,ag,h⟩:=h;exact .ZP al (Hv ag) (OD m h)
   . cases h;exact .ZO
theorem Hx {m:Nat} (h:n5 af (aU af n) m ws=.ok (p,bS)):bC .decl [] ws [p] bS:=by
 have I:=H0 af n;unfold n5 at h
 try dsimp only at h
 split at h
 . rename_i al;replace al:=hc al;obtain ⟨w,r,rfl,al⟩:=al;replace h:=dv h;obtain ⟨⟨l,a_⟩,ad,h⟩:=h;replace h:=dv h;obtain ⟨⟨v,bu⟩,ag,h⟩:=h;have aM:=me ag;obtain ⟨e,aD⟩:=aM
   try dsimp only at e
   subst e;replace h:=dv h;obtain ⟨dd,ar,h⟩:=h;have aM:=la ar;obtain ⟨c,e,ax⟩:=aM
   try dsimp only at e
   subst e;replace h:=dv h;obtain ⟨⟨t,dk⟩,aT,h⟩:=h;replace h:=dv h;obtain ⟨⟨q,ft⟩,bE,h⟩:=h;cases h;exact .aau al (ajd ad) aD ax (Hv aT) (OD m bE)
 split at h
 . rename_i al;replace al:=hc al;obtain ⟨w,r,rfl,al⟩:=al;replace h:=dv h;obtain ⟨⟨t,dk⟩,aT,h⟩:=h;cases h;exact .ON al (Hv aT)
 replace h:=dv h;obtain ⟨a_,ad,h⟩:=h;have aM:=la ad;obtain ⟨w,rfl,al⟩:=aM
 split at h
 . rename_i eO;replace eO:=hc eO;obtain ⟨v,r,rfl,eO⟩:=eO;replace h:=dv h;obtain ⟨⟨l,bu⟩,ag,h⟩:=h;cases h;exact .aas al eO (I.binds ag)
 . replace h:=dv h;obtain ⟨⟨a,bu⟩,ag,h⟩:=h;replace h:=dv h;obtain ⟨dd,ar,h⟩:=h;have aM:=la ar;obtain ⟨c,e,ax⟩:=aM
   try dsimp only at e
   subst e;replace h:=dv h;obtain ⟨⟨b,dk⟩,aT,h⟩:=h;cases h;exact .aaj al (I.pat ag) ax (I.seq aT)
end
theorem H2 {aL:LV} {acc l:List aP} {ws bS:List aq} (h:bC aL acc ws l bS):h2 l+l.length+2 * bS.length<=2 * ws.length+h2 acc+acc.length:=by
 have app:∀a b:List aP,h2 (a++b)=h2 a+h2 b:=fun a b=>by
  induction a with
  | nil=>simp [h2]
  | cons x a cc=>rw [aoW,h2,h2,cc];omega
 have akK:∀t:aP,t.size=h2 t.l+1:=fun t=>by cases t;simp only [aP.size,aP.l];omega
 induction h
 case ON ws a_ c w aD ax cc=>
  have:=akK c;simp only [h2,aP.size,aoH,aoS] at *;omega
 all_goals (simp only [h2,aP.size,two,p2,h4,app,aoL,aoH,aoS] at *;omega)
theorem OL (t:aP):t.deep=lk t.l+1:=by cases t;simp only [aP.deep,aP.l]
theorem size_eq (t:aP):t.size=1+h2 t.l:=by cases t;simp only [aP.size,aP.l]
theorem R_:∀l m:List aP,lk (l++m)=max (lk l) (lk m)
 | [],m=>by simp [lk]
 | t::l,m=>by rw [aoW,lk,lk,R_ l m,Nat.max_assoc]
theorem Sl:∀l m:List aP,h2 (l++m)=h2 l+h2 m
 | [],m=>by simp [h2]
 | t::l,m=>by rw [aoW,h2,h2,Sl l m,apw]
theorem take_one {l:List aP} {i:Nat} (h:i<l.length):l.take (i+1)=l.take i++[l[i]]:=by rw [List.take_succ_eq_append_getElem h]
theorem Sa {l:List aP} {i:Nat} (h:i<l.length):lk (l.take (i+1))=max (lk (l.take i)) l[i].deep:=by rw [take_one h,R_,lk,lk,Nat.max_zero]
mutual
theorem Z':∀t:aP,t.deep<=t.size
 | .mk k n a s l=>by rw [aP.deep,aP.size];have:=Fs l;omega
theorem Fs:∀l:List aP,lk l<=h2 l
 | []=>aoz _
 | t::l=>by rw [lk,h2];have:=Z' t;have:=Fs l;omega
end
theorem Sn (l:List aP) (i:Nat):h2 (l.take i)<=h2 l:=by have:=Sl (l.take i) (l.drop i);rw [ap6] at this;omega
theorem Rr (a b:Nat):(if (a:Int) < (b:Int) then (b:Int) else (a:Int))=((max a b:Nat):Int):=by
 by_cases h:(a:Int) < (b:Int)
 . rw [aoN h,Nat.max_eq_right (by omega)]
 . rw [aoI h,Nat.max_eq_left (by omega)]
theorem OM:∀(N:Nat) (t:aP),t.size<=N->N<=1000000000->∀(aj:List V) (h:ah),ev Any h t.enc aj->dY Tryz.prog 40 [.agg aj] h fun x ae=>x=.int .i64 (t.deep:Nat)/\Ext h ae
 | 0,t,al,_,_,_,_=>by have:=Fy t;omega
 | N+1,t,al,ab2,aj,h,H=>by
   obtain ⟨aC,rfl,L,_⟩:=aP.open H;have cQ:N<=1000000000:=by omega
   have ol:=L.one;have aG:=L.len;have hle:=L.le;rw [ao6] at aG hle;refine X_.z rfl (cm ?_);unfold NQ;obtain ⟨ad,an,aO,bz⟩:=fS h [.int .i64 t.k,.int .i64 t.n,.int .i64 t.a,.str t.s,aC];simp only [ol.1,ol.2.1,an,bz.g,aG,↓aa,ab,simprocAttr];refine gb (fun r g=>r 1=.ptr (ao h.next) 0/\r 7=aC/\r 8=.int .i64 t.l.length/\∃i:Nat,r 3=.int .i64 (lk (t.l.take i):Nat)/\r 9=.int .i64 i/\i<=t.l.length/\Ext ad g) (fun r g=>t.l.length - (r 9).toN) ?_ ?_
   . exact ⟨by simp only [↓aa,cM,simprocAttr],by simp only [↓aa,cM,simprocAttr],by simp only [↓aa,cM,simprocAttr],0,by simp only [↓aa,cM,simprocAttr]<;>rfl,by simp only [↓aa,cM,simprocAttr]<;>rfl,by omega,Ext.refl ad⟩
   rintro r g ⟨cJ,fg,gm,i,bV,x3,aJ,E⟩;have A:=bz.ext E;have Gu:=L.ext (aO.trans E);have jI:=Sn t.l i;have pH:=Fs (t.l.take i);have aci:=size_eq t;by_cases a7:i<t.l.length
   . have g0:((i:Int) < (t.l.length:Int))=True:=aoU (by omega);obtain ⟨b,off,wl,l5,X,Dx,ld⟩:=aP.EX Gu (k:=.i64) a7;have Jy:=ld g (Ext.refl g);have zV:=Dx.one;have kS:=uF a7 (by unfold top at hle;omega);have dH:=Sm (t:=t) (apQ a7);obtain ⟨g1,e1,dr,B⟩:=fz g [.int .i64 0,.int .i64 0,.int .i64 0,.str [],.cL] [.int .i64 t.l[i].k,.int .i64 t.l[i].n,.int .i64 t.l[i].a,.str t.l[i].s,wl];simp only [cJ,bV,fg,gm,x3,g0,l5,Jy,e1,B.g,zV.1,zV.2.1,↓aa,ab,simprocAttr];refine aY (OM N t.l[i] (by omega) cQ _ g1 (X.ext dr)) ?_;rintro x g2 ⟨rfl,bs⟩;have cT:=dr.trans bs;have hm:=Rr (lk (t.l.take i)) t.l[i].deep;rw [<-Sa a7] at hm;simp only [cJ,bV,fg,gm,x3,kS,JL,hm,↓aa,ab,simprocAttr];exact ⟨⟨i+1,rfl,rfl,a7,E.trans cT⟩,by omega⟩
   . have g0:((i:Int) < (t.l.length:Int))=False:=aoV (by omega);rw [List.take_of_length_le (by omega)] at bV pH jI;have wd:IntKind.i64.wrap ((lk t.l:Int)+1)=((t.deep:Nat):Int):=by rw [OL,wrap_i64 (by omega) (by omega)];rfl
     simp only [cJ,bV,fg,gm,x3,g0,wd,↓aa,ab,simprocAttr];exact aO.trans E
theorem Sx:∀(N:Nat) (t:aP),t.size<=N->N<=1000000000->∀(aj:List V) (h:ah),ev Any h t.enc aj->dY Tryz.prog 29 [.agg aj] h fun x ae=>x=.int .i64 (t.deep:Nat)/\Ext h ae
 | 0,t,al,_,_,_,_=>by have:=Fy t;omega
 | N+1,t,al,ab2,aj,h,H=>by
   obtain ⟨aC,rfl,L,_⟩:=aP.open H;have cQ:N<=1000000000:=by omega
   have ol:=L.one;have aG:=L.len;have hle:=L.le;rw [ao6] at aG hle;refine X1.z rfl (cm ?_);unfold NI;obtain ⟨ad,an,aO,bz⟩:=fS h [.int .i64 t.k,.int .i64 t.n,.int .i64 t.a,.str t.s,aC];simp only [ol.1,ol.2.1,an,bz.g,aG,↓aa,ab,simprocAttr];refine gb (fun r g=>r 1=.ptr (ao h.next) 0/\∃i:Nat,r 3=.int .i64 (lk (t.l.take i):Nat)/\r 4=.int .i64 i/\i<=t.l.length/\Ext ad g) (fun r g=>t.l.length - (r 4).toN) ?_ ?_
   . exact ⟨by simp only [↓aa,cM,simprocAttr],0,by simp only [↓aa,cM,simprocAttr]<;>rfl,by simp only [↓aa,cM,simprocAttr]<;>rfl,by omega,Ext.refl ad⟩
   rintro r g ⟨cJ,i,bV,x3,aJ,E⟩;have A:=bz.ext E;have Gu:=L.ext (aO.trans E);have jI:=Sn t.l i;have pH:=Fs (t.l.take i);have aci:=size_eq t;by_cases a7:i<t.l.length
   . have g0:((i:Int) < (t.l.length:Int))=True:=aoU (by omega);obtain ⟨b,off,wl,l5,X,Dx,ld⟩:=aP.EX Gu (k:=.i64) a7;have Jy:=ld g (Ext.refl g);have zV:=Dx.one;have kS:=uF a7 (by unfold top at hle;omega);have dH:=Sm (t:=t) (apQ a7);simp only [cJ,bV,x3,g0,A.g,aG,l5,Jy,↓aa,ab,simprocAttr];refine aY (Sx N t.l[i] (by omega) cQ _ g X) ?_;rintro x g2 ⟨rfl,bs⟩;have cT:=bs;have hm:=Rr (lk (t.l.take i)) t.l[i].deep;rw [<-Sa a7] at hm;simp only [cJ,bV,x3,kS,JL,hm,↓aa,ab,simprocAttr];exact ⟨⟨i+1,rfl,rfl,a7,E.trans cT⟩,by omega⟩
   . have g0:((i:Int) < (t.l.length:Int))=False:=aoV (by omega);rw [List.take_of_length_le (by omega)] at bV pH jI;have wd:IntKind.i64.wrap ((lk t.l:Int)+1)=((t.deep:Nat):Int):=by rw [OL,wrap_i64 (by omega) (by omega)];rfl
     simp only [cJ,bV,A.g,aG,x3,g0,wd,↓aa,ab,simprocAttr];exact aO.trans E
def mi (w:aq):Prop:=∃r n,gd r=.ok (w.kind,w.num,w.text,n)/\n<=r.length
theorem ahz {r:List UInt8} {q:Int × Int × List UInt8 × Nat} (h:qJ r=.ok q):q.1=1/\(-1073741824<=q.2.1/\q.2.1<=1073741823)/\q.2.2.1=[]/\q.2.2.2<=r.length:=by
 unfold qJ at h;simp only at h
 split at h
 . cases h
 . cases h;refine ⟨rfl,?_,rfl,(List.takeWhile_prefix _).length_le⟩;simp only
   split<;>omega
theorem K9:∀(f:Nat) {r:List UInt8} {q:List UInt8 × Nat},rT f r=some q->q.2<=r.length
 | 0,_,_,h=>by cases h
 | f+1,[],_,h=>by cases h
 | f+1,c::r,q,h=>by
   simp only [rT] at h
   split at h
   . cases h;simp
   split at h
   . split at h
     . cases h
     . rename_i b n he;cases az:rT f (r.drop n) with
       | none=>rw [az] at h;cases h
       | some gg=>
         rw [az] at h;have:=K9 f az;cases h;rw [aoZ] at this;have aI:n<=r.length:=by
          unfold kD at he
          split at he
          . cases he
          . rename_i eV bq
            repeat' split at he
            all_goals (cases he;try simp only [aoH];try omega)
         simp only [aoH];omega
   split at h
   . cases h
   . cases az:rT f r with
     | none=>rw [az] at h;cases h
     | some gg=>
       rw [az] at h;have:=K9 f az;cases h;simp only [aoH];omega
theorem alj {r:List UInt8} {q:Int × Int × List UInt8 × Nat} (h:mJ r=.ok q):q.1=2/\q.2.1=0/\q.2.2.1.length<=4096/\q.2.2.2<=r.length+1:=by
 unfold mJ at h
 split at h
 . cases h
 . rename_i b n ai
   split at h
   . cases h
   . cases h;exact ⟨rfl,rfl,by simp only;omega,by have:=K9 _ ai;simp only;omega⟩
theorem afA {t:List UInt8} (h:ng t=true):t.length<=9:=by
 unfold ng at h;have:∀t ∈ ni,t.length<=9:=by decide
 exact this t (by simpa using h)
theorem JM {k:Int} {r:List UInt8} {q:Int × Int × List UInt8 × Nat} (h:jr k r=.ok q):(q.1=7\/q.1=6\/q.1=k)/\q.2.1=0/\q.2.2.1.length<=64/\q.2.2.2<=r.length:=by
 unfold jr at h;simp only at h;have aG:=(List.takeWhile_prefix d_ (l:=r)).length_le
 split at h
 . rename_i q;cases h;exact ⟨.inl rfl,rfl,by simp only [q.2];simp,aG⟩
 split at h
 . rename_i q;cases h;exact ⟨.inr (.inl rfl),rfl,by have:=afA q.2;simp only;omega,aG⟩
 split at h
 . cases h
 . cases h;exact ⟨.inr (.inr rfl),rfl,by simp only;omega,aG⟩
theorem akW {r:List UInt8} {q:Int × Int × List UInt8 × Nat} (h:po r=.ok q):q.1=7/\q.2.1=0/\q.2.2.1.length<=2/\q.2.2.2<=r.length:=by
 unfold po at h
 split at h
 . rename_i t az;cases h;have ad:=List.mem_of_find?_eq_some az;have ag:=List.find?_some az;have:∀t ∈ gF,t.length<=2:=by decide
   exact ⟨rfl,rfl,this t ad,(apn.1 ag).length_le⟩
 . cases h
theorem RC {r:List UInt8} {q:Int × Int × List UInt8 × Nat} (h:gd r=.ok q):(1<=q.1/\q.1<=7)/\(q.1=1->-1073741824<=q.2.1/\q.2.1<=1073741823)/\q.2.2.1.length<=4096/\q.2.2.2<=r.length:=by
 match r,h with
 | c::r,h=>
   simp only [gd] at h
   split at h
   . obtain ⟨a,b,c,d⟩:=ahz h;exact ⟨by omega,fun _=>b,by rw [c];simp,d⟩
   split at h
   . obtain ⟨a,b,c,d⟩:=alj h;exact ⟨by omega,fun z=>by omega,c,d⟩
   split at h
   . obtain ⟨a,b,c,d⟩:=JM h;exact ⟨by omega,fun z=>by omega,by omega,d⟩
   split at h
   . obtain ⟨a,b,c,d⟩:=JM h;exact ⟨by omega,fun z=>by omega,by omega,d⟩
   split at h
   . cases aI:jr 5 r with
     | error e=>rw [aI] at h;cases h
     | ok gg=>rw [aI] at h;cases h;obtain ⟨a,b,c,d⟩:=JM aI;exact ⟨by simp only;omega,fun z=>by simp only at z;omega,by simp only;omega,by simp only [aoH];omega⟩
   . obtain ⟨a,b,c,d⟩:=akW h;exact ⟨by omega,fun z=>by omega,by omega,d⟩
theorem ahq {c:UInt8} {r:List UInt8} {e:Int} (h:gd (c::r)=.error e):1<=e:=by
 simp only [gd] at h
 split at h
 . unfold qJ at h;simp only at h;split at h<;>cases h;decide
 split at h
 . unfold mJ at h
   split at h
   . cases h;decide
   . split at h<;>cases h;decide
 have zR:∀{k r},jr k r=.error e->1<=e:=fun {k r} h=>by
  unfold jr at h;simp only at h
  split at h
  . cases h
  split at h
  . cases h
  split at h<;>cases h;decide
 split at h
 . exact zR h
 split at h
 . exact zR h
 split at h
 . cases aI:jr 5 r with
   | error fi=>rw [aI] at h;cases h;exact zR aI
   | ok gg=>rw [aI] at h;cases h
 . unfold po at h
   split at h<;>cases h;decide
theorem Zw {w:aq} {r:Except (Int × Nat) (List aq)} {ws:List aq} (h:Bf w r=.ok ws):∃v,r=.ok v/\ws=w::v:=by
 cases r with
 | error e=>cases h
 | ok v=>cases h;exact ⟨v,rfl,rfl⟩
theorem Ff:∀{r:List UInt8} {d:Int} {n:Nat},hp r d=some n->n<=r.length
 | [],d,n,h=>by simp [hp] at h
 | [_],d,n,h=>by simp [hp] at h
 | x::y::r,d,n,h=>by
   rw [hp] at h
   split at h
   . cases aH:hp r (d+1) with
     | none=>rw [aH] at h;cases h
     | some m=>rw [aH] at h;have:=Ff aH;cases h;simp only [aoH];omega
   . split at h
     . split at h
       . cases h;simp
       . cases aH:hp r (d-1) with
         | none=>rw [aH] at h;cases h
         | some m=>rw [aH] at h;have:=Ff aH;cases h;simp only [aoH];omega
     . cases aH:hp (y::r) d with
       | none=>rw [aH] at h;cases h
       | some m=>rw [aH] at h;have:=Ff aH;cases h;simp only [aoH] at *;omega
theorem E4:∀(f:Nat) (r:List UInt8) (p:Nat) {ws:List aq},pU f r p=.ok ws->ws.length<=r.length/\(∀w ∈ ws,p<=w.pos/\w.pos<p+r.length/\mi w)/\ws.Pairwise fun a b=>a.pos<b.pos
 | 0,r,p,ws,h=>by cases h;simp
 | f+1,[],p,ws,h=>by cases h;simp
 | f+1,c::r,p,ws,h=>by
   simp only [pU] at h
   split at h
   . obtain ⟨a,b,d⟩:=E4 f _ _ h;exact ⟨by simp only [aoH];omega,fun w hw=>by obtain ⟨bT,c2,h9⟩:=b w hw;exact ⟨by omega,by simp only [aoH];omega,h9⟩,d⟩
   split at h
   . split at h
     . cases h
     . rename_i n aI;have ad:=Ff aI;obtain ⟨a,b,d⟩:=E4 f _ _ h;rw [aoZ] at a b;exact ⟨by omega,fun w hw=>by obtain ⟨bT,c2,h9⟩:=b w hw;exact ⟨by omega,by omega,h9⟩,d⟩
   . split at h
     . cases h
     . rename_i q aH;have ad:=CC aH;have ag:=(RC aH).2.2.2;obtain ⟨v,bZ,rfl⟩:=Zw h;obtain ⟨a,b,d⟩:=E4 f _ _ bZ;rw [aoZ] at a b;refine ⟨by simp only [aoH] at *;omega,?_,?_⟩
       . intro w hw;rcases ao7.1 hw with rfl | hw
         . exact ⟨aoz _,by simp,⟨c::r,q.2.2.2,aH,ag⟩⟩
         . obtain ⟨bT,c2,h9⟩:=b w hw;exact ⟨by omega,by omega,h9⟩
       . exact List.Pairwise.cons (fun w hw=>by obtain ⟨bT,_⟩:=b w hw;simp only;omega) d
theorem E3:∀(f:Nat) (r:List UInt8) (p:Nat) {e:Int × Nat},pU f r p=.error e->1<=e.1
 | 0,r,p,e,h=>by cases h
 | f+1,[],p,e,h=>by cases h
 | f+1,c::r,p,e,h=>by
   simp only [pU] at h
   split at h
   . exact E3 f _ _ h
   split at h
   . split at h
     . cases h;exact (by decide:(1:Int)<=253)
     . exact E3 f _ _ h
   . split at h
     . rename_i fi he;cases h;exact ahq he
     . cases aG:pU f ((c::r).drop _) _ with
       | ok v=>rw [aG] at h;cases h
       | error fi=>rw [aG] at h;cases h;exact E3 f _ _ aG
theorem Rf {s:List UInt8} {ws:List aq} (h:jL s=.ok ws):s.length<=65536/\ws.length<=s.length/\(∀w ∈ ws,w.pos<s.length/\mi w)/\ws.Pairwise fun a b=>a.pos<b.pos:=by
 unfold jL at h
 split at h
 . cases h
 split at h
 . cases h
 . obtain ⟨a,b,c⟩:=E4 _ _ _ h;exact ⟨by omega,a,fun w hw=>by obtain ⟨bT,c2,h9⟩:=b w hw;exact ⟨by omega,h9⟩,c⟩
theorem JA {s:List UInt8} {e:Int × Nat} (h:jL s=.error e):1<=e.1:=by
 unfold jL at h
 split at h
 . cases h;exact (by decide:(1:Int)<=3)
 split at h
 . cases h;exact (by decide:(1:Int)<=250)
 . exact E3 _ _ _ h
theorem FG {w:aq} (h:mi w):(1<=w.kind/\w.kind<=7)/\(w.kind=1->-1073741824<=w.num/\w.num<=1073741823)/\w.text.length<=4096:=by obtain ⟨r,n,h,_⟩:=h;obtain ⟨a,b,c,_⟩:=RC h;exact ⟨a,b,c⟩
theorem R9 (s:List UInt8):nq s≠.error b6:=aji s fun e h q=>by have:=JA h;rw [q] at this;revert this;decide
theorem OH {ws bS:List aq} {p:aP} (h:bC .decl [] ws [p] bS):∃w r,ws=w::r/\p.a=w.pos:=by cases h<;>exact ⟨_,_,rfl,rfl⟩
theorem OI {ws bS:List aq} {p:aP} (h:bC .decl [] ws [p] bS):p.size<=2 * ws.length:=by have:=H2 h;simp only [h2,aoS,aoH] at this;omega
section
variable {W:List aq} {af ak n d:Nat} {ws:List aq} {r:bJ (List aq)}
def GM (s:List UInt8) (h:ah) (x:V) (ae:ah):Prop:=Ext h ae/\match nq s with
 | .ok l=>∃v,x=.tuple [v,.agg [.int .i64 0,.int .i64 0]]/\e_ (Fr h.next) ae 5 (l.map aP.enc) v/\l.length<=65536
 | .error e=>x=.tuple [.cL,.agg [.int .i64 e.1,.int .i64 (e.2:Nat)]]
theorem Hz {s:List UInt8} {bq:bJ (List aq)} (E:bq=(r >>= eD af s)):∀w',bq=.ok w'->∃w,r=.ok w/\w'.length<w.length:=by
 rintro w' rfl;cases r with
 | error e=>cases E
 | ok w=>exact ⟨w,rfl,zM (af:=af) E.symm⟩
theorem JN {ak n:Nat} (h:n<ak):¬b3 ak (ao n):=fun z=>by have Dg:ao n=ao ak:=z;rw [lJ] at Dg;omega
theorem akw (s:List UInt8) (h:ah):dY Tryz.prog 10 [.str s] h (GM s h):=by
 have d':=R9 s;unfold GM;generalize a8:nq s=res at d' ⊢;refine WT.z rfl (cm ?_);unfold Mx;obtain ⟨ad,an,aO,bz⟩:=fS h [.int .i64 0,.int .i64 0];simp only [an,↓aa,ab,simprocAttr];refine aY (akg s ad) ?_;rintro x ag ⟨bs,au⟩;have fu:=bz.ext bs;have fX:=aO.next
 have lE:=bs.next
 have a7:=bz.lt;cases aG:jL s with
 | error e=>
   rw [aG] at au;have he:=JA aG;have U:res=.error e:=by rw [<-a8];unfold nq;rw [aG]
   subst au;obtain ⟨ar,aB,cT,fj⟩:=fz ag [.int .i64 0,.int .i64 0] [.int .i64 e.1,.int .i64 (e.2:Nat)];have Dj:=fu.ext cT;have Ax:=Dj.put [.int .i64 e.1,.int .i64 (e.2:Nat)];have f0:(e.1=0)=False:=aoV (by omega);simp only [aB,fj.g,Dj.g,Ax.g,f0,aX,↓aa,ab,simprocAttr];rw [U];exact ⟨(aO.trans (bs.trans cT)).set (aoz _) _,rfl⟩
 | ok W=>
   rw [aG] at au;obtain ⟨v,rfl,S⟩:=au;obtain ⟨g1,g2,g3,g4⟩:=Rf aG;have U:pE s.length (aU s.length (ml W)) (ml W) [] W=res:=by rw [<-a8];unfold nq;rw [aG]
   have x8:=S.v.one;obtain ⟨ar,aB,cT,fj⟩:=fz ag [.int .i64 0,.int .i64 0] [.int .i64 0,.int .i64 0];have Dj:=fu.ext cT;obtain ⟨aT,bt,cO,eL⟩:=fS ar [v,.int .i64 (0:Nat),.int .i64 s.length,.int .i64 (0:Nat),.int .i64 0,.int .i64 0];simp only [Int.natCast_zero] at bt;simp only [aB,fj.g,bt,x8.1,x8.2.1,x8.2.2,↓aa,ab,simprocAttr];have uJ:Ext h aT:=aO.trans (bs.trans (cT.trans cO));have n3:=cT.next
   have n4:=eL.lt;have L8:=(S.ext cT);have ch:dz W s.length ar.next aT v (.ok W) 0:=⟨0,⟨eL,(L8.ext cO).v,fun q=>dj (aoz _) (L8.v.cu q),aoQ _,by omega,fun w hw=>by have:=(FG (g3 w hw).2).2.2;omega,fun w hw=>(FG (g3 w hw).2).2.1⟩,by rw [apm],by omega⟩
   refine gb (fun r g=>r 3=.ptr (ao h.next) 0/\r 6=.ptr (ao ar.next) 0/\Ext h g/\Has g h.next [.int .i64 0,.int .i64 0]/\aT.next<=g.next/\∃m l rg,dB aT.next (Fr aT.next) g 5 (List.map aP.enc l) (r 7)/\l.length<=65537/\(∀w,rg=.ok w->l.length+w.length<=W.length)/\dz W s.length ar.next g v rg 0/\(rg >>= fun ws=>pE s.length (aU s.length (ml W)) m l ws)=res) (fun _ g=>mB W ar.next g) ?_ ?_
   . exact ⟨by simp only [↓aa,cM,simprocAttr],by simp only [↓aa,cM,simprocAttr],uJ,Dj.ext cO,aoz _,ml W,[],.ok W,by simp only [↓aa,cM,simprocAttr];exact dB.nil _ _ _ _,by simp,fun w e=>by cases e;simp,ch,U⟩
   clear U;rintro r g ⟨z3,ke,X,A,aI,m,l,rg,O,jJ,hG,C,U⟩;have ol:=O.one;simp only [ke,↓aa,ab,simprocAttr];refine bQ (jG C) ?_;cases rg with
   | error e=>
     have au:res=.error e:=U.symm;have fq:=C;obtain ⟨he,i,dF,G⟩:=fq;simp only [kl,ke,↓aa,ab,simprocAttr];refine bQ (jG C) ?_;have jw:=A.put [.int .i64 e.1,.int .i64 (e.2:Nat)];simp only [kl,z3,ke,G.at_.g,A.g,jw.g,aX,↓aa,ab,simprocAttr];rw [au];exact ⟨X.set (aoz _) _,rfl⟩
   | ok ws=>
     have fq:=C;obtain ⟨i,G,Su,_⟩:=fq;cases ws with
     | nil=>
       have f0:((i:Int) < (W.length:Int))=False:=aoV (by have:=congrArg List.length Su;simp only [aoS,aoZ] at this;omega);cases m with
       | zero=>exact (d' U.symm).elim
       | succ m=>
       replace U:pE s.length (aU s.length (ml W)) (m+1) l []=res:=U;simp only [pE,aoM] at U;simp only [j2,ke,G.at_.g,G.len,f0,↓aa,ab,simprocAttr];refine bQ (jG C) ?_;have jw:=A.put [.int .i64 0,.int .i64 0];simp only [j2,z3,ke,ol.1,ol.2.1,ol.2.2,A.g,jw.g,aX,↓aa,ab,simprocAttr];rw [<-U];refine ⟨X.set (aoz _) _,_,rfl,?_,by have:=hG _ rfl;omega⟩;exact (ud (Fl O (n:=h.next) (by omega) (.bd [.int .i64 0,.int .i64 0] 0 false)) (by omega)).eU fun b q=>aoF (by omega) q
     | cons aA rest=>
       have f0:((i:Int) < (W.length:Int))=True:=aoU (by have:=congrArg List.length Su;simp only [aoH,aoZ] at this;omega);cases m with
       | zero=>exact (d' U.symm).elim
       | succ m=>
       replace U:pE s.length (aU s.length (ml W)) (m+1) l (aA::rest)=res:=U;simp only [pE,reduceCtorEq,aoK] at U;simp only [j2,ke,G.at_.g,G.len,f0,↓aa,ab,simprocAttr];refine aY (Z3 (R' W s.length ar.next _ _ (aoz (ml W))) m 0 rfl (aA::rest) g v C (fun w e q=>by cases e;rw [q] at U;exact d' U.symm)) ?_;rintro x c8 ⟨p,uE,bc,bY,rfl,gI,m2,bx⟩;replace U:=e6 (r:=.ok (aA::rest)) (f:=n5 s.length (aU s.length (ml W)) m) U bY
       try dsimp only at U
       have bM:=(cE.start C).eN m2 bx gI;have eR:=gI.one;obtain ⟨dJ,ca,bj⟩:=bM.st b8 (vcs p uE);simp only [eR.1,eR.2.1,eR.2.2,ca,ke,↓aa,ab,simprocAttr];refine bQ (jG bj.C) ?_;have Gk:∀w,bc=.ok w->w.length < (aA::rest).length:=fun w e=>by subst e;have:=H2 (Hx (bY:n5 _ _ _ _=.ok (p,w)));have:=Fy p;simp only [h2,aoH,aoS] at *;omega
       cases bc with
       | error e=>
         replace U:=kY U;simp only [kl,bj.a'.g,eR.1,eR.2.1,eR.2.2,ke,↓aa,ab,simprocAttr];refine aY (iy bj.C C0) ?_;rintro x iZ ⟨m5,b1,eW,bW⟩;have bO:=bj.call m5 bW;have lV:=hq O bO.M (by omega) (by omega);obtain ⟨v6,hR,cx,wi,lC,_,_⟩:=pf lV (bO.bg.eU (eX:=Fr g.next) fun b q=>q.1) (lg O (aoz _)) aI bO.M.next (by omega)
         have cv:dz W s.length ar.next hR v b1 0:=ch.own bO.C lC (fun b q=>q.1)
         have kh:=oa (A.mod bO.M (JN (by omega))) lC (.inl (by omega));have AP:Ext h hR:=((X.kL bO.M (fun b q=>by rw [show b=ao ar.next from q,dh];omega)).kL lC (fun b q=>aoF (by omega) q.1));have key:∀w,b1=.ok w->w.length+1 < (aA::rest).length:=fun w e=>by obtain ⟨x,bs,au⟩:=Hz eW w e;cases bs
         have qq:=hG _ rfl;simp only [bO.a'.g,eR.1,eR.2.1,eR.2.2,cx,z3,ke,↓aa,ab,simprocAttr];refine ⟨⟨AP,kh,aoF aI (aoF bO.M.next lC.next),m,l++[p],b1,wi,by rw [aoL,ao0];simp only [aoH] at qq;omega,fun w e=>by have:=key w e;rw [aoL,ao0];omega,cv,?_⟩,sD C cv fun w e=>by have:=key w e;omega⟩;rw [eW];exact U.symm
       | ok bu=>
         replace U:=hk U;have z':=Hx (bY:n5 _ _ _ _=.ok (p,bu));have dH:=OI z';obtain ⟨b9,cJ,Bt,xe⟩:=OH z';simp only [j2,bj.a'.g,eR.1,eR.2.1,eR.2.2,↓aa,ab,simprocAttr];refine aY (Sx _ p (aoz _) (by have:=C.p6;omega) _ dJ (bj.bg.cs.eU fun _ _=>trivial)) ?_;rintro x gU ⟨rfl,yO⟩;have a6:=bj.ext yO;by_cases bk:200<p.deep
         . have g0:(200 < (p.deep:Int))=True:=aoU (by omega);rw [aoN bk,xe,aoG] at U;have Ud:=a6.C;obtain ⟨i4,Gp,_,_⟩:=Ud;obtain ⟨fl,FA⟩:∃fl,fl=gU.set (ao ar.next) (.bd [v,.int .i64 i4,.int .i64 s.length,.int .i64 (0:Nat),.int .i64 271,.int .i64 (b9.pos:Nat)] 0 false):=⟨_,rfl⟩;have Ue:dz W s.length ar.next fl v (.error (271,b9.pos)) 0:=by rw [FA];exact ⟨RH,i4,_,Gp.put (0:Nat) 271 (b9.pos:Nat) Gp.le⟩
           have m4:Mod (b3 ar.next) gU fl:=by rw [FA];exact (Mod.refl (b3 ar.next) gU).set (fun _=>rfl) _
           have LU:=a6.call m4 Ue;have Mk:Has gU c8.next [.int .i64 p.k,.int .i64 p.n,.int .i64 (b9.pos:Nat),.str p.s,uE]:=by rw [<-xe];exact a6.a'
           try simp only [Int.natCast_zero] at FA
           simp only [g0,ke,Mk.g,Gp.at_.g,<-FA,↓aa,ab,simprocAttr];refine aY (iy LU.C C0) ?_;rintro x iZ ⟨m5,b1,eW,bW⟩;have bO:=LU.call m5 bW;have lV:=hq O bO.M (by omega) (by omega);obtain ⟨v6,hR,cx,wi,lC,_,_⟩:=pf lV (bO.bg.eU (eX:=Fr g.next) fun b q=>q.1) (lg O (aoz _)) aI bO.M.next (by omega)
           have cv:dz W s.length ar.next hR v b1 0:=ch.own bO.C lC (fun b q=>q.1)
           have kh:=oa (A.mod bO.M (JN (by omega))) lC (.inl (by omega));have AP:Ext h hR:=((X.kL bO.M (fun b q=>by rw [show b=ao ar.next from q,dh];omega)).kL lC (fun b q=>aoF (by omega) q.1));have key:∀w,b1=.ok w->w.length+1 < (aA::rest).length:=fun w e=>by obtain ⟨x,bs,au⟩:=Hz eW w e;cases bs
           have qq:=hG _ rfl;simp only [bO.a'.g,eR.1,eR.2.1,eR.2.2,cx,z3,ke,↓aa,ab,simprocAttr];refine ⟨⟨AP,kh,aoF aI (aoF bO.M.next lC.next),m,l++[p],b1,wi,by rw [aoL,ao0];simp only [aoH] at qq;omega,fun w e=>by have:=key w e;rw [aoL,ao0];omega,cv,?_⟩,sD C cv fun w e=>by have:=key w e;omega⟩;rw [eW];exact U
         . have g0:(200 < (p.deep:Int))=False:=aoV (by omega);rw [aoI bk] at U;simp only [g0,a6.a'.g,eR.1,eR.2.1,eR.2.2,ke,↓aa,ab,simprocAttr];refine aY (iy a6.C C0) ?_;rintro x iZ ⟨m5,b1,eW,bW⟩;have bO:=a6.call m5 bW;have lV:=hq O bO.M (by omega) (by omega);obtain ⟨v6,hR,cx,wi,lC,_,_⟩:=pf lV (bO.bg.eU (eX:=Fr g.next) fun b q=>q.1) (lg O (aoz _)) aI bO.M.next (by omega)
           have cv:dz W s.length ar.next hR v b1 0:=ch.own bO.C lC (fun b q=>q.1)
           have kh:=oa (A.mod bO.M (JN (by omega))) lC (.inl (by omega));have AP:Ext h hR:=((X.kL bO.M (fun b q=>by rw [show b=ao ar.next from q,dh];omega)).kL lC (fun b q=>aoF (by omega) q.1));have key:∀w,b1=.ok w->w.length+1 < (aA::rest).length:=fun w e=>by obtain ⟨x,bs,au⟩:=Hz eW w e;have:=Gk x bs;omega
           have qq:=hG _ rfl;simp only [bO.a'.g,eR.1,eR.2.1,eR.2.2,cx,z3,ke,↓aa,ab,simprocAttr];refine ⟨⟨AP,kh,aoF aI (aoF bO.M.next lC.next),m,l++[p],b1,wi,by rw [aoL,ao0];simp only [aoH] at qq;omega,fun w e=>by have:=key w e;rw [aoL,ao0];omega,cv,?_⟩,sD C cv fun w e=>by have:=key w e;omega⟩;exact iW (r:=.ok bu) U eW
end
theorem SY:∀(N:Nat),(∀(t:aP),2 * t.size<N->∀(aj ws:List V) (h:ah),ev Any h t.enc aj->ev Any h t.enc ws->dY Tryz.prog 31 [.agg aj,.agg ws] h fun x ae=>x=.bool true/\Ext h ae)/\
 (∀(l:List aP),2 * h2 l+1<N->∀(v w:V) (h:ah),e_ Any h 5 (l.map aP.enc) v->e_ Any h 5 (l.map aP.enc) w->dY Tryz.prog 11 [v,w] h fun x ae=>x=.bool true/\Ext h ae)
 | 0=>⟨fun t q=>by omega,fun l q=>by omega⟩
 | N+1=>by
   obtain ⟨ad9,ad'⟩:=SY N;refine ⟨fun t al aj ws h H eY=>?_,fun l al v w h L mN=>?_⟩
   . obtain ⟨aC,rfl,L,_⟩:=aP.open H;obtain ⟨wl,rfl,mN,_⟩:=aP.open eY;have dH:=size_eq t;have ol:=L.one;have zV:=mN.one;refine X3.z rfl (cm ?_);unfold NK;obtain ⟨ad,an,aO,bz⟩:=fS h [.int .i64 t.k,.int .i64 t.n,.int .i64 t.a,.str t.s,aC];obtain ⟨ag,av,bs,fu⟩:=fS ad [.int .i64 t.k,.int .i64 t.n,.int .i64 t.a,.str t.s,wl];have p7:=bz.ext bs;simp only [ol.1,ol.2.1,zV.1,zV.2.1,an,av,p7.g,fu.g,aqj,↓aa,ab,simprocAttr];refine aY (ad' t.l (by omega) aC wl ag (L.ext (aO.trans bs)) (mN.ext (aO.trans bs))) ?_;rintro x ar ⟨rfl,cT⟩;simp only [↓aa,ab,simprocAttr];exact (aO.trans bs).trans cT
   . have aG:=L.len;have k7:=mN.len;have hle:=L.le;rw [ao6] at aG hle k7;refine W4.z rfl (cm ?_);unfold MI;simp only [aG,k7,↓aa,ab,simprocAttr];refine gb (fun r g=>r 0=v/\r 1=w/\∃i:Nat,r 5=.int .i64 i/\i<=l.length/\Ext h g) (fun r g=>l.length - (r 5).toN) ?_ ?_
     . exact ⟨by simp only [↓aa,cM,simprocAttr],by simp only [↓aa,cM,simprocAttr],0,by simp only [↓aa,cM,simprocAttr]<;>rfl,by omega,Ext.refl h⟩
     rintro r g ⟨aW,cJ,i,b1,aJ,E⟩;by_cases a7:i<l.length
     . have g0:((i:Int) < (l.length:Int))=True:=aoU (by omega);obtain ⟨b,off,ul,l5,X,Dx,ld⟩:=aP.EX (L.ext E) (k:=.i64) a7;obtain ⟨c2,an6,aoe,ad8,Vj,am6,Q5⟩:=aP.EX (mN.ext E) (k:=.i64) a7;have d1:=ld g (Ext.refl g);have d2:=Q5 g (Ext.refl g);have kS:=uF a7 (by unfold top at hle;omega);have dH:=Kt (apQ a7);simp only [aW,cJ,b1,aG,g0,l5,ad8,d1,d2,↓aa,ab,simprocAttr];refine aY (ad9 l[i] (by omega) _ _ g X Vj) ?_;rintro x g2 ⟨rfl,bs⟩;have d3:=ld g2 bs;have d4:=Q5 g2 bs;simp only [aW,cJ,b1,kS,d1,d2,d3,d4,↓aa,ab,simprocAttr];exact ⟨⟨i+1,rfl,a7,E.trans bs⟩,by omega⟩
     . have g0:((i:Int) < (l.length:Int))=False:=aoV (by omega);simp only [aW,cJ,b1,aG,g0,↓aa,ab,simprocAttr];exact E
theorem SZ (l:List aP) (v w:V) (h:ah) (L:e_ Any h 5 (l.map aP.enc) v) (mN:e_ Any h 5 (l.map aP.enc) w):dY Tryz.prog 11 [v,w] h fun x ae=>x=.bool true/\Ext h ae:=(SY _).2 l (Nat.lt_succ_self _) v w h L mN
def A9:cb:=
 cb.seq (cb.seq (cb.cA [⟨(some 6),.gM (.t 2),none,[2]⟩,
  ⟨(some 7),.bin (.lZ false 5) (.t 6) (.c .nilIface),none,[6]⟩])
  (cb.cond (.t 7)
   (cb.ret)
   (cb.skip)))
 (cb.seq (cb.cA [⟨(some 9),.gM (.t 2),none,[2]⟩,
   ⟨(some 10),.yE 54 (some (.agg [(.int .i64 0),(.int .i64 0)])) true (.t 9),none,[9]⟩,
   ⟨(some 8),.gM (.t 10),none,[10]⟩,
   ⟨(some 11),.ext (.t 8) 0,none,[8]⟩,
   ⟨(some 12),.ext (.t 8) 1,none,[8]⟩,
   ⟨(some 3),.new [(.int .i64 0),(.int .i64 0)],none,[]⟩,
   ⟨none,.st 2 (.t 3) (.t 11),none,[3,11]⟩,
   ⟨(some 4),.gM (.t 12),none,[12]⟩])
 (cb.seq (cb.seq (cb.cA [⟨(some 13),.gM (.t 4),none,[4]⟩,
   ⟨(some 14),.un .not (.t 13),none,[13]⟩])
  (cb.cond (.t 14)
   (cb.cA [⟨(some 15),.gM (.t 2),none,[2]⟩,
     ⟨none,.fY (.t 15),none,[15]⟩])
   (cb.skip)))
 (cb.draw [⟨(some 16),.iI 0 (.t 3),none,[3]⟩,
   ⟨(some 17),.k9 2 (.t 16),none,[16]⟩,
   ⟨none,.st 1 (.t 0) (.c .cL),none,[0]⟩,
   ⟨none,.st 2 (.t 1) (.t 17),none,[1,17]⟩] [(1,[2,3])] [] [])))
theorem XN:((Tryz.f22.body.bind CW).map fun s=>(s.d,s.e,rx s.x,fN Tryz.prog 18 s.rest))=some (5,2,.t 5,A9):=by kernel_rfl
theorem XM:(Tryz.f22.ntmps,jR Tryz.prog 18 Tryz.f22.results.toList,A9.plain)=(18,[],true):=by kernel_rfl
theorem SA {args:List V} {u:Option V} {h:ah} {K:Option V->ah->Prop} (aG:Nat.ble args.length 18=true)
 (H:gz Tryz.prog A9 (((a1.bd args).set (some 5) (u.getD .nilIface)).set (some 2) (u.getD .nilIface)) h fun e r ae=>e.ends/\∃aj,hs r ae []=some aj/\K none ae):pt Tryz.prog 22 args u h K:=by
 have q:=XN;have av:=XM;simp only [apy] at av;obtain ⟨fX,lE,n3⟩:=av;cases ai:Tryz.f22.body with
 | none=>rw [ai] at q;cases q
 | some c=>
   rw [ai] at q;cases al:CW c with
   | none=>simp only [Option.bind_some,al,Option.map_none] at q;cases q
   | some nr=>
     simp only [Option.bind_some,al,apu,aoC,apy] at q;obtain ⟨d1,d2,d3,d4⟩:=q;refine Z1 follows zN Tryz.func22 ai (by rw [fX];exact (by decide:Nat.ble 18 top=true)) (by rw [fX];exact aG) al (by rw [fX,d1,d2];exact (by decide:(hn 18 (some 5)&&hn 18 (some 2))=true)) (by first | exact d4 | (rw [fX];exact d4)) (by first | (rw [fX];exact lE) | exact lE) n3 ?_;unfold CV;rw [d1,d2,d3];exact H
theorem aaI:(fp.lZ false 5).run Tryz.prog .nilIface .nilIface=some (.bool true):=by kernel_rfl
theorem aaJ (v:V):(fp.lZ false 5).run Tryz.prog (.iface 54 v) .nilIface=some (.bool false):=rfl
theorem V4 (z v:V):wq 54 (some z) true (.iface 54 v)=some (.tuple [v,.bool true]):=rfl
theorem ahx {a b:Nat} {h:ah}:pt Tryz.prog 22 [.ptr (ao a) 0,.ptr (ao b) 0] none h fun fx ae=>fx=none/\ae=h:=by refine SA rfl (cm ?_);unfold A9;simp only [Option.getD,aaI,↓aa,ab,simprocAttr]
theorem K_ {a b:Nat} {h:ah} {x y z:V} (e:Int × Nat) (A:Has h a [x]) (B:Has h b [y,z]) (acb:a≠b):pt Tryz.prog 22 [.ptr (ao a) 0,.ptr (ao b) 0] (some (cF e)) h fun fx ae=>fx=none/\∃g,Ext h g/\ae=(g.set (ao a) (.bd [.cL] 0 false)).set (ao b) (.bd [.int .i64 e.1,.int .i64 (e.2:Nat)] 0 false):=by refine SA rfl (cm ?_);unfold A9;obtain ⟨ad,an,aO,bz⟩:=fz h [.int .i64 0,.int .i64 0] [.int .i64 e.1,.int .i64 (e.2:Nat)];have jw:=A.ext aO;have h7:=B.ext aO;have T7:=h7.set (m:=a) acb.symm (.bd [.cL] 0 false);have iI:(a=h.next)=False:=aoV (by have:=A.lt;omega);have D8:(b=h.next)=False:=aoV (by have:=B.lt;omega);simp only [iI,D8,Option.getD,cF,aaJ,aeu,V4,an,bz.g,jw.g,T7.g,↓aa,ab,simprocAttr];exact ⟨ad,aO,rfl⟩
section
variable {B hg:Nat} {G F:aN->Prop} {h:ah} {size:Nat} {es:List (List D)} {v dc:V} {l:List aP} {p:aP}
theorem ala (a u c:List V) (h:u.length=c.length):jU (a++u) a.length c=a++c:=by unfold jU;rw [List.take_left,ao_ (by rw [aoL];omega),aoX]
theorem aiM {ds ej:List D} {cs:List V} (H:dB B G h size (es++[ej]) v) (E:ev (fun b=>G b/\¬v.bp b) h ds cs) (jA:cs.length=size):
 ∃b off ae,j9 size v (.int .i64 es.length)=some (.ptr b off)/\v.bp b/\qY size h (.ptr b off) (.agg cs)=some ae/\dB B G ae size (es++[ds]) v/\Mod v.bp h ae:=by
 obtain ⟨us,a,b,c,d⟩:=H.ex;rw [aoL,ao0] at b a;have EL:es.length<us.length:=by omega
 obtain ⟨vV,nt,rfl⟩:∃vV nt,us=vV++[nt]:=⟨us.take es.length,us[es.length],by have:=ap6 es.length us;rw [apa EL,ao_ (by omega)] at this;exact this.symm⟩;have EK:vV.length=es.length:=by simpa using b
 have adN:nt.length=size:=c nt (by simp);have tu:vV.flatten.length=es.length * size:=by
  rw [<-EK];have:∀l:List (List V),(∀u ∈ l,u.length=size)->l.flatten.length=l.length * size:=by
   intro l
   induction l with
   | nil=>intro _;simp
   | cons x l cc=>intro bP;rw [apI,aoL,cc fun u hu=>bP u (apr _ hu),bP x (apE ..),aoH,apl];omega
  exact this vV fun u hu=>c u (by simp [hu])
 obtain ⟨ck,off,ae,an,av,aB,bt,ca⟩:=a.put (k:=.i64) (i:=es.length) (by omega) (y:=.agg cs) jA E.gV;refine ⟨ck,_,ae,an,av,aB,⟨vV++[cs],?_,by simp [EK],?_,?_⟩,ca⟩
 . rw [aoL,ao0];have aO:jU (vV++[nt]).flatten (es.length * size) (V.agg cs).cells=(vV++[cs]).flatten:=by
    rw [<-tu,aqe,aqe,List.flatten_singleton,List.flatten_singleton];exact ala _ _ _ (by rw [adN];exact jA.symm)
   rw [aO] at bt;exact bt
 . intro u hu;rcases List.mem_append.1 hu with hu | hu
   . exact c u (by simp [hu])
   . rw [apz] at hu;subst hu;exact jA
 . intro i e u aO bs;have hX:∀b,(G b/\¬v.bp b)->Old h b->¬v.bp b/\(G b/\¬v.bp b):=fun b q _=>⟨q.2,q⟩;rcases yX aO with ⟨ad,aO⟩ | ⟨ad,rfl⟩
   . rcases yX bs with ⟨ag,bs⟩ | ⟨ag,rfl⟩
     . exact (d i e u (by rw [apb ad];exact aO) (by rw [apb ag];exact bs)).mod ca hX
     . omega
   . rcases yX bs with ⟨ag,bs⟩ | ⟨ag,rfl⟩
     . omega
     . exact E.mod ca hX
def TS:aP:=.mk 0 0 0 [] []
theorem amO (F:aN->Prop) (h:ah):ev F h TS.enc b8:=(iR F h 0 0 0 (aoQ _)).cs
theorem aiQ (O:dB B (Fr B) h 5 (l.map aP.enc) dc) (P:dt (Fr hg) h p v) (bZ:∀b,dc.bp b->dP b<hg) (I_:∀b,Fr hg b->Old h b->True) (cd:B<=hg) (wR:hg<=h.next) (aG:l.length<=3000000):
 ∃ea ad b off ag,kj 5 dc (.slice (ao h.next) 0 1 1) (h.new (.bd b8 0 false))=.val ea ad/\Mod dc.bp h ad/\j9 5 ea (.int .i64 l.length)=some (.ptr b off)/\ea.bp b/\qY 5 ad (.ptr b off) (.agg (vcs p v))=some ag/\dB B (Fr B) ag 5 ((l++[p]).map aP.enc) ea/\
  Mod (fun b=>dc.bp b) h ag/\(∀b,ea.bp b->dc.bp b\/h.next<dP b):=by
 obtain ⟨ea,ad,an,av,aB,bt,ca⟩:=O.add (ds:=TS.enc) (cs:=b8) (amO _ _) (by decide) (aoF cd wR) (by rw [ao6];unfold top;omega) rfl
 have ai:∀b,Fr hg b/\Old h b->Fr B b/\¬ea.bp b:=fun b q=>⟨aoF cd q.1,fun z=>by
  rcases ca b z with z | z
  . have:=bZ b z;have:=q.1;unfold Fr at this;omega
  . have:=q.2;unfold Old at this;omega⟩
 have E:ev (fun b=>Fr B b/\¬ea.bp b) ad p.enc (vcs p v):=(P.cu.cs.mod aB (eX:=fun b=>Fr hg b/\Old h b) fun b q o=>⟨fun z=>by have:=bZ b z;have:=q.1;unfold Fr at this;omega,q⟩).eU ai;obtain ⟨b,off,ag,cg,cY,eS,iP,np⟩:=aiM av E rfl;rw [ao6] at cg;refine ⟨ea,ad,b,off,ag,an,aB,cg,cY,eS,by rw [aqf];exact iP,⟨aoF aB.next np.next,fun c o n=>?_⟩,ca⟩;refine (np.get c (aB.cu o) fun z=>?_).trans (aB.get c o n);rcases ca c z with z | z
 . exact n z
 . unfold Old at o;omega
end
section
variable {W:List aq} {af ak:Nat} {h ae:ah} {d:Nat} {ws:List aq} {aC:V} {i hg:Nat} {p:aP} {v:V}
theorem Z_ (C:ed W af ak h d ws aC i) (P:dt (Fr hg) h p v) (dH:p.size<=1000000000) {a0:Nat} (b5:p.a=(a0:Nat)) (aF:kB W af (271,a0)):jW Tryz.prog 24 [.ptr (ao ak) 0,.agg (vcs p v)] h (fun x ae=>p.deep<=200/\Ext h ae) (fun x ae=>200<p.deep/\s7 (α:=Unit) W af ak h (.error (271,a0)) x ae):=by
 refine XV.x rfl (cm ?_);unfold NC;have o:=P.one;obtain ⟨ad,an,aO,bz⟩:=fS h (vcs p v);have U1:=P.ext aO;simp only [o.1,o.2.1,o.2.2,an,bz.g,↓aa,ab,simprocAttr];refine aY (OM 1000000000 p dH (aoz _) _ ad (U1.cs.eU fun _ _=>trivial)) ?_;rintro x ag ⟨rfl,bs⟩;have fu:=bz.ext bs;have bx:=(C.ext aO).ext bs;by_cases bk:200<p.deep
 . have f0:((200:Int) < (p.deep:Int))=True:=aoU (by omega);simp only [f0,fu.g,b5,↓aa,ab,simprocAttr];refine cH (AY (α:=Unit) bx 271 a0 aF) (fun _ _ q=>q.elim) ?_;rintro x ar ⟨e,he,rfl,m3,bn⟩;cases he;simp only [cF,aX,↓aa,ab,simprocAttr];exact ⟨bk,(271,a0),rfl,rfl,((aO.trans bs).mod _).trans m3,bn⟩
 . have f0:((200:Int) < (p.deep:Int))=False:=aoV (by omega);simp only [f0,aX,↓aa,ab,simprocAttr];exact ⟨by omega,aO.trans bs⟩
end
def GI (s:List UInt8) (h:ah) (x:V) (ae:ah):Prop:=Ext h ae/\match nq s with
 | .ok l=>∃v,x=.tuple [v,.agg [.int .i64 0,.int .i64 0]]/\e_ (Fr h.next) ae 5 (l.map aP.enc) v/\l.length<=65536
 | .error e=>x=.tuple [.cL,.agg [.int .i64 e.1,.int .i64 (e.2:Nat)]]/\∀W,jL s=.ok W->kB W s.length e
theorem nL {ak n:Nat} (h:n<ak):¬b3 ak (ao n):=fun z=>by have Dg:ao n=ao ak:=z;rw [lJ] at Dg;omega
theorem KY:(2=im)=False:=aoV (by decide)
theorem KZ:(3=im)=False:=aoV (by decide)
theorem aad {cs xs:List V} {s:V}:wE (.func 22 cs) xs s=some (.tuple (.func 22 (xs++cs)::s.list)):=OO (show Nat.beq 22 eA=false by decide)
theorem Kj (s:List UInt8) (h:ah):dY Tryz.prog 9 [.str s] h (GI s h):=by
 have d':=R9 s;unfold GI;generalize a8:nq s=res at d' ⊢;refine jW.ZQ (YQ.x rfl (cm ?_));unfold Ol;obtain ⟨ad,an,aO,bz⟩:=fS h [.cL];obtain ⟨ag,av,bs,fu⟩:=fS ad [.int .i64 0,.int .i64 0];simp only [an,av,↓aa,ab,simprocAttr];refine aY (agL s ag) ?_;rintro x ar ⟨cT,au⟩;have lq:=(bz.ext bs).ext cT;have mN:=fu.ext cT;have fX:=aO.next
 have nF:h.next≠ad.next:=by have:=bz.lt;omega
 have M2:Ext h ar:=(aO.trans bs).trans cT;cases aG:jL s with
 | error e=>
   rw [aG] at au;have he:=JA aG;have U:res=.error e:=by rw [<-a8];unfold nq;rw [aG]
   subst au;have f0:(e.1=0)=False:=aoV (by omega);have lT:=mN.put [.int .i64 e.1,.int .i64 (e.2:Nat)];have qc:=lq.set (m:=ad.next) nF (.bd [.int .i64 e.1,.int .i64 (e.2:Nat)] 0 false);have rY:=qc.put [.cL];have uQ:=lT.set (m:=h.next) nF.symm (.bd [.cL] 0 false);have q3:=uQ.put [.int .i64 e.1,.int .i64 (e.2:Nat)];have UM:=rY.set (m:=ad.next) nF (.bd [.int .i64 e.1,.int .i64 (e.2:Nat)] 0 false);simp only [lq.g,mN.g,lT.g,qc.g,rY.g,uQ.g,q3.g,UM.g,f0,aX,eT,cD,↓aa,ab,simprocAttr];rw [U];exact ⟨((M2.set fX _).set (aoz _) _).set fX _,rfl,fun _=>trivial⟩
 | ok W=>
   rw [aG] at au;obtain ⟨v,rfl,S⟩:=au;obtain ⟨g1,g2,g3,g4⟩:=Rf aG;have U:pE s.length (aU s.length (ml W)) (ml W) [] W=res:=by rw [<-a8];unfold nq;rw [aG]
   have lT:=mN.put [.int .i64 0,.int .i64 0];have qc:=lq.set (m:=ad.next) nF (.bd [.int .i64 0,.int .i64 0] 0 false);have x8:=S.v.one;generalize vj:ar.set (ao ad.next) (.bd [.int .i64 0,.int .i64 0] 0 false)=fl at lT qc;obtain ⟨iZ,ca,e7,iB⟩:=fS fl [v,.int .i64 (0:Nat),.int .i64 s.length,.int .i64 (0:Nat)];simp only [Int.natCast_zero] at ca;simp only [lq.g,mN.g,vj,lT.g,qc.g,ca,x8.1,x8.2.1,x8.2.2,aX,eT,cD,aad,ao5,↓aa,ab,simprocAttr];have uJ:Ext h fl:=by rw [<-vj];exact M2.set fX _
   have Lq:Ext h iZ:=uJ.trans e7;have n4:ad.next<fl.next:=by have:=lT.lt;omega
   have UI:=lT.ext e7;have UK:=qc.ext e7;have L9:dA ag.next fl 4 v W.length (gX W):=by rw [<-vj];refine S.mod ((Mod.refl (fun b=>b=ao ad.next) ar).set (fun _=>rfl) _) fun b q z=>?_;have:=S.base q;rw [show b=ao ad.next from z,dh] at this;have:=fu.lt;omega
   have Jc:∀b,v.bp b->Old fl b:=fun b q=>L9.v.cu q;have bW:ed W s.length fl.next iZ 0 W v 0:=⟨iB,(L9.ext e7).v,fun q=>dj (aoz _) (Jc _ q),aoQ _,by rw [apm],by omega,by omega,fun w hw=>by have:=(FG (g3 w hw).2).2.2;omega,fun w hw=>(FG (g3 w hw).2).2.1⟩
   refine gb (fun r g=>r 2=.ptr (ao h.next) 0/\r 3=.ptr (ao ad.next) 0/\r 4=v/\r 5=.ptr (ao fl.next) 0/\r 17179869185=.tuple [.func 22 [.ptr (ao h.next) 0,.ptr (ao ad.next) 0]]/\Ext h g/\Has g ad.next [.int .i64 0,.int .i64 0]/\iZ.next<=g.next/\∃m l dc ws i,Has g h.next [dc]/\dB iZ.next (Fr iZ.next) g 5 (List.map aP.enc l) dc/\ed W s.length fl.next g 0 ws v i/\l.length+ws.length<=W.length/\pE s.length (aU s.length (ml W)) m l ws=res) (fun _ g=>qF W fl.next g) ?_ ?_
   . exact ⟨by simp only [↓aa,cM,simprocAttr],by simp only [↓aa,cM,simprocAttr],by simp only [↓aa,cM,simprocAttr],by simp only [↓aa,cM,simprocAttr],by simp only [↓aa,cM,simprocAttr],Lq,UI,aoz _,_,[],_,W,0,UK,dB.nil _ _ _ _,bW,by simp,U⟩
   rintro r g ⟨bc,bV,cU,b1,sL,X,lT,RD,m,l,dc,ws,i,lq,O,C,hlen,U⟩;cases m with
   | zero=>exact (d' U.symm).elim
   | succ m=>
     simp only [pE] at U;have bX:=iB.lt;have Ov:=C.len;cases ws with
     | nil=>
       have aJ:=C.done;have f0:((i:Int) < (W.length:Int))=False:=aoV (by omega);rw [aoN rfl] at U;have UD:=lq.put [dc];have LM:=lT.set (m:=h.next) nF.symm (.bd [dc] 0 false);have UH:=LM.put [.int .i64 0,.int .i64 0];have UE:=UD.set (m:=ad.next) nF (.bd [.int .i64 0,.int .i64 0] 0 false);have cX:=O.one;simp only [bc,bV,cU,b1,sL,C.at_.g,Ov,f0,lq.g,LM.g,cX.1,cX.2.1,cX.2.2,aX,eT,kR,cD,↓aa,ab,simprocAttr];refine ahx.mono ?_;rintro u ae ⟨rfl,rfl⟩;simp only [UE.g,UH.g,bc,bV,cX.1,cX.2.1,cX.2.2,aX,eT,cD,↓aa,ab,simprocAttr];rw [<-U];refine ⟨(X.set (aoz _) _).set fX _,dc,rfl,?_,by have:=hlen;simp only [aoS] at this;omega⟩;have UR:=Fl (Fl O (n:=h.next) (by have:=lT.lt;have:=e7.next;omega) (.bd [dc] 0 false)) (n:=ad.next) (by have:=e7.next;omega) (.bd [.int .i64 0,.int .i64 0] 0 false);exact (ud UR (by simp only [aoS] at hlen;omega)).eU fun b q=>aoF Lq.next q
     | cons aA rest=>
       obtain ⟨aJ,_⟩:=C.here;have f0:((i:Int) < (W.length:Int))=True:=aoU (by omega);rw [aoI (by simp)] at U;simp only [bc,bV,cU,b1,sL,C.at_.g,Ov,f0,↓aa,ab,simprocAttr];have HX:n5 s.length (aU s.length (ml W)) m (aA::rest)≠.error b6:=fun q=>by rw [q] at U;exact d' U.symm
       have aco:fl.next<g.next:=by omega
       refine cH (Z5 (vH W s.length fl.next (ml W)) m (aA::rest) g v i C HX) ?_ ?_
       rotate_left
       . rintro x bA ⟨e,he,rfl,m6,_,_,_,_,_,j7⟩;simp only [cF,aX,eT,kR,cD,bc,bV,cU,b1,sL,↓aa,ab,simprocAttr];refine (K_ e (lq.mod m6 (nL (by have:=e7.next;omega))) (lT.mod m6 (nL (by omega))) nF).mono ?_;rintro u ae ⟨rfl,mq,E,rfl⟩;have AQ:=(((lq.mod m6 (nL (by omega))).ext E).put [.cL]).set (m:=ad.next) nF (.bd [.int .i64 e.1,.int .i64 (e.2:Nat)] 0 false);have AR:=(((lT.mod m6 (nL (by omega))).ext E).set (m:=h.next) nF.symm (.bd [.cL] 0 false)).put [.int .i64 e.1,.int .i64 (e.2:Nat)];simp only [AQ.g,AR.g,bc,bV,KY,KZ,aX,eT,cD,↓aa,ab,simprocAttr];rw [he] at U;rw [<-U];exact ⟨(((X.kL m6 (fun b q=>by rw [show b=ao fl.next from q,dh];have:=uJ.next;omega)).trans E).set (aoz _) _).set fX _,rfl,fun uV qo=>by cases qo;exact j7⟩
       rintro x bA ⟨p,a_,uE,i1,rd,rfl,oN,m6,cv⟩;rw [rd] at U;simp only [bB] at U;have z':=Hx rd;have dH:=OI z';obtain ⟨b9,cJ,Bt,xe⟩:=OH z';have anP:=C.p6;have fm:=oN.one;obtain ⟨cl,dq,dR,rW⟩:=fz bA b8 (vcs p uE);have yx:=oN.ext dR;have eP:=cv.ext dR;simp only [fm.1,fm.2.1,fm.2.2,dq,rW.g,bc,bV,cU,b1,sL,↓aa,ab,simprocAttr];refine cH (Z_ eP yx (by omega) xe (by have q:=C.pl (k:=271) (.inr rfl);rw [Bt] at q;exact q)) ?_ ?_
       rotate_left
       . rintro x er ⟨bk,e,he,rfl,m8,_,_,_,_,_,j7⟩;cases he;simp only [cF,aX,eT,kR,cD,bc,bV,cU,b1,sL,↓aa,ab,simprocAttr];have Cu:Mod (b3 fl.next) g er:=m6.trans ((dR.mod _).trans m8);refine (K_ (271,b9.pos) (lq.mod Cu (nL (by omega))) (lT.mod Cu (nL (by omega))) nF).mono ?_;rintro u ae ⟨rfl,mq,E,rfl⟩;have AQ:=(((lq.mod Cu (nL (by omega))).ext E).put [.cL]).set (m:=ad.next) nF (.bd [.int .i64 271,.int .i64 (b9.pos:Nat)] 0 false);have AR:=(((lT.mod Cu (nL (by omega))).ext E).set (m:=h.next) nF.symm (.bd [.cL] 0 false)).put [.int .i64 271,.int .i64 (b9.pos:Nat)];simp only [AQ.g,AR.g,bc,bV,KY,KZ,aX,eT,cD,↓aa,ab,simprocAttr];rw [aoN bk,xe] at U;rw [<-U];exact ⟨(((X.kL Cu (fun b q=>by rw [show b=ao fl.next from q,dh];have:=uJ.next;omega)).trans E).set (aoz _) _).set fX _,by simp,fun uV qo=>by cases qo;exact j7⟩
       rintro x er ⟨bk,f'⟩;have gh:=eP.ext f';rw [aoI (by omega)] at U;simp only [bc,bV,cU,b1,sL,↓aa,ab,simprocAttr];refine cH (kM gh C0) ?_ ?_
       rotate_left
       . rintro x fB ⟨e,he,rfl,m9,_,_,_,_,_,j7⟩;simp only [cF,aX,eT,kR,cD,bc,bV,cU,b1,sL,↓aa,ab,simprocAttr];have Cv:Mod (b3 fl.next) g fB:=m6.trans ((dR.mod _).trans ((f'.mod _).trans m9));refine (K_ e (lq.mod Cv (nL (by omega))) (lT.mod Cv (nL (by omega))) nF).mono ?_;rintro u ae ⟨rfl,mq,E,rfl⟩;have AQ:=(((lq.mod Cv (nL (by omega))).ext E).put [.cL]).set (m:=ad.next) nF (.bd [.int .i64 e.1,.int .i64 (e.2:Nat)] 0 false);have AR:=(((lT.mod Cv (nL (by omega))).ext E).set (m:=h.next) nF.symm (.bd [.cL] 0 false)).put [.int .i64 e.1,.int .i64 (e.2:Nat)];simp only [AQ.g,AR.g,bc,bV,KY,KZ,aX,eT,cD,↓aa,ab,simprocAttr];rw [he] at U;rw [<-U];exact ⟨(((X.kL Cv (fun b q=>by rw [show b=ao fl.next from q,dh];have:=uJ.next;omega)).trans E).set (aoz _) _).set fX _,rfl,fun uV qo=>by cases qo;exact j7⟩
       rintro x fB ⟨bu,mb,m9,i9,fQ⟩;rw [mb] at U;simp only [bB] at U;have U3:=yx.ext f';have yy:=U3.mod m9 aco;have oE:=(rW.ext f').mod m9 (bU (by have:=m6.next;omega));have oL:=hq (((hq O m6 (by omega) (by omega)).ext dR).ext f') m9 (by omega) (by omega);have Vg:Ext h fB:=(((X.kL m6 (fun b q=>by rw [show b=ao fl.next from q,dh];have:=uJ.next;omega)).trans dR).trans f').kL m9 (fun b q=>by rw [show b=ao fl.next from q,dh];have:=uJ.next;omega);have AF:=((lq.mod m6 (nL (by omega))).ext dR |>.ext f').mod m9 (nL (by omega));have UB:=((lT.mod m6 (nL (by omega))).ext dR |>.ext f').mod m9 (nL (by omega));have P6:g.next<=fB.next:=aoF m6.next (aoF dR.next (aoF f'.next m9.next))
       obtain ⟨ea,iJ,b,off,lv,aj3,E7,aj6,iA,ma,GB,m11,Mk⟩:=aiQ oL yy (lg O (aoz _)) (fun _ _ _=>trivial) RD P6 (by omega);have agz:k' dc=some (.int .i64 l.length):=by have:=oL.len;rwa [ao6] at this
       have JQ:∀n,n<iZ.next->¬dc.bp (ao n):=fun n aI q=>by have:=O.base q;rw [dh] at this;omega
       have anC:fl.next<iZ.next:=bX
       have anu:g.next<=bA.next:=m6.next
       have n6:¬dc.bp (ao bA.next):=fun q=>by have:=lg O (aoz _) _ q;rw [dh] at this;omega
       have LK:=AF.mod E7 (JQ _ (by omega));have LL:=AF.mod m11 (JQ _ (by omega));have UC:=UB.mod m11 (JQ _ (by omega));have yl:=oE.mod E7 n6;have Vf:Ext h lv:=Vg.kL m11 fun b q=>aoF Lq.next (O.base q)
       have rU:=GB.one;have D8:(fB.next=h.next)=False:=aoV (by have:=AF.lt;omega);have Pb:(fB.next=bA.next)=False:=aoV (by have:=oE.lt;omega);have qp:iZ.next<=dP b:=GB.base iA
       have Ep:b≠ao h.next:=fun z=>by rw [z,dh] at qp;omega
       have GH:=yy.one;simp only [bc,bV,cU,b1,sL,aeP,AF.g,oE.g,agz,aj3,aj6,ma,LL.g,LK.g,yl.g,D8,Pb,rU.1,rU.2.1,rU.2.2,GH.1,GH.2.1,GH.2.2,↓aa,ab,simprocAttr];rw [afx];unfold Dz;refine ⟨⟨?_,?_⟩,?_⟩
       . simp only [vQ,aoH,aoS,Nat.reduceAdd,Nat.reduceSub,apq,aoR,bc,↓aa,ab,simprocAttr];exact Ep
       . simp only [List.length,List.take,Nat.reduceSub,Nat.reduceAdd,AF.g,oE.g,LK.g,yl.g,bc,bV,cU,b1,sL,D8,Pb,vf,↓aa,ab,simprocAttr]
       simp only [bc,bV,cU,b1,sL,↓aa,ab,simprocAttr];have uA:a_.length < (aA::rest).length:=by have:=H2 z';simp only [h2,aoS,aoH] at this ⊢;have:=Fy p;omega
       have vT:=zM mb;have lo:=bW.own fQ m11 fun b q=>O.base q;have v_:ed W s.length fl.next (lv.set (ao h.next) (.bd [ea] 0 false)) 0 bu v i9:=
        ⟨lo.at_.set (by omega) _,lo.c'.mod ((Mod.refl (fun b=>b=ao h.next) lv).set (fun _=>rfl) _) (fun b q z=>by
          have:=S.base q;rw [show b=ao h.next from z,dh] at this;have:=bs.next
          omega),lo.ap,lo.le,lo.eq,lo.nC,lo.wF,lo.fh,lo.num⟩
       refine ⟨⟨Vf.set (aoz _) _,UC.set nF.symm _,aoF RD (aoF P6 m11.next),m,l++[p],ea,bu,i9,LL.put _,Fl GB (by omega) _,v_,by rw [aoL];simp only [aoH,aoS] at *;omega,U⟩,?_⟩;rw [lD C,lD v_];omega
theorem HH (a b bF ck:Int):(fp.other .eql 30).run Tryz.prog (.agg [.int .i64 a,.int .i64 b]) (.agg [.int .i64 bF,.int .i64 ck])=some (.bool (decide (a=bF)&&decide (b=ck))):=by
 have h:(fp.other .eql 30).run Tryz.prog (.agg [.int .i64 a,.int .i64 b]) (.agg [.int .i64 bF,.int .i64 ck])=
  (match (bif Int.kk a bF then (bif Int.kk b ck then some true else some false) else some false) with
    | some b=>some (V.bool b)
    | none=>none):=by kernel_rfl
 rw [h];simp only [Bo];by_cases ad:a=bF<;>by_cases ag:b=ck<;>simp [ad,ag]
def Kc:aP:=.mk 38 0 17 [43] [.mk 24 0 17 [120] [],.mk 20 1 21 [] []]
def Kb:aP:=.mk 27 0 8 [] [.mk 11 0 12 [120] [],Kc]
def CK:aP:=.mk 52 0 0 [] [.mk 11 0 4 [102] [],Kb]
theorem ajG:nq [108,101,116,32,102,32,61,32,102,117,110,32,120,32,45,62,32,120,32,43,32,49,59,59]=.ok [CK]:=by kernel_rfl
theorem Wf:nq [108,101,116,32,120,32,61,32,49]=.error (270,9):=by kernel_rfl
theorem ajF (h:ah):dY Tryz.prog 20 [] h fun x ae=>∃v,x=.agg (vcs CK v)/\dt Any ae CK v/\Ext h ae:=by
 refine XE.z rfl (cm ?_);unfold Nn
 let F:aN->Prop:=fun b=>b≠ao h.next
 obtain ⟨ad,an,aO,bz⟩:=fS h b8;have hF:∀g:ah,ad.next<=g.next->F (ao g.next):=fun g q z=>by rw [lJ] at z;have:=bz.lt;omega
 obtain ⟨ag,av,bs,fu⟩:=fz ad b8 [.int .i64 24,.int .i64 0,.int .i64 17,.str [120],.cL];obtain ⟨ar,aB,cT,lT⟩:=xx (F:=F) (h:=ag) (size:=5) rfl rfl (iR F ag 24 0 17 (s:=[120]) (by unfold top;decide)).cs (iR F ag 20 1 21 (s:=[]) (aoQ _)).cs (hF ag bs.next);have gZ:dt F ar Kc _:=⟨lT,by show 1<=top;unfold top;decide⟩;obtain ⟨aT,bt,cO,eL⟩:=fz ar b8 [.int .i64 38,.int .i64 0,.int .i64 17,.str [43],.slice (ao ag.next) 0 2 2];have n3:=aoF bs.next cT.next
 obtain ⟨bE,ca,e7,rY⟩:=xx (F:=F) (h:=aT) (size:=5) rfl rfl (iR F aT 11 0 12 (s:=[120]) (by unfold top;decide)).cs (gZ.ext cO).cs (hF aT (aoF n3 cO.next));have jZ:dt F bE Kb _:=⟨rY,aoQ _⟩;obtain ⟨bA,cx,e3,kh⟩:=fz bE b8 [.int .i64 27,.int .i64 0,.int .i64 8,.str [],.slice (ao aT.next) 0 2 2];have CA:=aoF n3 (aoF cO.next e7.next);obtain ⟨cl,dq,dR,q3⟩:=xx (F:=F) (h:=bA) (size:=5) rfl rfl (iR F bA 11 0 4 (s:=[102]) (by unfold top;decide)).cs (jZ.ext e3).cs (hF bA (aoF CA e3.next));have yx:dt F cl CK _:=⟨q3,aoQ _⟩;have TR:=bs.trans (cT.trans (cO.trans (e7.trans (e3.trans dR))));have p7:=bz.ext TR;have ym:=fu.ext cT;have TW:=p7.put [.int .i64 52,.int .i64 0,.int .i64 0,.str [],.slice (ao bA.next) 0 2 2];simp only [vcs,aoW,ao5,Kc,Kb,bR] at aB ca dq;simp only [an,av,fu.g,aB,bt,eL.g,ca,cx,kh.g,dq,p7.g,TW.g,aX,↓aa,ab,simprocAttr];exact ⟨_,rfl,(yx.set (fun q=>q rfl) _).eU fun _ _=>trivial,(aO.trans TR).set (aoz _) _⟩
theorem aa1 (h:ah):dY Tryz.prog 21 [.str [108,101,116,32,120,32,61,32,49],.int .i64 270,.int .i64 9] h fun x ae=>x=.bool true/\Ext h ae:=by refine XH.z rfl (cm ?_);unfold c21;simp only [↓aa,ab,simprocAttr];refine aY (Kj _ h) ?_;rintro x ad ⟨aO,au⟩;rw [Wf] at au;obtain ⟨rfl,_⟩:=au;obtain ⟨ag,av,bs,fu⟩:=fz ad [.int .i64 0,.int .i64 0] [.int .i64 270,.int .i64 (9:Nat)];have z:(((9:Nat):Int))=9:=rfl;rw [z] at av fu;have eq:=HH 270 9 270 9;simp only [av,fu.g,eq,z,↓aa,ab,simprocAttr];exact aO.trans bs
theorem Mi (h:ah):dY Tryz.prog 7 [] h fun x ae=>x=.bool true/\Ext h ae:=by refine YF.z rfl (cm ?_);unfold N6;simp only [↓aa,ab,simprocAttr];refine aY (Kj _ h) ?_;rintro x ad ⟨aO,au⟩;rw [ajG] at au;obtain ⟨v,rfl,L,_⟩:=au;have ol:=L.one;obtain ⟨ag,av,bs,fu⟩:=fz ad [.int .i64 0,.int .i64 0] [.int .i64 0,.int .i64 0];have eq:=HH 0 0 0 0;simp only [ol.1,ol.2.1,ol.2.2,av,fu.g,eq,aqj,apG,↓aa,ab,simprocAttr];refine aY (ajF ag) ?_;rintro x ar ⟨uE,rfl,P,cT⟩;have op:=P.one;obtain ⟨aT,bt,cO,qc⟩:=sC (F:=Any) (h:=ar) (size:=5) rfl P.cs trivial;simp only [op.1,op.2.1,op.2.2,ol.1,ol.2.1,ol.2.2,bt,↓aa,ab,simprocAttr];refine aY (SZ [CK] v _ aT ((L.eU fun _ _=>trivial).ext (bs.trans (cT.trans cO))) qc) ?_;rintro x bE ⟨rfl,e7⟩;simp only [↓aa,ab,simprocAttr];refine aY (aa1 bE) ?_;rintro x bA ⟨rfl,e3⟩;simp only [↓aa,ab,simprocAttr];exact (aO.trans (bs.trans (cT.trans (cO.trans (e7.trans e3)))))
theorem Se (x:Int) (n:Nat) (aI:1<=n) (cQ:n<=1000000) (h:ah):dY Tryz.prog 8 [.int .i64 x,.int .i64 n] h fun y ae=>ae=h/\∃k:Nat,k<n/\y=.int .i64 k:=by
 refine YM.z rfl (cm ?_);unfold Oe;have f0:((n:Int)<1)=False:=aoV (by omega);have zf:(fp.int .rem).run Tryz.prog (.int .i64 x) (.int .i64 n)=some (.int .i64 (x.tmod n)):=Jr .i64 _ _ (by omega);have bT:x.tmod n<n:=Int.tmod_lt_of_pos _ (by omega);have a':-(n:Int)<x.tmod n:=by have:=Int.tmod_lt_of_pos (-x) (show (0:Int)<n by omega);rw [Int.neg_tmod] at this;omega
 have w:IntKind.i64.wrap (x.tmod n+n)=x.tmod n+n:=wrap_i64 (by omega) (by omega);by_cases aI:x.tmod n<0
 . simp only [f0,zf,aoU aI,w,↓aa,ab,simprocAttr];exact ⟨(x.tmod n+n).toNat,by omega,by rw [Int.toNat_of_nonneg (by omega)]⟩
 . simp only [f0,zf,aoV aI,w,↓aa,ab,simprocAttr];exact ⟨(x.tmod n).toNat,by omega,by rw [Int.toNat_of_nonneg (by omega)]⟩
def xY (s:List UInt8):List aP:=match nq s with
 | .ok l=>l
 | .error _=>[]
def ph (s:List UInt8):Int × Nat:=match nq s with
 | .ok _=>(0,0)
 | .error e=>e
theorem aiF {s:List UInt8} {h ae:ah} {x:V} (H:GI s h x ae):Ext h ae/\∃v,x=.tuple [v,.agg [.int .i64 (ph s).1,.int .i64 ((ph s).2:Nat)]]/\e_ Any ae 5 ((xY s).map aP.enc) v:=by
 unfold xY ph;obtain ⟨e,H⟩:=H;cases aF:nq s with
 | ok l=>rw [aF] at H;obtain ⟨v,rfl,L,_⟩:=H;exact ⟨e,v,rfl,L.eU fun _ _=>trivial⟩
 | error f=>rw [aF] at H;obtain ⟨rfl,_⟩:=H;exact ⟨e,.cL,rfl,e_.nil _ _ _⟩
theorem aiG {s:List UInt8} {h ae:ah} {x:V} (H:GM s h x ae):Ext h ae/\∃v,x=.tuple [v,.agg [.int .i64 (ph s).1,.int .i64 ((ph s).2:Nat)]]/\e_ Any ae 5 ((xY s).map aP.enc) v:=by
 unfold xY ph;obtain ⟨e,H⟩:=H;cases aF:nq s with
 | ok l=>rw [aF] at H;obtain ⟨v,rfl,L,_⟩:=H;exact ⟨e,v,rfl,L.eU fun _ _=>trivial⟩
 | error f=>rw [aF] at H;obtain rfl:=H;exact ⟨e,.cL,rfl,e_.nil _ _ _⟩
end
end Go.Proofs.YtahfljfikfkpnaaGreatDoor
