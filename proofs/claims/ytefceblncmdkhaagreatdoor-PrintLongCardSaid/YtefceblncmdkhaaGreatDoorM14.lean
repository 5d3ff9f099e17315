/- The chapter's functions, walked by the abstract machine: plain lemmas, no condition. Printed by a program from longer texts: names made short. -/
import Derived.Test.YtefceblncmdkhaaGreatDoorM12
import Derived.Test.YtefceblncmdkhaaGreatDoorM13
import Derived.Test.YtefceblncmdkhaaGreatDoorM8
import Derived.Test.YtefceblncmdkhaaGreatDoorM4
set_option linter.unusedSectionVars false
set_option linter.unusedSimpArgs false
set_option linter.unusedVariables false
set_option maxHeartbeats 64000000
noncomputable section
namespace Go.Proofs.YtefceblncmdkhaaGreatDoor
section
open Go bd
def mu (n:Nat):Prop:=∀(p:aS),p.size<=n->cX p->∀(b:Nat) (bg:V) (h:ah) (aP w:V) (ws:List bq),eK [bg] b h aP ws->hI (dS b) h bg->cj (dS b) h p.enc (bL p w)->ws.length+p.words.length<=1000000000->
 b' Tryz.prog 23 [.ptr (aC b) 0,.agg (bL p w)] h (ik [bg] b h aP ws p.words)
theorem hI.lone {F:aU->Prop} {h:ah} {v:V} (M:hI F h v):Lone v:=kL.lone M.i
theorem WB {pre:List V} {b:Nat} {h J bJ:ah} {aP jD:V} {ws h4:List bq} {cells:List V} (W:eK pre b h aP ws) (ag:h.new (.a_ cells 0 false)=J) (E:eN pre b J aP bJ jD h4):Has bJ h.next cells:=by
 subst ag;have A:Has (h.new (.a_ cells 0 false)) h.next cells:=⟨by rw [gD];omega,ju _⟩
 refine ⟨aou A.lt E.m.next,?_⟩;rw [E.get (hB A.lt) (fun e=>by have:=congrArg cR e;rw [dX,dX] at this;have:=W.lt;omega) (fun z=>by have:=W.o.v.cH z;unfold Old at this;rw [dX] at this;omega)];exact A.g
theorem iZ {pre:List V} {b:Nat} {h J bJ:ah} {aP jD:V} {ws h4:List bq} {cells:List V} (W:eK pre b h aP ws) (A:Has J h.next cells) (E:eN pre b J aP bJ jD h4):Has bJ h.next cells:=by refine ⟨aou A.lt E.m.next,?_⟩;rw [E.get (hB A.lt) (fun e=>by have:=congrArg cR e;rw [dX,dX] at this;have:=W.lt;omega) (fun z=>by have:=W.o.v.cH z;unfold Old at this;rw [dX] at this;omega)];exact A.g
theorem jr {F:aU->Prop} {p:aS} {h:ah} {w:V} (X:cj F h p.enc (bL p w)):cq F h 5 (p.l.map aS.enc) w:=by
 obtain ⟨e3,e,cN,_⟩:=aS.open X;obtain rfl:w=e3:=by simp only [bL,List.cons.injEq] at e;exact e.2.2.2.2.1
 exact cN
theorem B6 (t:Nat):bz.a_ [] t=.bad:=rfl
theorem V.BW:V.bad.list=[]:=rfl
theorem V.agH (l:List V):(V.tuple l).list=l:=rfl
theorem Gb {P:Program} {u:Option V} {h:ah} {K:Option V->ah->Prop}:mT P [] u h K=K u h:=rfl
theorem ak7 {P:Program} {f:FuncId} {args ds:List V} {u:Option V} {h:ah} {K:Option V->ah->Prop}:mT P (.func f args::ds) u h K=u5 P f args u h fun eV aa=>mT P ds eV aa K:=rfl
theorem Zg {P:Program} {f:FuncId} {args:List V} {u:Option V} {h:ah} {K mr:Option V->ah->Prop} (H:u5 P f args u h K) (k:∀u h,K u h->mr u h):u5 P f args u h mr:=by obtain ⟨eV,aa,a,b⟩:=H;exact ⟨eV,aa,a,k _ _ b⟩
theorem UQ {n:Nat} (bP:mu n) (p:aS) (aM:p.size<=n) (al:cX p) (t:Bool) (b:Nat) (bg:V) (h:ah) (aP w:V) (ws:List bq) (W:eK [bg] b h aP ws) (M:hI (dS b) h bg) (X:cj (dS b) h p.enc (bL p w))
 (aK:ws.length + (jz (t=true) (p,p.words)).length<=1000000000):b' Tryz.prog 76 [.ptr (aC b) 0,.bool t,.agg (bL p w)] h (ik [bg] b h aP ws (jz (t=true) (p,p.words))):=by
 have ol:=(jr X).one;have hm:=M.lone;obtain ⟨J,ag,an,aG⟩:=gb h (bL p w);have bu:=W.ext an;refine X2.z rfl (cp ?_);unfold N2;by_cases c:t=true/\p.k≠32/\p.k≠33
 . have hw:jz (t=true) (p,p.words)=kw [40]::(p.words++[kw [41]]):=by unfold jz;rw [anb c]
   rw [hw] at aK ⊢;simp only [am0,amZ,am8] at aK;obtain ⟨rfl,n32,n33⟩:=c;have tC:=am2 n32;have xS:=am2 n33;have aN:=(Ext.refl J).new (.a_ (ea [[40]]) 0 false);have ay:=uj [[40]] (by decide) (by decide) J.next b bg (J.new (.a_ (ea [[40]]) 0 false)) aP ws (bu.ext aN) (by simp only [am0,am8];omega) hm (lQ.mk' bu _)
   simp only [bL] at ag aG ⊢;simp only [ag,aG.g,ol,tC,xS,↓ab,ae,simprocAttr];refine bw ay ?_;rintro x ad ⟨rfl,b7,aH⟩;have Lk:eN [bg] b J aP ad b7 (ws++[kw [40]]):=aH.b9 aN;have cv:=(Ext.refl ad).new (.a_ (ea [[41]]) 0 false);have k0:=lQ.mk' Lk.w [[41]];have bM:=Lk.ext cv;have ch:=WB W ag bM;have ak:=bP p aM al b bg (ad.new (.a_ (ea [[41]]) 0 false)) b7 w (ws++[kw [40]]) bM.w (((M.ext an).hx bM bu)) (bM.cs bu (X.ext an)) (by rw [amZ,am0,am8];omega);have Ig:(ad.new (.a_ [.str [41]] 0 false)).get (aC h.next)=.a_ [.int .i64 p.k,.int .i64 p.n,.int .i64 p.a,.str p.s,w] 0 false:=ch.g;simp only [bL] at ak;simp only [Ig,ol,aeb,Zx (show Nat.beq 24 dv=false by decide),eh,B6,V.BW,anC,↓ab,ae,simprocAttr];refine bw ak ?_;rintro x bn ⟨rfl,fX,kH⟩;have cJ:=bM.trans kH;have u2:=k0.hx kH;simp only [eh,B6,V.BW,V.agH,ak7,Gb,↓ab,ae,simprocAttr];have aZ:=ae0 [[41]] (by decide) (by decide) ad.next b bg bn fX (ws++[kw [40]]++p.words) kH.w (by rw [amZ,amZ,am0,am8,am0,am8];omega) hm u2
   refine Zg aZ ?_;rintro u b0 ⟨rfl,_,gO,kI⟩;refine ⟨rfl,rfl,gO,?_⟩;have cM:=(cJ.trans kI).b9 an;simp only [ana,anZ,ao4,ang,anh] at cM;exact cM
 . have hw:jz (t=true) (p,p.words)=p.words:=by unfold jz;rw [am7 c]
   rw [hw] at aK ⊢;have ak:=bP p aM al b bg J aP w ws bu (M.ext an) (X.ext an) aK;have yp:∀(ad:ah),ik [bg] b J aP ws p.words (.tuple []) ad->ik [bg] b h aP ws p.words (.tuple []) ad:=fun ad ⟨_,b7,E⟩=>⟨rfl,b7,E.b9 an⟩;simp only [bL] at ag aG ak ⊢;cases t with
   | false=>
     simp only [ag,aG.g,ol,↓ab,ae,simprocAttr];refine bw ak ?_;rintro x ad ⟨rfl,j5⟩;simp only [eh,B6,V.BW,Gb,↓ab,ae,simprocAttr];exact yp _ ⟨rfl,j5⟩
   | true=>
     by_cases Jy:p.k=32
     . have tC:=am_ Jy;simp only [ag,aG.g,ol,tC,↓ab,ae,simprocAttr];refine bw ak ?_;rintro x ad ⟨rfl,j5⟩;simp only [eh,B6,V.BW,Gb,↓ab,ae,simprocAttr];exact yp _ ⟨rfl,j5⟩
     . have tC:=am2 Jy;have xS:=am_ (show p.k=33 from Classical.byContradiction fun z=>c ⟨rfl,Jy,z⟩);simp only [ag,aG.g,ol,tC,xS,↓ab,ae,simprocAttr];refine bw ak ?_;rintro x ad ⟨rfl,j5⟩;simp only [eh,B6,V.BW,Gb,↓ab,ae,simprocAttr];exact yp _ ⟨rfl,j5⟩
theorem L1 {n:Nat} (bP:mu n) (p:aS) (aM:p.size<=n) (al:cX p) (least:Int) (b:Nat) (bg:V) (h:ah) (aP w:V) (ws:List bq) (W:eK [bg] b h aP ws) (M:hI (dS b) h bg) (X:cj (dS b) h p.enc (bL p w))
 (aK:ws.length + (cO least (p,p.words)).length<=1000000000):b' Tryz.prog 70 [.ptr (aC b) 0,.int .i64 least,.agg (bL p w)] h (ik [bg] b h aP ws (cO least (p,p.words))):=by
 have ol:=(jr X).one;have hm:=M.lone;obtain ⟨J,ag,an,aG⟩:=gb h (bL p w);have bu:=W.ext an;have g1:J.get (aC b)=.a_ [bg,aP] 0 false:=bu.g;have fa:cO least (p,p.words)=jz (decide (p.kz<least)=true) (p,p.words):=by unfold cO jz;simp only [ane]
 rw [fa] at aK ⊢;refine XW.z rfl (cp ?_);unfold NV;have ax:=BS p bg w J (M.ext an) (X.ext an);simp only [bL] at ag aG ax ⊢;simp only [ag,aG.g,g1,ol,hm,↓ab,ae,simprocAttr];refine bw ax ?_;rintro x ad ⟨rfl,aN⟩;have e4:=aG.ext aN;have g2:ad.get (aC b)=.a_ [bg,aP] 0 false:=(bu.ext aN).g;have rC:=UQ bP p aM al (decide (p.kz<least)) b bg ad aP w ws (bu.ext aN) ((M.ext an).ext aN) ((X.ext an).ext aN) aK;simp only [bL] at rC;simp only [e4.g,g2,ol,hm,↓ab,ae,simprocAttr];refine bw rC ?_;rintro x aD ⟨rfl,dj,E⟩;simp only [aG.g,e4.g,g1,g2,ol,hm,↓ab,ae,simprocAttr];exact ⟨rfl,dj,(E.b9 aN).b9 an⟩
theorem VW {n:Nat} (bP:mu n) (p:aS) (aM:p.size<=n) (al:cX p) (b:Nat) (bg:V) (h:ah) (aP w:V) (ws:List bq) (W:eK [bg] b h aP ws) (M:hI (dS b) h bg) (X:cj (dS b) h p.enc (bL p w))
 (aK:ws.length + (cO 1 (p,p.words)).length<=1000000000):b' Tryz.prog 72 [.ptr (aC b) 0,.agg (bL p w)] h (ik [bg] b h aP ws (cO 1 (p,p.words))):=by
 have ol:=(jr X).one;obtain ⟨J,ag,an,aG⟩:=gb h (bL p w);have bF:=L1 bP p aM al 1 b bg J aP w ws (W.ext an) (M.ext an) (X.ext an) aK;refine XY.z rfl (cp ?_);unfold NY;simp only [bL] at ag aG bF ⊢;simp only [ag,aG.g,ol,↓ab,ae,simprocAttr];refine bw bF ?_;rintro x ad ⟨rfl,b7,E⟩;simp only [↓ab,ae,simprocAttr];exact ⟨rfl,b7,E.b9 an⟩
def qP (f:dO->List bq) (sep:List UInt8) (l:List aS) (i:Nat):List bq:=if i=0 then eB f sep (a6 l) else qJ f sep (a6 (l.drop i))
theorem zE (f:dO->List bq) (sep:List UInt8) (l:List aS) (i:Nat) (au:i<l.length):qP f sep l i=(if i=0 then [] else [kw sep])++(f (l[i],l[i].words)++qP f sep l (i+1)):=by
 unfold qP;rw [am7 (show ¬i+1=0 by omega)];by_cases a1:i=0
 . subst a1;rw [anb rfl,anb rfl];cases l with
   | nil=>simp at au
   | cons t l=>simp [a6,eB]
 . rw [am7 a1,am7 a1,ant au,a6,qJ];rfl
theorem zD (f:dO->List bq) (sep:List UInt8) (l:List aS) (i:Nat) (au:l.length<=i):qP f sep l i=[]:=by
 unfold qP;rw [anD au]
 split
 . rename_i a1;have:l=[]:=anI (by omega);rw [this];rfl
 . rfl
theorem sS (g:Nat) (sv:(g=4294967296)=False) (f:dO->List bq) (l:List aS) (v:V) (sep:List UInt8) (yG:sep≠[]) (b:Nat) (bg:V) (h:ah) (aP:V) (ws:List bq) (W:eK [bg] b h aP ws) (M:hI (dS b) h bg) (L:cq (dS b) h 5 (l.map aS.enc) v)
 (aK:ws.length + (eB f sep (a6 l)).length<=1000000000)
 (aA:∀(i:Nat) (au:i<l.length) (aa:ah) (dh w:V) (iT:List bq),eK [bg] b aa dh iT->hI (dS b) aa bg->cj (dS b) aa l[i].enc (bL l[i] w)->iT.length + (f (l[i],l[i].words)).length<=1000000000->b' Tryz.prog g [.ptr (aC b) 0,.agg (bL l[i] w)] aa (ik [bg] b aa dh iT (f (l[i],l[i].words)))):
 b' Tryz.prog 71 [.ptr (aC b) 0,v,.str sep,.kT g [.ptr (aC b) 0]] h (ik [bg] b h aP ws (eB f sep (a6 l))):=by
 have ax:=L.len;have hle:=L.le;rw [anc] at ax hle;have hm:=M.lone;refine XX.z rfl (cp ?_);unfold NW;simp only [ax,↓ab,ae,simprocAttr];refine fS (fun r aa=>r 0=.ptr (aC b) 0/\r 2=.str sep/\r 3=.kT g [.ptr (aC b) 0]/\r 10=v/\r 11=.int .i64 l.length/\∃(i:Nat) (dh:V) (A:List bq),r 12=.int .i64 i/\i<=l.length/\eN [bg] b h aP aa dh (ws++A)/\A++qP f sep l i=eB f sep (a6 l)) (fun r aa=>l.length - (r 12).toN) ?_ ?_
 . exact ⟨by simp only [↓ab,cx,simprocAttr],by simp only [↓ab,cx,simprocAttr],by simp only [↓ab,cx,simprocAttr],by simp only [↓ab,cx,simprocAttr],by simp only [↓ab,cx,simprocAttr],0,aP,[],by simp only [↓ab,cx,simprocAttr]<;>rfl,by omega,by rw [anC];exact fE.refl W,rfl⟩
 rintro r J ⟨bb,di,bX,ih,o5,i,jb,A,zj,au,E,dK⟩;unfold NX;by_cases aL:i<l.length
 . have g0:((i:Int) < (l.length:Int))=True:=am_ (by omega);have dt:=jG aL (by unfold top at hle;omega);rw [zE f sep l i aL] at dK;obtain ⟨bi,zc,hF,dG,X,cN,ld,_,_,_⟩:=aS.mH (E.ek W L) (k:=.i64) aL;have rJ:=ld J (Ext.refl J);have wZ:=cN.one;have vY:=aA i aL;generalize l[i]=q at *;obtain ⟨ad,av,aN,e4⟩:=jq J [.int .i64 0,.int .i64 0,.int .i64 0,.str [],.cc] (bL q hF);have aH:eN [bg] b h aP ad jb (ws++A):=E.ext aN;simp only [bL] at av e4 vY;by_cases a1:i=0
   . have iq:((0:Int) < (i:Int))=False:=am2 (by omega);rw [anb a1,anh,<-List.append_assoc] at dK;have hlen:=congrArg List.length dK;simp only [amZ] at hlen;have ao:=vY ad jb hF (ws++A) aH.w (M.hx aH W) (X.ext aN) (by rw [amZ];omega);simp only [bb,di,bX,ih,o5,zj,g0,dt,dG,rJ,av,e4.g,wZ,iq,sv,anw,Hm,ang,anh,↓ab,ae,simprocAttr];refine bw ao ?_;rintro x aD ⟨rfl,dj,F⟩;have bM:=aH.trans F;rw [ana] at bM;simp only [bb,di,bX,ih,o5,zj,dt,↓ab,ae,simprocAttr];exact ⟨⟨i+1,dj,_,rfl,aL,bM,dK⟩,by omega⟩
   . have iq:((0:Int) < (i:Int))=True:=am_ (by omega);rw [am7 a1,<-List.append_assoc,<-List.append_assoc] at dK;have hlen:=congrArg List.length dK;simp only [amZ,am0,am8] at hlen;have cv:=(Ext.refl ad).new (.a_ (ea [sep]) 0 false);have ay:=uj [sep] (by intro s aM;rw [aos] at aM;rw [aM];exact yG) (by simp) ad.next b bg (ad.new (.a_ (ea [sep]) 0 false)) jb (ws++A) (aH.w.ext cv) (by rw [amZ,am0,am8];omega) hm (lQ.mk' aH.w _)
     simp only [bb,di,bX,ih,o5,zj,g0,dt,dG,rJ,av,e4.g,wZ,iq,sv,anw,Hm,ang,anh,↓ab,ae,simprocAttr];refine bw ay ?_;rintro x aD ⟨rfl,dj,F⟩;have dn:eN [bg] b ad jb aD dj (ws++A++[sep].map kw):=F.b9 cv;have bM:=aH.trans dn;have k0:=iZ E.w e4 dn;have ao:=vY aD dj hF _ bM.w (M.hx bM W) (dn.cs aH.w (X.ext aN)) (by rw [amZ,amZ,anc,am0,am8];omega);simp only [bb,di,bX,ih,o5,zj,k0.g,wZ,sv,anw,Hm,ang,anh,↓ab,ae,simprocAttr];refine bw ao ?_;rintro x bn ⟨rfl,fX,kH⟩;have cJ:=bM.trans kH;rw [ana,ana] at cJ;simp only [bb,di,bX,ih,o5,zj,dt,↓ab,ae,simprocAttr];exact ⟨⟨i+1,fX,_,rfl,aL,cJ,by rw [<-dK];simp only [anZ,ao4,ana]⟩,by omega⟩
 . have g0:((i:Int) < (l.length:Int))=False:=am2 (by omega);rw [zD f sep l i (by omega),anC] at dK;rw [dK] at E;simp only [bb,di,bX,ih,o5,zj,g0,↓ab,ae,simprocAttr];exact ⟨rfl,jb,E⟩
theorem aT:(∀a b:List bq,(a++b).length=a.length+b.length)/\(∀(a:bq) (l:List bq),(a::l).length=l.length+1)/\([]:List bq).length=0/\(∀L:List (List UInt8),(L.map kw).length=L.length)/\(∀(a:List UInt8) (L:List (List UInt8)),(a::L).length=L.length+1)/\([]:List (List UInt8)).length=0:=
 ⟨fun _ _=>amZ,fun _ _=>rfl,rfl,fun _=>anc _,fun _ _=>rfl,rfl⟩
section
variable {pre:List V} {b:Nat} {h a1 J bJ:ah} {aP jD:V} {ws h4 A:List bq} {cells:List V} {f:FuncId} {args:List V} {d:Option Nat} {os:List bs} {D:Option jk} {aQ:List iE} {r:bz} {Q:ei->bz->ah->Prop}
theorem cu {B:List bq} (E:eN pre b h aP bJ jD A) (e:A=B):eN pre b h aP bJ jD B:=e ▸ E
theorem Ol {ay:ah} (c:b' Tryz.prog f args ay (ik pre b ay jD h4 A)) (e:Ext bJ ay) (E:eN pre b J aP bJ jD h4) (W:eK pre b a1 aP ws) (B:Has J a1.next cells)
 (H:∀aa dh,eN pre b J aP aa dh (h4++A)->Has aa a1.next cells->bH Tryz.prog (.os (jg D r ay (.tuple [])) os::aQ) .normal (r.set d (.tuple [])) aa Q):nS Tryz.prog f args d D os aQ r ay Q:=by
 refine bw c ?_;rintro x aa ⟨rfl,dh,F⟩;have aw:=E.trans (F.b9 e);exact H aa dh aw (iZ W B aw)
theorem bQ (c:b' Tryz.prog f args bJ (ik pre b bJ jD h4 A)) (E:eN pre b J aP bJ jD h4) (W:eK pre b a1 aP ws) (B:Has J a1.next cells)
 (H:∀aa dh,eN pre b J aP aa dh (h4++A)->Has aa a1.next cells->bH Tryz.prog (.os (jg D r bJ (.tuple [])) os::aQ) .normal (r.set d (.tuple [])) aa Q):nS Tryz.prog f args d D os aQ r bJ Q:=
 Ol c (Ext.refl _) E W B H
theorem gB {bg:V} (L:List (List UInt8)) (cG:∀s ∈ L,s≠[]) (aX:L.length<=100000) (hlen:h4.length+L.length<=1000000000) (hm:bg.one=true/\bg.cells=[bg]/\bg.fK=true) (E:eN [bg] b J aP bJ jD h4) (W:eK [bg] b a1 aP ws) (B:Has J a1.next cells)
 (H:∀aa dh,eN [bg] b J aP aa dh (h4++List.map kw L)->Has aa a1.next cells->bH Tryz.prog (.os (jg D r (bJ.new (.a_ (ea L) 0 false)) (.tuple [])) os::aQ) .normal (r.set d (.tuple [])) aa Q):nS Tryz.prog 24 [.ptr (aC b) 0,.slice (aC bJ.next) 0 L.length L.length] d D os aQ r (bJ.new (.a_ (ea L) 0 false)) Q:=
 have f:=(Ext.refl bJ).new (.a_ (ea L) 0 false)
 Ol (uj L cG aX bJ.next b bg _ _ _ (E.w.ext f) hlen hm (lQ.mk' E.w _)) f E W B H
theorem eJ {l:List aS} {w:V} (E:eN pre b J aP bJ jD h4) (W:eK pre b J aP ws) (L:cq (dS b) J 5 (l.map aS.enc) w) (i:Nat) (I:Int) (qc:(i:Int)=I) (au:i<l.length):
 ∃q y v,cj (dS b) bJ l[i].enc (bL l[i] v)/\iL 5 w (.int .i64 I)=some (.ptr q y)/\o2 5 (bJ.get q) y=some (.agg [.int .i64 l[i].k,.int .i64 l[i].n,.int .i64 l[i].a,.str l[i].s,v])/\v.one=true/\v.cells=[v]/\v.fK=true:=by
 subst qc;obtain ⟨b8,dc,v1,i1,eD,Vz,d1,_⟩:=aS.mH (E.ek W L) (k:=.i64) au;exact ⟨b8,_,v1,eD,i1,d1 bJ (Ext.refl _),Vz.one⟩
theorem jM {n:Nat} (bP:mu n) {p:aS} (aM:p.size<=n+1) (al:cX p) {i:Nat} (au:i<p.l.length) (least:Int) {bg v:V} (E:eN [bg] b J aP bJ jD h4) (W:eK [bg] b J aP ws) (M:hI (dS b) J bg) (X:cj (dS b) bJ p.l[i].enc (bL p.l[i] v))
 (aK:h4.length + (cO least (p.l[i],p.l[i].words)).length<=1000000000):b' Tryz.prog 70 [.ptr (aC b) 0,.int .i64 least,.agg (bL p.l[i] v)] bJ (ik [bg] b bJ jD h4 (cO least (p.l[i],p.l[i].words))):=
 L1 bP _ (by have:=h1 (am3 au);omega) (ja al (am3 au)) least b bg bJ jD v h4 E.w (M.hx E W) X aK
end
theorem cC (l:List aS) (n:Nat):a6 (l.take n)=(a6 l).take n:=by rw [rS,rS,List.map_take]
theorem cA (l:List aS) (n:Nat):a6 (l.drop n)=(a6 l).drop n:=by rw [rS,rS,List.map_drop]
theorem pO {n:Nat} (bP:mu n) (p:aS) (aM:p.size<=n+1) (al:cX p) (eZ:2<=p.l.length) (left:Int) (s:List UInt8) (ry:s≠[]) (right:Int) (b:Nat) (bg:V) (h:ah) (aP w:V) (ws:List bq) (W:eK [bg] b h aP ws) (M:hI (dS b) h bg) (X:cj (dS b) h p.enc (bL p w))
 (aK:ws.length + (eb (a6 p.l) left s right).length<=1000000000):b' Tryz.prog 69 [.ptr (aC b) 0,.agg (bL p w),.int .i64 left,.str s,.int .i64 right] h (ik [bg] b h aP ws (eb (a6 p.l) left s right)):=by
 have cN:=jr X;have ol:=cN.one;have hm:=M.lone;have dF:∀q ∈ p.l,q.size<=n/\cX q:=fun q aq=>⟨by have:=h1 aq;omega,ja al aq⟩;obtain ⟨J,ag,an,aG⟩:=gb h (bL p w);have bu:=W.ext an;have dZ:=M.ext an;have eD:=X.ext an;have b6:=cN.ext an;have bK:=b6.len;have hle:=b6.le;rw [anc] at bK hle;have aY:eN [bg] b J aP J aP ws:=fE.refl bu;refine XV.z rfl (cp ?_);unfold NT;simp only [bL] at ag aG ⊢;have z:=And.intro ol bK;have bS:0<p.l.length:=by omega
 have da:1<p.l.length:=by omega
 have hw:eb (a6 p.l) left s right=cO left (p.l[0],p.l[0].words)++(List.map kw [s]++(cO right (p.l[1],p.l[1].words))):=by unfold eb;rw [eO _ _ _ bS,eO _ _ _ da];rfl
 rw [hw] at aK ⊢;simp only [aT] at aK;obtain ⟨ki,fe,v1,jo,hg⟩:=eJ aY bu b6 0 0 rfl bS;simp only [ag,aG.g,z,hg,↓ab,ae,simprocAttr];refine bQ (jM bP aM al bS left aY bu dZ jo (by first | omega | (simp only [aT];omega))) aY W aG fun ad b7 aH br=>?_;simp only [br.g,z,↓ab,ae,simprocAttr];refine gB [s] (by intro x ar;rw [aos] at ar;rw [ar];exact ry) (by simp) (by simp only [aT];omega) hm aH W aG fun aD dj bM ch=>?_;obtain ⟨pP,y3,v3,oL,oN⟩:=eJ bM bu b6 1 1 rfl da;simp only [ch.g,z,oN,↓ab,ae,simprocAttr];refine bQ (jM bP aM al da right bM bu dZ oL (by simp only [aT];omega)) bM W aG fun bn fX cJ fz=>?_;simp only [fz.g,z,↓ab,ae,simprocAttr];exact ⟨rfl,_,cu (cJ.b9 an) (by simp)⟩
theorem yT {k c:Int} (e:k=c):(k=1)=(c=1)/\(k=4)=(c=4)/\(k=3)=(c=3):=by simp only [e,aoM]
theorem wI {k c:Int} (e:k=c):(k=10)=(c=10)/\(k=11)=(c=11)/\(k=12)=(c=12)/\(k=13)=(c=13)/\(k=14)=(c=14)/\(k=15)=(c=15):=by simp only [e,aoM]
theorem akK {n:Nat} (bP:mu n) (p:aS) (aM:p.size<=n+1) (al:cX p) (ay:p.k<10) (b:Nat) (bg:V) (h:ah) (aP w:V) (ws:List bq) (W:eK [bg] b h aP ws) (M:hI (dS b) h bg) (X:cj (dS b) h p.enc (bL p w))
 (aK:ws.length + (ha p.k p.s (a6 p.l)).length<=1000000000):b' Tryz.prog 38 [.ptr (aC b) 0,.agg (bL p w)] h (ik [bg] b h aP ws (ha p.k p.s (a6 p.l))):=by
 have cN:=jr X;have ol:=cN.one;have hm:=M.lone;have dF:∀q ∈ p.l,q.size<=n/\cX q:=fun q aq=>⟨by have:=h1 aq;omega,ja al aq⟩;obtain ⟨J,ag,an,aG⟩:=gb h (bL p w);have bu:=W.ext an;have dZ:=M.ext an;have eD:=X.ext an;have b6:=cN.ext an;have bK:=b6.len;have hle:=b6.le;rw [anc] at bK hle;have aY:eN [bg] b J aP J aP ws:=fE.refl bu;refine Xu.z rfl (cp ?_);unfold Ni;simp only [bL] at ag aG ⊢;rcases (show p.k=1\/p.k=4\/p.k=3\/p.k=2 by have:=rL al;omega) with e | e | e | e
 . have z:=And.intro ol (And.intro bK (yT e));have hw:ha p.k p.s (a6 p.l)=[dD 5 p.s]:=by simp [ha,z,cB,cC,cA]
   rw [hw] at aK ⊢
   try simp only [aT] at aK
   simp only [ag,aG.g,z,↓ab,ae,simprocAttr];refine bQ (oz 5 p.s _ _ _ _ _ aY.w (by first | omega | (simp only [aT];omega)) hm) aY W aG fun ad b7 aH br=>?_;simp only [br.g,z,↓ab,ae,simprocAttr];exact ⟨rfl,_,cu (aH.b9 an) (by simp)⟩
 . have z:=And.intro ol (And.intro bK (yT e));have eZ:2<=p.l.length:=by have:=iN al (by omega);omega
   have hw:ha p.k p.s (a6 p.l)=eb (a6 p.l) 2 [45,62] 1:=by simp [ha,z,cB,cC,cA]
   rw [hw] at aK ⊢
   try simp only [aT] at aK
   simp only [ag,aG.g,z,↓ab,ae,simprocAttr];refine bQ (pO bP p aM al eZ 2 [45,62] (by decide) 1 _ _ _ _ w _ aY.w (dZ.hx aY bu) (aY.cs bu eD) (by first | omega | (simp only [aT];omega))) aY W aG fun ad b7 aH br=>?_;simp only [br.g,z,↓ab,ae,simprocAttr];exact ⟨rfl,_,cu (aH.b9 an) (by simp)⟩
 . have z:=And.intro ol (And.intro bK (yT e));have eZ:2<=p.l.length:=by have:=iN al (by omega);omega
   have hw:ha p.k p.s (a6 p.l)=eb (a6 p.l) 3 [42] 2:=by simp [ha,z,cB,cC,cA]
   rw [hw] at aK ⊢
   try simp only [aT] at aK
   simp only [ag,aG.g,z,↓ab,ae,simprocAttr];refine bQ (pO bP p aM al eZ 3 [42] (by decide) 2 _ _ _ _ w _ aY.w (dZ.hx aY bu) (aY.cs bu eD) (by first | omega | (simp only [aT];omega))) aY W aG fun ad b7 aH br=>?_;simp only [br.g,z,↓ab,ae,simprocAttr];exact ⟨rfl,_,cu (aH.b9 an) (by simp)⟩
 . by_cases cW:p.l.length=0
   . have z:=And.intro ol (And.intro bK (yT e));have hb:(p.l.length=1)=False:=am2 (by omega);have hc:(1<p.l.length)=False:=am2 (by omega);have bk:((p.l.length:Int)=1)=False:=am2 (by omega);have dT:((1:Int) < (p.l.length:Int))=False:=am2 (by omega);have hw:ha p.k p.s (a6 p.l)=[dD 3 p.s]:=by simp [ha,z,hb,hc,bk,dT,cB,cC,cA]
     rw [hw] at aK ⊢
     try simp only [aT] at aK
     simp only [ag,aG.g,z,hb,hc,bk,dT,↓ab,ae,simprocAttr];refine bQ (oz 3 p.s _ _ _ _ _ aY.w (by first | omega | (simp only [aT];omega)) hm) aY W aG fun ad b7 aH br=>?_;simp only [br.g,z,hb,hc,bk,dT,↓ab,ae,simprocAttr];exact ⟨rfl,_,cu (aH.b9 an) (by simp)⟩
   by_cases db:p.l.length=1
   . have z:=And.intro ol (And.intro bK (yT e));have hb:(p.l.length=1)=True:=am_ (by omega);have hc:(1<p.l.length)=False:=am2 (by omega);have bk:((p.l.length:Int)=1)=True:=am_ (by omega);have dT:((1:Int) < (p.l.length:Int))=False:=am2 (by omega);have bS:0<p.l.length:=by omega
     have hw:ha p.k p.s (a6 p.l)=cO 3 (p.l[0],p.l[0].words)++([dD 3 p.s]):=by simp [ha,z,hb,hc,bk,dT,cB,cC,cA,eO _ _ _ bS]
     rw [hw] at aK ⊢
     try simp only [aT] at aK
     obtain ⟨ki,fe,v1,jo,hg⟩:=eJ aY bu b6 0 0 rfl bS;simp only [ag,aG.g,z,hb,hc,bk,dT,hg,↓ab,ae,simprocAttr];refine bQ (jM bP aM al bS 3 aY bu dZ jo (by first | omega | (simp only [aT];omega))) aY W aG fun ad b7 aH br=>?_;simp only [br.g,z,hb,hc,bk,dT,↓ab,ae,simprocAttr];refine bQ (oz 3 p.s _ _ _ _ _ aH.w (by simp only [aT];omega) hm) aH W aG fun aD dj bM ch=>?_;simp only [ch.g,z,hb,hc,bk,dT,↓ab,ae,simprocAttr];exact ⟨rfl,_,cu (bM.b9 an) (by simp)⟩
   . have z:=And.intro ol (And.intro bK (yT e));have hb:(p.l.length=1)=False:=am2 (by omega);have hc:(1<p.l.length)=True:=am_ (by omega);have bk:((p.l.length:Int)=1)=False:=am2 (by omega);have dT:((1:Int) < (p.l.length:Int))=True:=am_ (by omega);have hw:ha p.k p.s (a6 p.l)=List.map kw [[40]]++(eB (cO 1) [44] (a6 p.l)++(List.map kw [[41]]++([dD 3 p.s]))):=by simp [ha,z,hb,hc,bk,dT,cB,cC,cA]
     rw [hw] at aK ⊢
     try simp only [aT] at aK
     simp only [ag,aG.g,z,hb,hc,bk,dT,↓ab,ae,simprocAttr];refine gB [[40]] (by decide) (by simp) (by first | omega | (simp only [aT];omega)) hm aY W aG fun ad b7 aH br=>?_;have h6:=aH.ek bu b6;simp only [br.g,z,hb,hc,bk,dT,sQ,↓ab,ae,simprocAttr];refine bQ (sS 72 (am2 (by decide)) (cO 1) p.l w [44] (by decide) _ _ _ _ _ aH.w (dZ.hx aH bu) h6 (by simp only [aT];omega) (fun i au aa dh w' iT=>VW bP _ (dF _ (id (am3 au))).1 (dF _ (id (am3 au))).2 b bg aa dh w' iT)) aH W aG fun aD dj bM ch=>?_;simp only [ch.g,z,hb,hc,bk,dT,↓ab,ae,simprocAttr];refine gB [[41]] (by decide) (by simp) (by simp only [aT];omega) hm bM W aG fun bn fX cJ fz=>?_;simp only [fz.g,z,hb,hc,bk,dT,↓ab,ae,simprocAttr];refine bQ (oz 3 p.s _ _ _ _ _ cJ.w (by simp only [aT];omega) hm) cJ W aG fun b0 gO cM fA=>?_;simp only [fA.g,z,hb,hc,bk,dT,↓ab,ae,simprocAttr];exact ⟨rfl,_,cu (cM.b9 an) (by simp)⟩
theorem aiw {n:Nat} (bP:mu n) (p:aS) (aM:p.size<=n+1) (al:cX p) (ay:10<=p.k/\p.k<20) (b:Nat) (bg:V) (h:ah) (aP w:V) (ws:List bq) (W:eK [bg] b h aP ws) (M:hI (dS b) h bg) (X:cj (dS b) h p.enc (bL p w))
 (aK:ws.length + (gf p.k p.n p.s (a6 p.l)).length<=1000000000):b' Tryz.prog 39 [.ptr (aC b) 0,.agg (bL p w)] h (ik [bg] b h aP ws (gf p.k p.n p.s (a6 p.l))):=by
 have cN:=jr X;have ol:=cN.one;have hm:=M.lone;have dF:∀q ∈ p.l,q.size<=n/\cX q:=fun q aq=>⟨by have:=h1 aq;omega,ja al aq⟩;obtain ⟨J,ag,an,aG⟩:=gb h (bL p w);have bu:=W.ext an;have dZ:=M.ext an;have eD:=X.ext an;have b6:=cN.ext an;have bK:=b6.len;have hle:=b6.le;rw [anc] at bK hle;have aY:eN [bg] b J aP J aP ws:=fE.refl bu;refine Xv.z rfl (cp ?_);unfold Nj;simp only [bL] at ag aG ⊢;rcases (show p.k=10\/p.k=11\/p.k=12\/p.k=13\/p.k=14\/p.k=15\/p.k=16 by have:=rL al;omega) with e | e | e | e | e | e | e
 . have z:=And.intro ol (And.intro bK (wI e));have hw:gf p.k p.n p.s (a6 p.l)=List.map kw [[95]]:=by simp [gf,z,cB,cC,cA]
   rw [hw] at aK ⊢
   try simp only [aT] at aK
   simp only [ag,aG.g,z,↓ab,ae,simprocAttr];refine gB [[95]] (by decide) (by simp) (by first | omega | (simp only [aT];omega)) hm aY W aG fun ad b7 aH br=>?_;simp only [br.g,z,↓ab,ae,simprocAttr];exact ⟨rfl,_,cu (aH.b9 an) (by simp)⟩
 . have z:=And.intro ol (And.intro bK (wI e));have hw:gf p.k p.n p.s (a6 p.l)=[dD 3 p.s]:=by simp [gf,z,cB,cC,cA]
   rw [hw] at aK ⊢
   try simp only [aT] at aK
   simp only [ag,aG.g,z,↓ab,ae,simprocAttr];refine bQ (oz 3 p.s _ _ _ _ _ aY.w (by first | omega | (simp only [aT];omega)) hm) aY W aG fun ad b7 aH br=>?_;simp only [br.g,z,↓ab,ae,simprocAttr];exact ⟨rfl,_,cu (aH.b9 an) (by simp)⟩
 . have z:=And.intro ol (And.intro bK (wI e));have hw:gf p.k p.n p.s (a6 p.l)=[ot p.n]:=by simp [gf,z,cB,cC,cA]
   rw [hw] at aK ⊢
   try simp only [aT] at aK
   simp only [ag,aG.g,z,↓ab,ae,simprocAttr];refine bQ (Ta p.n _ _ _ _ _ aY.w (by first | omega | (simp only [aT];omega)) hm) aY W aG fun ad b7 aH br=>?_;simp only [br.g,z,↓ab,ae,simprocAttr];exact ⟨rfl,_,cu (aH.b9 an) (by simp)⟩
 . have z:=And.intro ol (And.intro bK (wI e));have hw:gf p.k p.n p.s (a6 p.l)=List.map kw [[40],[41]]:=by simp [gf,z,cB,cC,cA]
   rw [hw] at aK ⊢
   try simp only [aT] at aK
   simp only [ag,aG.g,z,↓ab,ae,simprocAttr];refine gB [[40],[41]] (by decide) (by simp) (by first | omega | (simp only [aT];omega)) hm aY W aG fun ad b7 aH br=>?_;simp only [br.g,z,↓ab,ae,simprocAttr];exact ⟨rfl,_,cu (aH.b9 an) (by simp)⟩
 . have z:=And.intro ol (And.intro bK (wI e));have hw:gf p.k p.n p.s (a6 p.l)=[oA p.n]:=by simp [gf,z,cB,cC,cA]
   rw [hw] at aK ⊢
   try simp only [aT] at aK
   simp only [ag,aG.g,z,↓ab,ae,simprocAttr];refine bQ (Ux p.n _ _ _ _ _ aY.w (by first | omega | (simp only [aT];omega)) hm) aY W aG fun ad b7 aH br=>?_;simp only [br.g,z,↓ab,ae,simprocAttr];exact ⟨rfl,_,cu (aH.b9 an) (by simp)⟩
 . have z:=And.intro ol (And.intro bK (wI e));have eZ:2<=p.l.length:=by have:=iN al (by omega);omega
   have hw:gf p.k p.n p.s (a6 p.l)=eb (a6 p.l) 2 [44] 1:=by simp [gf,z,cB,cC,cA]
   rw [hw] at aK ⊢
   try simp only [aT] at aK
   simp only [ag,aG.g,z,↓ab,ae,simprocAttr];refine bQ (pO bP p aM al eZ 2 [44] (by decide) 1 _ _ _ _ w _ aY.w (dZ.hx aY bu) (aY.cs bu eD) (by first | omega | (simp only [aT];omega))) aY W aG fun ad b7 aH br=>?_;simp only [br.g,z,↓ab,ae,simprocAttr];exact ⟨rfl,_,cu (aH.b9 an) (by simp)⟩
 . have z:=And.intro ol (And.intro bK (wI e));have hw:gf p.k p.n p.s (a6 p.l)=[dD 4 p.s]++(eS (cO 3) (a6 p.l)):=by simp [gf,z,cB,cC,cA]
   rw [hw] at aK ⊢
   try simp only [aT] at aK
   simp only [ag,aG.g,z,↓ab,ae,simprocAttr];refine bQ (oz 4 p.s _ _ _ _ _ aY.w (by first | omega | (simp only [aT];omega)) hm) aY W aG fun ad b7 aH br=>?_;simp only [br.g,z,↓ab,ae,simprocAttr];refine fS (fun r g=>r 0=.ptr (aC b) 0/\r 13=w/\r 14=.int .i64 p.l.length/\∃(i:Nat) (dh:V) (Z:List bq),r 15=.int .i64 i/\i<=p.l.length/\eN [bg] b J aP g dh ((ws++[dD 4 p.s])++Z)/\Z++eS (cO 3) (a6 (p.l.drop i))=eS (cO 3) (a6 p.l)) (fun r g=>p.l.length - (r 15).toN) ?_ ?_
   . exact ⟨by simp only [↓ab,cx,simprocAttr],by simp only [↓ab,cx,simprocAttr],by simp only [↓ab,cx,simprocAttr],0,b7,[],by simp only [↓ab,cx,simprocAttr]<;>rfl,by omega,by rw [anC];exact aH,by rw [anN,anh]⟩
   rintro r g ⟨bb,rs,ij,i,hS,Z,mg,au,fB,cQ⟩;unfold Nk;by_cases aL:i<p.l.length
   . have g0:((i:Int) < (p.l.length:Int))=True:=am_ (by omega);have dt:=jG aL (by unfold top at hle;omega);rw [ant aL,a6,eS,<-List.append_assoc] at cQ;have ll:=congrArg List.length cQ;simp only [amZ] at ll;obtain ⟨mh,xo,hF,nb,lS⟩:=eJ fB bu b6 i _ rfl aL;obtain ⟨g2,av,aN,e4⟩:=jq g [.int .i64 0,.int .i64 0,.int .i64 0,.str [],.cc] (bL p.l[i] hF);have mY:=fB.ext aN;simp only [bL] at av e4;have c:=jM bP aM al aL 3 mY bu dZ (nb.ext aN) (by simp only [aT] at ll ⊢;omega);simp only [bb,rs,ij,mg,g0,dt,lS,av,e4.g,↓ab,ae,simprocAttr];refine bw c ?_;rintro x g3 ⟨rfl,dj,F⟩;have pY:=mY.trans F;rw [ana] at pY;simp only [bb,rs,ij,mg,dt,↓ab,ae,simprocAttr];exact ⟨⟨i+1,dj,_,rfl,aL,pY,cQ⟩,by omega⟩
   . have g0:((i:Int) < (p.l.length:Int))=False:=am2 (by omega);rw [anD (by omega)] at cQ;simp only [a6,eS,anC] at cQ;rw [cQ] at fB;simp only [bb,rs,ij,mg,g0,↓ab,ae,simprocAttr];exact ⟨rfl,_,cu (fB.b9 an) (by simp)⟩
theorem yU {k c:Int} (e:k=c):(k=27)=(c=27)/\(k=29)=(c=29)/\(k=30)=(c=30)/\(k=31)=(c=31)/\(k=32)=(c=32):=by simp only [e,aoM]
theorem agS {n:Nat} (bP:mu n) (p:aS) (aM:p.size<=n+1) (al:cX p) (ay:p.k=27\/p.k=29\/p.k=30\/p.k=31\/p.k=32\/p.k=33) (b:Nat) (bg:V) (h:ah) (aP w:V) (ws:List bq) (W:eK [bg] b h aP ws) (M:hI (dS b) h bg) (X:cj (dS b) h p.enc (bL p w))
 (aK:ws.length + (hp p.k (a6 p.l)).length<=1000000000):b' Tryz.prog 78 [.ptr (aC b) 0,.agg (bL p w)] h (ik [bg] b h aP ws (hp p.k (a6 p.l))):=by
 have cN:=jr X;have ol:=cN.one;have hm:=M.lone;have dF:∀q ∈ p.l,q.size<=n/\cX q:=fun q aq=>⟨by have:=h1 aq;omega,ja al aq⟩;obtain ⟨J,ag,an,aG⟩:=gb h (bL p w);have bu:=W.ext an;have dZ:=M.ext an;have eD:=X.ext an;have b6:=cN.ext an;have bK:=b6.len;have hle:=b6.le;rw [anc] at bK hle;have aY:eN [bg] b J aP J aP ws:=fE.refl bu;refine X4.z rfl (cp ?_);unfold N4;simp only [bL] at ag aG ⊢;rcases ay with e | e | e | e | e | e
 . have z:=And.intro ol (And.intro bK (yU e));have eZ:2<=p.l.length:=by have:=iN al (by omega);omega
   have hw:hp p.k (a6 p.l)=List.map kw [[102,117,110]]++(eb (a6 p.l) 1 [45,62] 1):=by simp [hp,z,cB,cC,cA]
   rw [hw] at aK ⊢
   try simp only [aT] at aK
   simp only [ag,aG.g,z,↓ab,ae,simprocAttr];refine gB [[102,117,110]] (by decide) (by simp) (by first | omega | (simp only [aT];omega)) hm aY W aG fun ad b7 aH br=>?_;simp only [br.g,z,↓ab,ae,simprocAttr];refine bQ (pO bP p aM al eZ 1 [45,62] (by decide) 1 _ _ _ _ w _ aH.w (dZ.hx aH bu) (aH.cs bu eD) (by simp only [aT];omega)) aH W aG fun aD dj bM ch=>?_;simp only [ch.g,z,↓ab,ae,simprocAttr];exact ⟨rfl,_,cu (bM.b9 an) (by simp)⟩
 . have z:=And.intro ol (And.intro bK (yU e));have eZ:2<=p.l.length:=by have:=qB al (by omega);omega
   have gM:2<p.l.length:=by have:=qB al (by omega);omega
   have hw:hp p.k (a6 p.l)=List.map kw [[108,101,116]]++(eb (a6 p.l) 1 [61] 1++(List.map kw [[105,110]]++(cO 1 (p.l[2],p.l[2].words)))):=by simp [hp,z,cB,cC,cA,eO _ _ _ gM]
   rw [hw] at aK ⊢
   try simp only [aT] at aK
   simp only [ag,aG.g,z,↓ab,ae,simprocAttr];refine gB [[108,101,116]] (by decide) (by simp) (by first | omega | (simp only [aT];omega)) hm aY W aG fun ad b7 aH br=>?_;simp only [br.g,z,↓ab,ae,simprocAttr];refine bQ (pO bP p aM al eZ 1 [61] (by decide) 1 _ _ _ _ w _ aH.w (dZ.hx aH bu) (aH.cs bu eD) (by simp only [aT];omega)) aH W aG fun aD dj bM ch=>?_;simp only [ch.g,z,↓ab,ae,simprocAttr];refine gB [[105,110]] (by decide) (by simp) (by simp only [aT];omega) hm bM W aG fun bn fX cJ fz=>?_;obtain ⟨zG,y4,v4,oM,oO⟩:=eJ cJ bu b6 2 2 rfl gM;simp only [fz.g,z,oO,↓ab,ae,simprocAttr];refine bQ (jM bP aM al gM 1 cJ bu dZ oM (by simp only [aT];omega)) cJ W aG fun b0 gO cM fA=>?_;simp only [fA.g,z,↓ab,ae,simprocAttr];exact ⟨rfl,_,cu (cM.b9 an) (by simp)⟩
 . have z:=And.intro ol (And.intro bK (yU e));have wl:IntKind.i64.wrap ((p.l.length:Int)-1)=((p.l.length-1:Nat):Int):=by have:=ur al (by omega);rw [wrap_i64 (by omega) (by unfold top at hle;omega)];omega
   have tR:p.l.length-1<p.l.length:=by have:=ur al (by omega);omega
   have hw:hp p.k (a6 p.l)=List.map kw [[108,101,116],[114,101,99]]++(eB Prod.snd [97,110,100] (a6 (p.l.take (p.l.length-1)))++(List.map kw [[105,110]]++(cO 1 (p.l[p.l.length-1],p.l[p.l.length-1].words)))):=by simp [hp,z,wl,cB,cC,cA,eO _ _ _ tR]
   rw [hw] at aK ⊢
   try simp only [aT] at aK
   simp only [ag,aG.g,z,wl,↓ab,ae,simprocAttr];refine gB [[108,101,116],[114,101,99]] (by decide) (by simp) (by first | omega | (simp only [aT];omega)) hm aY W aG fun ad b7 aH br=>?_;have h6:=aH.ek bu b6;obtain ⟨hs,b_,ts⟩:=cq.take h6 (k:=.i64) (i:=p.l.length-1) (by rw [anc];omega);rw [<-List.map_take] at ts;have BB:=b_;simp only [br.g,z,wl,BB,sQ,↓ab,ae,simprocAttr];refine bQ (sS 23 (am2 (by decide)) Prod.snd (p.l.take (p.l.length-1)) hs [97,110,100] (by decide) _ _ _ _ _ aH.w (dZ.hx aH bu) ts (by simp only [aT];omega) (fun i au aa dh w' iT=>bP _ (dF _ (anU (am3 au))).1 (dF _ (anU (am3 au))).2 b bg aa dh w' iT)) aH W aG fun aD dj bM ch=>?_;simp only [ch.g,z,wl,↓ab,ae,simprocAttr];refine gB [[105,110]] (by decide) (by simp) (by simp only [aT];omega) hm bM W aG fun bn fX cJ fz=>?_;obtain ⟨zG,y4,v4,oM,oO⟩:=eJ cJ bu b6 (p.l.length-1) _ rfl tR;simp only [fz.g,z,wl,oO,↓ab,ae,simprocAttr];refine bQ (jM bP aM al tR 1 cJ bu dZ oM (by simp only [aT];omega)) cJ W aG fun b0 gO cM fA=>?_;simp only [fA.g,z,wl,↓ab,ae,simprocAttr];exact ⟨rfl,_,cu (cM.b9 an) (by simp)⟩
 . have z:=And.intro ol (And.intro bK (yU e));have bS:0<p.l.length:=by have:=qB al (by omega);omega
   have da:1<p.l.length:=by have:=qB al (by omega);omega
   have gM:2<p.l.length:=by have:=qB al (by omega);omega
   have hw:hp p.k (a6 p.l)=List.map kw [[105,102]]++(cO 1 (p.l[0],p.l[0].words)++(List.map kw [[116,104,101,110]]++(cO 3 (p.l[1],p.l[1].words)++(List.map kw [[101,108,115,101]]++(cO 3 (p.l[2],p.l[2].words)))))):=by simp [hp,z,cB,cC,cA,eO _ _ _ bS,eO _ _ _ da,eO _ _ _ gM]
   rw [hw] at aK ⊢
   try simp only [aT] at aK
   simp only [ag,aG.g,z,↓ab,ae,simprocAttr];refine gB [[105,102]] (by decide) (by simp) (by first | omega | (simp only [aT];omega)) hm aY W aG fun ad b7 aH br=>?_;obtain ⟨hs,fu,v2,ga,fJ⟩:=eJ aH bu b6 0 0 rfl bS;simp only [br.g,z,fJ,↓ab,ae,simprocAttr];refine bQ (jM bP aM al bS 1 aH bu dZ ga (by simp only [aT];omega)) aH W aG fun aD dj bM ch=>?_;simp only [ch.g,z,↓ab,ae,simprocAttr];refine gB [[116,104,101,110]] (by decide) (by simp) (by simp only [aT];omega) hm bM W aG fun bn fX cJ fz=>?_;obtain ⟨zG,y4,v4,oM,oO⟩:=eJ cJ bu b6 1 1 rfl da;simp only [fz.g,z,oO,↓ab,ae,simprocAttr];refine bQ (jM bP aM al da 3 cJ bu dZ oM (by simp only [aT];omega)) cJ W aG fun b0 gO cM fA=>?_;simp only [fA.g,z,↓ab,ae,simprocAttr];refine gB [[101,108,115,101]] (by decide) (by simp) (by simp only [aT];omega) hm cM W aG fun ep uw iV lM=>?_;obtain ⟨Uz,y6,v6,Af,Ag⟩:=eJ iV bu b6 2 2 rfl gM;simp only [lM.g,z,Ag,↓ab,ae,simprocAttr];refine bQ (jM bP aM al gM 3 iV bu dZ Af (by simp only [aT];omega)) iV W aG fun fg wN mn oE=>?_;simp only [oE.g,z,↓ab,ae,simprocAttr];exact ⟨rfl,_,cu (mn.b9 an) (by simp)⟩
 . have z:=And.intro ol (And.intro bK (yU e));have eZ:=ur al (by omega);have bS:0<p.l.length:=by omega
   have hw:hp p.k (a6 p.l)=List.map kw [[40]]++(List.map kw [[109,97,116,99,104]]++(cO 1 (p.l[0],p.l[0].words)++(List.map kw [[119,105,116,104]]++(eB Prod.snd [124] (a6 (p.l.drop (1)))++(List.map kw [[41]]))))):=by simp [hp,z,cB,cC,cA,eO _ _ _ bS,-List.drop_one]
   rw [hw] at aK ⊢
   try simp only [aT] at aK
   simp only [ag,aG.g,z,↓ab,ae,simprocAttr];refine gB [[40]] (by decide) (by simp) (by first | omega | (simp only [aT];omega)) hm aY W aG fun ad b7 aH br=>?_;simp only [br.g,z,↓ab,ae,simprocAttr];refine gB [[109,97,116,99,104]] (by decide) (by simp) (by simp only [aT];omega) hm aH W aG fun aD dj bM ch=>?_;obtain ⟨pP,y3,v3,oL,oN⟩:=eJ bM bu b6 0 0 rfl bS;simp only [ch.g,z,oN,↓ab,ae,simprocAttr];refine bQ (jM bP aM al bS 1 bM bu dZ oL (by simp only [aT];omega)) bM W aG fun bn fX cJ fz=>?_;simp only [fz.g,z,↓ab,ae,simprocAttr];refine gB [[119,105,116,104]] (by decide) (by simp) (by simp only [aT];omega) hm cJ W aG fun b0 gO cM fA=>?_;have Ad:=cM.ek bu b6;obtain ⟨uY,fI,tt⟩:=cq.drop Ad (k:=.i64) (i:=1) (by rw [anc];omega);rw [<-List.map_drop] at tt;have BC:gJ 5 w (some (.int .i64 1)) none none=some uY:=fI;simp only [fA.g,z,BC,sQ,↓ab,ae,simprocAttr];refine bQ (sS 23 (am2 (by decide)) Prod.snd (p.l.drop (1)) uY [124] (by decide) _ _ _ _ _ cM.w (dZ.hx cM bu) tt (by simp only [aT];omega) (fun i au aa dh w' iT=>bP _ (dF _ (an4 (am3 au))).1 (dF _ (an4 (am3 au))).2 b bg aa dh w' iT)) cM W aG fun ep uw iV lM=>?_;simp only [lM.g,z,↓ab,ae,simprocAttr];refine gB [[41]] (by decide) (by simp) (by simp only [aT];omega) hm iV W aG fun fg wN mn oE=>?_;simp only [oE.g,z,↓ab,ae,simprocAttr];exact ⟨rfl,_,cu (mn.b9 an) (by simp)⟩
 . have z:=And.intro ol (And.intro bK (yU e));have eZ:=ur al (by omega);have bS:0<p.l.length:=by omega
   have hw:hp p.k (a6 p.l)=List.map kw [[40]]++(List.map kw [[116,114,121]]++(cO 1 (p.l[0],p.l[0].words)++(List.map kw [[119,105,116,104]]++(eB Prod.snd [124] (a6 (p.l.drop (1)))++(List.map kw [[41]]))))):=by simp [hp,z,cB,cC,cA,eO _ _ _ bS,-List.drop_one]
   rw [hw] at aK ⊢
   try simp only [aT] at aK
   simp only [ag,aG.g,z,↓ab,ae,simprocAttr];refine gB [[40]] (by decide) (by simp) (by first | omega | (simp only [aT];omega)) hm aY W aG fun ad b7 aH br=>?_;simp only [br.g,z,↓ab,ae,simprocAttr];refine gB [[116,114,121]] (by decide) (by simp) (by simp only [aT];omega) hm aH W aG fun aD dj bM ch=>?_;obtain ⟨pP,y3,v3,oL,oN⟩:=eJ bM bu b6 0 0 rfl bS;simp only [ch.g,z,oN,↓ab,ae,simprocAttr];refine bQ (jM bP aM al bS 1 bM bu dZ oL (by simp only [aT];omega)) bM W aG fun bn fX cJ fz=>?_;simp only [fz.g,z,↓ab,ae,simprocAttr];refine gB [[119,105,116,104]] (by decide) (by simp) (by simp only [aT];omega) hm cJ W aG fun b0 gO cM fA=>?_;have Ad:=cM.ek bu b6;obtain ⟨uY,fI,tt⟩:=cq.drop Ad (k:=.i64) (i:=1) (by rw [anc];omega);rw [<-List.map_drop] at tt;have BC:gJ 5 w (some (.int .i64 1)) none none=some uY:=fI;simp only [fA.g,z,BC,sQ,↓ab,ae,simprocAttr];refine bQ (sS 23 (am2 (by decide)) Prod.snd (p.l.drop (1)) uY [124] (by decide) _ _ _ _ _ cM.w (dZ.hx cM bu) tt (by simp only [aT];omega) (fun i au aa dh w' iT=>bP _ (dF _ (an4 (am3 au))).1 (dF _ (an4 (am3 au))).2 b bg aa dh w' iT)) cM W aG fun ep uw iV lM=>?_;simp only [lM.g,z,↓ab,ae,simprocAttr];refine gB [[41]] (by decide) (by simp) (by simp only [aT];omega) hm iV W aG fun fg wN mn oE=>?_;simp only [oE.g,z,↓ab,ae,simprocAttr];exact ⟨rfl,_,cu (mn.b9 an) (by simp)⟩
theorem lv {k c:Int} (e:k=c):(k=20)=(c=20)/\(k=21)=(c=21)/\(k=22)=(c=22)/\(k=23)=(c=23)/\(k=24)=(c=24)/\(k=25)=(c=25)/\(k=26)=(c=26)/\(k=35)=(c=35)/\(k=37)=(c=37)/\(k=38)=(c=38)/\(k=28)=(c=28)/\(k=34)=(c=34)/\(k=36)=(c=36)/\(k=39)=(c=39):=by simp only [e,aoM]
theorem SX (s:List UInt8):IntKind.i64.wrap (dR s+1)=dR s+1:=by
 have h:dR s<=7/\5<=dR s:=by
  unfold dR
  repeat' split
  all_goals omega
 exact wrap_i64 (by omega) (by omega)
def oc (t:Bool) (c:dO):List bq:=jz (t=true) c
theorem F_ {n:Nat} (bP:mu n) (p:aS) (aM:p.size<=n) (al:cX p) (t:Bool) (b:Nat) (bg:V) (h:ah) (aP w:V) (ws:List bq) (W:eK [bg] b h aP ws) (M:hI (dS b) h bg) (X:cj (dS b) h p.enc (bL p w))
 (aK:ws.length + (oc t (p,p.words)).length<=1000000000):b' Tryz.prog 76 [.ptr (aC b) 0,.bool t,.agg (bL p w)] h (ik [bg] b h aP ws (oc t (p,p.words))):=UQ bP p aM al t b bg h aP w ws W M X aK
theorem Z4 {n:Nat} (bP:mu n) (p:aS) (aM:p.size<=n+1) (al:cX p) (ay:20<=p.k/\p.k<45) (b:Nat) (bg:V) (h:ah) (aP w:V) (ws:List bq) (W:eK [bg] b h aP ws) (M:hI (dS b) h bg) (X:cj (dS b) h p.enc (bL p w))
 (aK:ws.length + (cD p.k p.n p.s (a6 p.l)).length<=1000000000):b' Tryz.prog 40 [.ptr (aC b) 0,.agg (bL p w)] h (ik [bg] b h aP ws (cD p.k p.n p.s (a6 p.l))):=by
 have cN:=jr X;have ol:=cN.one;have hm:=M.lone;have dF:∀q ∈ p.l,q.size<=n/\cX q:=fun q aq=>⟨by have:=h1 aq;omega,ja al aq⟩;obtain ⟨J,ag,an,aG⟩:=gb h (bL p w);have bu:=W.ext an;have dZ:=M.ext an;have eD:=X.ext an;have b6:=cN.ext an;have bK:=b6.len;have hle:=b6.le;rw [anc] at bK hle;have aY:eN [bg] b J aP J aP ws:=fE.refl bu;refine Xw.z rfl (cp ?_);unfold Nl;simp only [bL] at ag aG ⊢;rcases (show p.k=20\/p.k=21\/p.k=22\/p.k=23\/p.k=24\/p.k=25\/p.k=26\/p.k=35\/p.k=37\/p.k=38\/p.k=28\/p.k=34\/p.k=36\/p.k=39\/(p.k=27\/p.k=29\/p.k=30\/p.k=31\/p.k=32\/p.k=33) by have:=rL al;omega) with e | e | e | e | e | e | e | e | e | e | e | e | e | e | e
 . have z:=And.intro ol (And.intro bK (lv e));have hw:cD p.k p.n p.s (a6 p.l)=[ot p.n]:=by simp [cD,z,cB,cC,cA]
   rw [hw] at aK ⊢
   try simp only [aT] at aK
   simp only [ag,aG.g,z,↓ab,ae,simprocAttr];refine bQ (Ta p.n _ _ _ _ _ aY.w (by first | omega | (simp only [aT];omega)) hm) aY W aG fun ad b7 aH br=>?_;simp only [br.g,z,↓ab,ae,simprocAttr];exact ⟨rfl,_,cu (aH.b9 an) (by simp)⟩
 . have z:=And.intro ol (And.intro bK (lv e));have hw:cD p.k p.n p.s (a6 p.l)=[dD 2 p.s]:=by simp [cD,z,cB,cC,cA]
   rw [hw] at aK ⊢
   try simp only [aT] at aK
   simp only [ag,aG.g,z,↓ab,ae,simprocAttr];refine bQ (oz 2 p.s _ _ _ _ _ aY.w (by first | omega | (simp only [aT];omega)) hm) aY W aG fun ad b7 aH br=>?_;simp only [br.g,z,↓ab,ae,simprocAttr];exact ⟨rfl,_,cu (aH.b9 an) (by simp)⟩
 . have z:=And.intro ol (And.intro bK (lv e));have hw:cD p.k p.n p.s (a6 p.l)=List.map kw [[40],[41]]:=by simp [cD,z,cB,cC,cA]
   rw [hw] at aK ⊢
   try simp only [aT] at aK
   simp only [ag,aG.g,z,↓ab,ae,simprocAttr];refine gB [[40],[41]] (by decide) (by simp) (by first | omega | (simp only [aT];omega)) hm aY W aG fun ad b7 aH br=>?_;simp only [br.g,z,↓ab,ae,simprocAttr];exact ⟨rfl,_,cu (aH.b9 an) (by simp)⟩
 . have z:=And.intro ol (And.intro bK (lv e));have hw:cD p.k p.n p.s (a6 p.l)=[oA p.n]:=by simp [cD,z,cB,cC,cA]
   rw [hw] at aK ⊢
   try simp only [aT] at aK
   simp only [ag,aG.g,z,↓ab,ae,simprocAttr];refine bQ (Ux p.n _ _ _ _ _ aY.w (by first | omega | (simp only [aT];omega)) hm) aY W aG fun ad b7 aH br=>?_;simp only [br.g,z,↓ab,ae,simprocAttr];exact ⟨rfl,_,cu (aH.b9 an) (by simp)⟩
 . have z:=And.intro ol (And.intro bK (lv e));have hw:cD p.k p.n p.s (a6 p.l)=[dD 3 p.s]:=by simp [cD,z,cB,cC,cA]
   rw [hw] at aK ⊢
   try simp only [aT] at aK
   simp only [ag,aG.g,z,↓ab,ae,simprocAttr];refine bQ (oz 3 p.s _ _ _ _ _ aY.w (by first | omega | (simp only [aT];omega)) hm) aY W aG fun ad b7 aH br=>?_;simp only [br.g,z,↓ab,ae,simprocAttr];exact ⟨rfl,_,cu (aH.b9 an) (by simp)⟩
 . have z:=And.intro ol (And.intro bK (lv e));have hw:cD p.k p.n p.s (a6 p.l)=[dD 4 p.s]++(eS (cO 10) (a6 p.l)):=by simp [cD,z,cB,cC,cA]
   rw [hw] at aK ⊢
   try simp only [aT] at aK
   simp only [ag,aG.g,z,↓ab,ae,simprocAttr];refine bQ (oz 4 p.s _ _ _ _ _ aY.w (by first | omega | (simp only [aT];omega)) hm) aY W aG fun ad b7 aH br=>?_;simp only [br.g,z,↓ab,ae,simprocAttr];refine fS (fun r g=>r 0=.ptr (aC b) 0/\r 50=w/\r 51=.int .i64 p.l.length/\∃(i:Nat) (dh:V) (Z:List bq),r 52=.int .i64 i/\i<=p.l.length/\eN [bg] b J aP g dh ((ws++[dD 4 p.s])++Z)/\Z++eS (cO 10) (a6 (p.l.drop i))=eS (cO 10) (a6 p.l)) (fun r g=>p.l.length - (r 52).toN) ?_ ?_
   . exact ⟨by simp only [↓ab,cx,simprocAttr],by simp only [↓ab,cx,simprocAttr],by simp only [↓ab,cx,simprocAttr],0,b7,[],by simp only [↓ab,cx,simprocAttr]<;>rfl,by omega,by rw [anC];exact aH,by rw [anN,anh]⟩
   rintro r g ⟨bb,rs,ij,i,hS,Z,mg,au,fB,cQ⟩;unfold Nn;by_cases aL:i<p.l.length
   . have g0:((i:Int) < (p.l.length:Int))=True:=am_ (by omega);have dt:=jG aL (by unfold top at hle;omega);rw [ant aL,a6,eS,<-List.append_assoc] at cQ;have ll:=congrArg List.length cQ;simp only [amZ] at ll;obtain ⟨mh,xo,hF,nb,lS⟩:=eJ fB bu b6 i _ rfl aL;obtain ⟨g2,av,aN,e4⟩:=jq g [.int .i64 0,.int .i64 0,.int .i64 0,.str [],.cc] (bL p.l[i] hF);have mY:=fB.ext aN;simp only [bL] at av e4;have c:=jM bP aM al aL 10 mY bu dZ (nb.ext aN) (by simp only [aT] at ll ⊢;omega);simp only [bb,rs,ij,mg,g0,dt,lS,av,e4.g,↓ab,ae,simprocAttr];refine bw c ?_;rintro x g3 ⟨rfl,dj,F⟩;have pY:=mY.trans F;rw [ana] at pY;simp only [bb,rs,ij,mg,dt,↓ab,ae,simprocAttr];exact ⟨⟨i+1,dj,_,rfl,aL,pY,cQ⟩,by omega⟩
   . have g0:((i:Int) < (p.l.length:Int))=False:=am2 (by omega);rw [anD (by omega)] at cQ;simp only [a6,eS,anC] at cQ;rw [cQ] at fB;simp only [bb,rs,ij,mg,g0,↓ab,ae,simprocAttr];exact ⟨rfl,_,cu (fB.b9 an) (by simp)⟩
 . have z:=And.intro ol (And.intro bK (lv e));have eZ:2<=p.l.length:=by have:=iN al (by omega);omega
   have hw:cD p.k p.n p.s (a6 p.l)=eb (a6 p.l) 5 [44] 4:=by simp [cD,z,cB,cC,cA]
   rw [hw] at aK ⊢
   try simp only [aT] at aK
   simp only [ag,aG.g,z,↓ab,ae,simprocAttr];refine bQ (pO bP p aM al eZ 5 [44] (by decide) 4 _ _ _ _ w _ aY.w (dZ.hx aY bu) (aY.cs bu eD) (by first | omega | (simp only [aT];omega))) aY W aG fun ad b7 aH br=>?_;simp only [br.g,z,↓ab,ae,simprocAttr];exact ⟨rfl,_,cu (aH.b9 an) (by simp)⟩
 . have z:=And.intro ol (And.intro bK (lv e));have eZ:2<=p.l.length:=by have:=iN al (by omega);omega
   have hw:cD p.k p.n p.s (a6 p.l)=eb (a6 p.l) 2 [59] 1:=by simp [cD,z,cB,cC,cA]
   rw [hw] at aK ⊢
   try simp only [aT] at aK
   simp only [ag,aG.g,z,↓ab,ae,simprocAttr];refine bQ (pO bP p aM al eZ 2 [59] (by decide) 1 _ _ _ _ w _ aY.w (dZ.hx aY bu) (aY.cs bu eD) (by first | omega | (simp only [aT];omega))) aY W aG fun ad b7 aH br=>?_;simp only [br.g,z,↓ab,ae,simprocAttr];exact ⟨rfl,_,cu (aH.b9 an) (by simp)⟩
 . have z:=And.intro ol (And.intro bK (lv e));have eZ:2<=p.l.length:=by have:=iN al (by omega);omega
   have hw:cD p.k p.n p.s (a6 p.l)=eb (a6 p.l) 4 [58,61] 2:=by simp [cD,z,cB,cC,cA]
   rw [hw] at aK ⊢
   try simp only [aT] at aK
   simp only [ag,aG.g,z,↓ab,ae,simprocAttr];refine bQ (pO bP p aM al eZ 4 [58,61] (by decide) 2 _ _ _ _ w _ aY.w (dZ.hx aY bu) (aY.cs bu eD) (by first | omega | (simp only [aT];omega))) aY W aG fun ad b7 aH br=>?_;simp only [br.g,z,↓ab,ae,simprocAttr];exact ⟨rfl,_,cu (aH.b9 an) (by simp)⟩
 . have CD:=SX p.s;by_cases b0:dR p.s=5
   . have z:=And.intro ol (And.intro bK (lv e));have kZ:(dR p.s=5)=True:=am_ b0;have er:IntKind.i64.wrap (dR p.s+1)=dR p.s+1:=CD;have ry:p.s≠[]:=by have:=(pC al).F8;rw [e] at this;intro z;rw [z] at this;exact absurd this (by decide)
     have eZ:2<=p.l.length:=by have:=iN al (by omega);omega
     have hw:cD p.k p.n p.s (a6 p.l)=eb (a6 p.l) 6 p.s (dR p.s+1):=by simp [cD,z,kZ,er,cB,cC,cA]
     rw [hw] at aK ⊢
     try simp only [aT] at aK
     simp only [ag,aG.g,z,kZ,er,↓ab,ae,simprocAttr];refine bw (Kc p.s J) ?_;rintro x ar ⟨rfl,dI⟩;rw [dI];simp only [ag,aG.g,z,kZ,er,↓ab,ae,simprocAttr];refine bQ (pO bP p aM al eZ 6 p.s ry (dR p.s+1) _ _ _ _ w _ aY.w (dZ.hx aY bu) (aY.cs bu eD) (by first | omega | (simp only [aT];omega))) aY W aG fun ad b7 aH br=>?_;simp only [br.g,z,kZ,er,↓ab,ae,simprocAttr];exact ⟨rfl,_,cu (aH.b9 an) (by simp)⟩
   . have z:=And.intro ol (And.intro bK (lv e));have kZ:(dR p.s=5)=False:=am2 b0;have er:IntKind.i64.wrap (dR p.s+1)=dR p.s+1:=CD;have ry:p.s≠[]:=by have:=(pC al).F8;rw [e] at this;intro z;rw [z] at this;exact absurd this (by decide)
     have eZ:2<=p.l.length:=by have:=iN al (by omega);omega
     have hw:cD p.k p.n p.s (a6 p.l)=eb (a6 p.l) (dR p.s) p.s (dR p.s+1):=by simp [cD,z,kZ,er,cB,cC,cA]
     rw [hw] at aK ⊢
     try simp only [aT] at aK
     simp only [ag,aG.g,z,kZ,er,↓ab,ae,simprocAttr];refine bw (Kc p.s J) ?_;rintro x ar ⟨rfl,dI⟩;rw [dI];simp only [ag,aG.g,z,kZ,er,↓ab,ae,simprocAttr];refine bQ (pO bP p aM al eZ (dR p.s) p.s ry (dR p.s+1) _ _ _ _ w _ aY.w (dZ.hx aY bu) (aY.cs bu eD) (by first | omega | (simp only [aT];omega))) aY W aG fun ad b7 aH br=>?_;simp only [br.g,z,kZ,er,↓ab,ae,simprocAttr];exact ⟨rfl,_,cu (aH.b9 an) (by simp)⟩
 . have eZ:=iN al (by omega);have bS:0<p.l.length:=by omega
   have da:1<p.l.length:=by omega
   have lZ:j1 (a6 p.l)=jz (p.l[0].kz<9\/p.l[0].k=25\/p.l[0].k=34) (p.l[0],p.l[0].words):=by unfold j1;rw [Ko p.l 0 bS]
   have yh:(p.l[0].kz<9\/p.l[0].k=25\/p.l[0].k=34)->j1 (a6 p.l)=oc true (p.l[0],p.l[0].words):=fun z=>by rw [lZ];unfold oc jz;simp only [z,aoJ]
   have Ik:¬(p.l[0].kz<9\/p.l[0].k=25\/p.l[0].k=34)->j1 (a6 p.l)=oc false (p.l[0],p.l[0].words):=fun z=>by rw [lZ];unfold oc jz;simp only [z,ao6,anm]
   by_cases bR:p.l[0].kz<9
   . have z:=And.intro ol (And.intro bK (lv e));have er:j1 (a6 p.l)=oc true (p.l[0],p.l[0].words):=yh (.inl bR);have jI:(p.l[0].kz<9)=True:=am_ bR;have bS:0<p.l.length:=by omega
     have da:1<p.l.length:=by omega
     have hw:cD p.k p.n p.s (a6 p.l)=oc true (p.l[0],p.l[0].words)++(cO 10 (p.l[1],p.l[1].words)):=by simp [cD,z,er,jI,cB,cC,cA,eO _ _ _ bS,eO _ _ _ da]
     rw [hw] at aK ⊢
     try simp only [aT] at aK
     obtain ⟨ki,fe,v1,jo,hg⟩:=eJ aY bu b6 0 0 rfl bS;obtain ⟨g1,kC,gW,gT⟩:=jq J [.int .i64 0,.int .i64 0,.int .i64 0,.str [],.cc] (bL p.l[0] v1);simp only [bL] at kC gT;have h5:=aY.ext gW;have lN:=iZ W aG h5;have kP:g1.get (aC b)=.a_ [bg,aP] 0 false:=h5.w.g;have ax:=BS p.l[0] bg v1 g1 (dZ.ext gW) (jo.ext gW);simp only [ag,aG.g,z,er,jI,hg,kC,gT.g,lN.g,kP,hm,↓ab,ae,simprocAttr];refine bw ax ?_;rintro x g2 ⟨rfl,js⟩;have mU:=gT.ext js;have u3:=lN.ext js;have mW:=h5.ext js;have nk:g2.get (aC b)=.a_ [bg,aP] 0 false:=mW.w.g;have rC:=F_ bP p.l[0] (dF _ (am3 bS)).1 (dF _ (am3 bS)).2 true b bg g2 aP v1 ws mW.w ((dZ.ext gW).ext js) ((jo.ext gW).ext js) (by first | omega | (simp only [aT];omega));simp only [mU.g,u3.g,nk,z,er,jI,hg,hm,↓ab,ae,simprocAttr];refine bw rC ?_;rintro x ad ⟨rfl,b7,r3⟩;have aH:=mW.trans r3;have br:=iZ W aG aH;obtain ⟨hs,fu,v2,ga,fJ⟩:=eJ aH bu b6 1 1 rfl da;simp only [br.g,z,er,jI,gT.g,mU.g,kP,nk,hm,hg,fJ,↓ab,ae,simprocAttr];refine bQ (jM bP aM al da 10 aH bu dZ ga (by simp only [aT];omega)) aH W aG fun aD dj bM ch=>?_;simp only [ch.g,z,er,jI,gT.g,mU.g,kP,nk,hm,hg,↓ab,ae,simprocAttr];exact ⟨rfl,_,cu (bM.b9 an) (by simp)⟩
   by_cases a2:p.l[0].k=25
   . have z:=And.intro ol (And.intro bK (lv e));have er:j1 (a6 p.l)=oc true (p.l[0],p.l[0].words):=yh (.inr (.inl a2));have jI:(p.l[0].kz<9)=False:=am2 bR;have hd:(p.l[0].k=25)=True:=am_ a2;have bS:0<p.l.length:=by omega
     have da:1<p.l.length:=by omega
     have hw:cD p.k p.n p.s (a6 p.l)=oc true (p.l[0],p.l[0].words)++(cO 10 (p.l[1],p.l[1].words)):=by simp [cD,z,er,jI,hd,cB,cC,cA,eO _ _ _ bS,eO _ _ _ da]
     rw [hw] at aK ⊢
     try simp only [aT] at aK
     obtain ⟨ki,fe,v1,jo,hg⟩:=eJ aY bu b6 0 0 rfl bS;obtain ⟨g1,kC,gW,gT⟩:=jq J [.int .i64 0,.int .i64 0,.int .i64 0,.str [],.cc] (bL p.l[0] v1);simp only [bL] at kC gT;have h5:=aY.ext gW;have lN:=iZ W aG h5;have kP:g1.get (aC b)=.a_ [bg,aP] 0 false:=h5.w.g;have ax:=BS p.l[0] bg v1 g1 (dZ.ext gW) (jo.ext gW);simp only [ag,aG.g,z,er,jI,hd,hg,kC,gT.g,lN.g,kP,hm,↓ab,ae,simprocAttr];refine bw ax ?_;rintro x g2 ⟨rfl,js⟩;have mU:=gT.ext js;have u3:=lN.ext js;have mW:=h5.ext js;have nk:g2.get (aC b)=.a_ [bg,aP] 0 false:=mW.w.g;have rC:=F_ bP p.l[0] (dF _ (am3 bS)).1 (dF _ (am3 bS)).2 true b bg g2 aP v1 ws mW.w ((dZ.ext gW).ext js) ((jo.ext gW).ext js) (by first | omega | (simp only [aT];omega));simp only [mU.g,u3.g,nk,z,er,jI,hd,hg,hm,↓ab,ae,simprocAttr];refine bw rC ?_;rintro x ad ⟨rfl,b7,r3⟩;have aH:=mW.trans r3;have br:=iZ W aG aH;obtain ⟨hs,fu,v2,ga,fJ⟩:=eJ aH bu b6 1 1 rfl da;simp only [br.g,z,er,jI,hd,gT.g,mU.g,kP,nk,hm,hg,fJ,↓ab,ae,simprocAttr];refine bQ (jM bP aM al da 10 aH bu dZ ga (by simp only [aT];omega)) aH W aG fun aD dj bM ch=>?_;simp only [ch.g,z,er,jI,hd,gT.g,mU.g,kP,nk,hm,hg,↓ab,ae,simprocAttr];exact ⟨rfl,_,cu (bM.b9 an) (by simp)⟩
   by_cases a3:p.l[0].k=34
   . have z:=And.intro ol (And.intro bK (lv e));have er:j1 (a6 p.l)=oc true (p.l[0],p.l[0].words):=yh (.inr (.inr a3));have jI:(p.l[0].kz<9)=False:=am2 bR;have hd:(p.l[0].k=25)=False:=am2 a2;have jJ:(p.l[0].k=34)=True:=am_ a3;have bS:0<p.l.length:=by omega
     have da:1<p.l.length:=by omega
     have hw:cD p.k p.n p.s (a6 p.l)=oc true (p.l[0],p.l[0].words)++(cO 10 (p.l[1],p.l[1].words)):=by simp [cD,z,er,jI,hd,jJ,cB,cC,cA,eO _ _ _ bS,eO _ _ _ da]
     rw [hw] at aK ⊢
     try simp only [aT] at aK
     obtain ⟨ki,fe,v1,jo,hg⟩:=eJ aY bu b6 0 0 rfl bS;obtain ⟨g1,kC,gW,gT⟩:=jq J [.int .i64 0,.int .i64 0,.int .i64 0,.str [],.cc] (bL p.l[0] v1);simp only [bL] at kC gT;have h5:=aY.ext gW;have lN:=iZ W aG h5;have kP:g1.get (aC b)=.a_ [bg,aP] 0 false:=h5.w.g;have ax:=BS p.l[0] bg v1 g1 (dZ.ext gW) (jo.ext gW);simp only [ag,aG.g,z,er,jI,hd,jJ,hg,kC,gT.g,lN.g,kP,hm,↓ab,ae,simprocAttr];refine bw ax ?_;rintro x g2 ⟨rfl,js⟩;have mU:=gT.ext js;have u3:=lN.ext js;have mW:=h5.ext js;have nk:g2.get (aC b)=.a_ [bg,aP] 0 false:=mW.w.g;have rC:=F_ bP p.l[0] (dF _ (am3 bS)).1 (dF _ (am3 bS)).2 true b bg g2 aP v1 ws mW.w ((dZ.ext gW).ext js) ((jo.ext gW).ext js) (by first | omega | (simp only [aT];omega));simp only [mU.g,u3.g,nk,z,er,jI,hd,jJ,hg,hm,↓ab,ae,simprocAttr];refine bw rC ?_;rintro x ad ⟨rfl,b7,r3⟩;have aH:=mW.trans r3;have br:=iZ W aG aH;obtain ⟨hs,fu,v2,ga,fJ⟩:=eJ aH bu b6 1 1 rfl da;simp only [br.g,z,er,jI,hd,jJ,gT.g,mU.g,kP,nk,hm,hg,fJ,↓ab,ae,simprocAttr];refine bQ (jM bP aM al da 10 aH bu dZ ga (by simp only [aT];omega)) aH W aG fun aD dj bM ch=>?_;simp only [ch.g,z,er,jI,hd,jJ,gT.g,mU.g,kP,nk,hm,hg,↓ab,ae,simprocAttr];exact ⟨rfl,_,cu (bM.b9 an) (by simp)⟩
   . have z:=And.intro ol (And.intro bK (lv e));have er:j1 (a6 p.l)=oc false (p.l[0],p.l[0].words):=Ik (by rintro (z | z | z);exact bR z;exact a2 z;exact a3 z);have jI:(p.l[0].kz<9)=False:=am2 bR;have hd:(p.l[0].k=25)=False:=am2 a2;have jJ:(p.l[0].k=34)=False:=am2 a3;have bS:0<p.l.length:=by omega
     have da:1<p.l.length:=by omega
     have hw:cD p.k p.n p.s (a6 p.l)=oc false (p.l[0],p.l[0].words)++(cO 10 (p.l[1],p.l[1].words)):=by simp [cD,z,er,jI,hd,jJ,cB,cC,cA,eO _ _ _ bS,eO _ _ _ da]
     rw [hw] at aK ⊢
     try simp only [aT] at aK
     obtain ⟨ki,fe,v1,jo,hg⟩:=eJ aY bu b6 0 0 rfl bS;obtain ⟨g1,kC,gW,gT⟩:=jq J [.int .i64 0,.int .i64 0,.int .i64 0,.str [],.cc] (bL p.l[0] v1);simp only [bL] at kC gT;have h5:=aY.ext gW;have lN:=iZ W aG h5;have kP:g1.get (aC b)=.a_ [bg,aP] 0 false:=h5.w.g;have ax:=BS p.l[0] bg v1 g1 (dZ.ext gW) (jo.ext gW);simp only [ag,aG.g,z,er,jI,hd,jJ,hg,kC,gT.g,lN.g,kP,hm,↓ab,ae,simprocAttr];refine bw ax ?_;rintro x g2 ⟨rfl,js⟩;have mU:=gT.ext js;have u3:=lN.ext js;have mW:=h5.ext js;have nk:g2.get (aC b)=.a_ [bg,aP] 0 false:=mW.w.g;have rC:=F_ bP p.l[0] (dF _ (am3 bS)).1 (dF _ (am3 bS)).2 false b bg g2 aP v1 ws mW.w ((dZ.ext gW).ext js) ((jo.ext gW).ext js) (by first | omega | (simp only [aT];omega));simp only [mU.g,u3.g,nk,z,er,jI,hd,jJ,hg,hm,↓ab,ae,simprocAttr];refine bw rC ?_;rintro x ad ⟨rfl,b7,r3⟩;have aH:=mW.trans r3;have br:=iZ W aG aH;obtain ⟨hs,fu,v2,ga,fJ⟩:=eJ aH bu b6 1 1 rfl da;simp only [br.g,z,er,jI,hd,jJ,gT.g,mU.g,kP,nk,hm,hg,fJ,↓ab,ae,simprocAttr];refine bQ (jM bP aM al da 10 aH bu dZ ga (by simp only [aT];omega)) aH W aG fun aD dj bM ch=>?_;simp only [ch.g,z,er,jI,hd,jJ,gT.g,mU.g,kP,nk,hm,hg,↓ab,ae,simprocAttr];exact ⟨rfl,_,cu (bM.b9 an) (by simp)⟩
 . have z:=And.intro ol (And.intro bK (lv e));have bS:0<p.l.length:=by have:=uq al (by omega);omega
   have hw:cD p.k p.n p.s (a6 p.l)=List.map kw [[114,97,105,115,101]]++(cO 10 (p.l[0],p.l[0].words)):=by simp [cD,z,cB,cC,cA,eO _ _ _ bS]
   rw [hw] at aK ⊢
   try simp only [aT] at aK
   simp only [ag,aG.g,z,↓ab,ae,simprocAttr];refine gB [[114,97,105,115,101]] (by decide) (by simp) (by first | omega | (simp only [aT];omega)) hm aY W aG fun ad b7 aH br=>?_;obtain ⟨hs,fu,v2,ga,fJ⟩:=eJ aH bu b6 0 0 rfl bS;simp only [br.g,z,fJ,↓ab,ae,simprocAttr];refine bQ (jM bP aM al bS 10 aH bu dZ ga (by simp only [aT];omega)) aH W aG fun aD dj bM ch=>?_;simp only [ch.g,z,↓ab,ae,simprocAttr];exact ⟨rfl,_,cu (bM.b9 an) (by simp)⟩
 . have z:=And.intro ol (And.intro bK (lv e));have bS:0<p.l.length:=by have:=uq al (by omega);omega
   have hw:cD p.k p.n p.s (a6 p.l)=List.map kw [[33]]++(cO 8 (p.l[0],p.l[0].words)):=by simp [cD,z,cB,cC,cA,eO _ _ _ bS]
   rw [hw] at aK ⊢
   try simp only [aT] at aK
   simp only [ag,aG.g,z,↓ab,ae,simprocAttr];refine gB [[33]] (by decide) (by simp) (by first | omega | (simp only [aT];omega)) hm aY W aG fun ad b7 aH br=>?_;obtain ⟨hs,fu,v2,ga,fJ⟩:=eJ aH bu b6 0 0 rfl bS;simp only [br.g,z,fJ,↓ab,ae,simprocAttr];refine bQ (jM bP aM al bS 8 aH bu dZ ga (by simp only [aT];omega)) aH W aG fun aD dj bM ch=>?_;simp only [ch.g,z,↓ab,ae,simprocAttr];exact ⟨rfl,_,cu (bM.b9 an) (by simp)⟩
 . have z:=And.intro ol (And.intro bK (lv e));have bS:0<p.l.length:=by have:=uq al (by omega);omega
   have hw:cD p.k p.n p.s (a6 p.l)=List.map kw [[45]]++(cO 8 (p.l[0],p.l[0].words)):=by simp [cD,z,cB,cC,cA,eO _ _ _ bS]
   rw [hw] at aK ⊢
   try simp only [aT] at aK
   simp only [ag,aG.g,z,↓ab,ae,simprocAttr];refine gB [[45]] (by decide) (by simp) (by first | omega | (simp only [aT];omega)) hm aY W aG fun ad b7 aH br=>?_;obtain ⟨hs,fu,v2,ga,fJ⟩:=eJ aH bu b6 0 0 rfl bS;simp only [br.g,z,fJ,↓ab,ae,simprocAttr];refine bQ (jM bP aM al bS 8 aH bu dZ ga (by simp only [aT];omega)) aH W aG fun aD dj bM ch=>?_;simp only [ch.g,z,↓ab,ae,simprocAttr];exact ⟨rfl,_,cu (bM.b9 an) (by simp)⟩
 . have z20:=am2 (show ¬p.k=20 by omega);have z21:=am2 (show ¬p.k=21 by omega);have z22:=am2 (show ¬p.k=22 by omega);have z23:=am2 (show ¬p.k=23 by omega);have z24:=am2 (show ¬p.k=24 by omega);have z25:=am2 (show ¬p.k=25 by omega);have z26:=am2 (show ¬p.k=26 by omega);have nI:=am2 (show ¬p.k=35 by omega);have z37:=am2 (show ¬p.k=37 by omega);have pT:=am2 (show ¬p.k=38 by omega);have z28:=am2 (show ¬p.k=28 by omega);have z34:=am2 (show ¬p.k=34 by omega);have z36:=am2 (show ¬p.k=36 by omega);have z39:=am2 (show ¬p.k=39 by omega);have z:=And.intro ol bK;have hw:cD p.k p.n p.s (a6 p.l)=hp p.k (a6 p.l):=by simp [cD,z,z20,z21,z22,z23,z24,z25,z26,nI,z37,pT,z28,z34,z36,z39,cB,cC,cA]
   rw [hw] at aK ⊢
   try simp only [aT] at aK
   simp only [ag,aG.g,z,z20,z21,z22,z23,z24,z25,z26,nI,z37,pT,z28,z34,z36,z39,↓ab,ae,simprocAttr];refine bQ (agS bP p aM al (by omega) _ _ _ _ w _ aY.w (dZ.hx aY bu) (aY.cs bu eD) (by first | omega | (simp only [aT];omega))) aY W aG fun ad b7 aH br=>?_;simp only [br.g,z,z20,z21,z22,z23,z24,z25,z26,nI,z37,pT,z28,z34,z36,z39,↓ab,ae,simprocAttr];exact ⟨rfl,_,cu (aH.b9 an) (by simp)⟩
theorem uk {k c:Int} (e:k=c):(k=45)=(c=45)/\(k=46)=(c=46)/\(k=47)=(c=47)/\(k=51)=(c=51)/\(k=52)=(c=52)/\(k=53)=(c=53)/\(k=50)=(c=50):=by simp only [e,aoM]
theorem Zn {n:Nat} (bP:mu n) (p:aS) (aM:p.size<=n+1) (al:cX p) (ay:45<=p.k) (b:Nat) (bg:V) (h:ah) (aP w:V) (ws:List bq) (W:eK [bg] b h aP ws) (M:hI (dS b) h bg) (X:cj (dS b) h p.enc (bL p w))
 (aK:ws.length + (fQ p.k p.n p.s (a6 p.l)).length<=1000000000):b' Tryz.prog 41 [.ptr (aC b) 0,.agg (bL p w)] h (ik [bg] b h aP ws (fQ p.k p.n p.s (a6 p.l))):=by
 have cN:=jr X;have ol:=cN.one;have hm:=M.lone;have dF:∀q ∈ p.l,q.size<=n/\cX q:=fun q aq=>⟨by have:=h1 aq;omega,ja al aq⟩;obtain ⟨J,ag,an,aG⟩:=gb h (bL p w);have bu:=W.ext an;have dZ:=M.ext an;have eD:=X.ext an;have b6:=cN.ext an;have bK:=b6.len;have hle:=b6.le;rw [anc] at bK hle;have aY:eN [bg] b J aP J aP ws:=fE.refl bu;refine Xx.z rfl (cp ?_);unfold No;simp only [bL] at ag aG ⊢;rcases (show p.k=45\/p.k=46\/p.k=47\/p.k=51\/p.k=52\/p.k=53\/p.k=50 by have:=rL al;omega) with e | e | e | e | e | e | e
 . have z:=And.intro ol (And.intro bK (uk e));have eZ:2<=p.l.length:=by have:=iN al (by omega);omega
   have hw:fQ p.k p.n p.s (a6 p.l)=eb (a6 p.l) 1 [45,62] 1:=by simp [fQ,z,cB,cC,cA]
   rw [hw] at aK ⊢
   try simp only [aT] at aK
   simp only [ag,aG.g,z,↓ab,ae,simprocAttr];refine bQ (pO bP p aM al eZ 1 [45,62] (by decide) 1 _ _ _ _ w _ aY.w (dZ.hx aY bu) (aY.cs bu eD) (by first | omega | (simp only [aT];omega))) aY W aG fun ad b7 aH br=>?_;simp only [br.g,z,↓ab,ae,simprocAttr];exact ⟨rfl,_,cu (aH.b9 an) (by simp)⟩
 . have z:=And.intro ol (And.intro bK (uk e));have bS:0<p.l.length:=by have:=uq al (by omega);omega
   have hw:fQ p.k p.n p.s (a6 p.l)=[dD 3 p.s]++(List.map kw [[61]]++(cO 1 (p.l[0],p.l[0].words))):=by simp [fQ,z,cB,cC,cA,eO _ _ _ bS]
   rw [hw] at aK ⊢
   try simp only [aT] at aK
   simp only [ag,aG.g,z,↓ab,ae,simprocAttr];refine bQ (oz 3 p.s _ _ _ _ _ aY.w (by first | omega | (simp only [aT];omega)) hm) aY W aG fun ad b7 aH br=>?_;simp only [br.g,z,↓ab,ae,simprocAttr];refine gB [[61]] (by decide) (by simp) (by simp only [aT];omega) hm aH W aG fun aD dj bM ch=>?_;obtain ⟨pP,y3,v3,oL,oN⟩:=eJ bM bu b6 0 0 rfl bS;simp only [ch.g,z,oN,↓ab,ae,simprocAttr];refine bQ (jM bP aM al bS 1 bM bu dZ oL (by simp only [aT];omega)) bM W aG fun bn fX cJ fz=>?_;simp only [fz.g,z,↓ab,ae,simprocAttr];exact ⟨rfl,_,cu (cJ.b9 an) (by simp)⟩
 . have z:=And.intro ol (And.intro bK (uk e));have hw:fQ p.k p.n p.s (a6 p.l)=[dD 4 p.s]++(eS iP (a6 p.l)):=by simp [fQ,z,cB,cC,cA]
   rw [hw] at aK ⊢
   try simp only [aT] at aK
   simp only [ag,aG.g,z,↓ab,ae,simprocAttr];refine bQ (oz 4 p.s _ _ _ _ _ aY.w (by first | omega | (simp only [aT];omega)) hm) aY W aG fun ad b7 aH br=>?_;simp only [br.g,z,↓ab,ae,simprocAttr];refine fS (fun r g=>r 0=.ptr (aC b) 0/\r 42=w/\r 43=.int .i64 p.l.length/\∃(i:Nat) (dh:V) (Z:List bq),r 44=.int .i64 i/\i<=p.l.length/\eN [bg] b J aP g dh ((ws++[dD 4 p.s])++Z)/\Z++eS iP (a6 (p.l.drop i))=eS iP (a6 p.l)) (fun r g=>p.l.length - (r 44).toN) ?_ ?_
   . exact ⟨by simp only [↓ab,cx,simprocAttr],by simp only [↓ab,cx,simprocAttr],by simp only [↓ab,cx,simprocAttr],0,b7,[],by simp only [↓ab,cx,simprocAttr]<;>rfl,by omega,by rw [anC];exact aH,by rw [anN,anh]⟩
   rintro r g ⟨bb,rs,ij,i,hS,Z,mg,au,fB,cQ⟩;unfold Hj;by_cases aL:i<p.l.length
   . have g0:((i:Int) < (p.l.length:Int))=True:=am_ (by omega);have dt:=jG aL (by unfold top at hle;omega);rw [ant aL,a6,eS,<-List.append_assoc] at cQ;have ll:=congrArg List.length cQ;simp only [amZ] at ll;obtain ⟨mh,xo,hF,nb,lS⟩:=eJ fB bu b6 i _ rfl aL;obtain ⟨g2,av,aN,e4⟩:=jq g [.int .i64 0,.int .i64 0,.int .i64 0,.str [],.cc] (bL p.l[i] hF);have mY:=fB.ext aN;simp only [bL] at av e4;have eE:(iP (p.l[i],p.l[i].words)).length=(cO 1 (p.l[i],p.l[i].words)).length+1:=rfl;have f2:=(Ext.refl g2).new (.a_ (ea [[111,102]]) 0 false);have k7:=uj [[111,102]] (by decide) (by simp) g2.next b bg (g2.new (.a_ (ea [[111,102]]) 0 false)) hS _ (mY.w.ext f2) (by simp only [aT] at ll ⊢;omega) hm (lQ.mk' mY.w _)
     simp only [bb,rs,ij,mg,g0,dt,lS,av,e4.g,↓ab,ae,simprocAttr];refine bw k7 ?_;rintro x g3 ⟨rfl,dj,F⟩;have dn:=F.b9 f2;have k0:=iZ fB.w e4 dn;have pY:=mY.trans dn;have c:=jM bP aM al aL 1 pY bu dZ (dn.cs mY.w (nb.ext aN)) (by simp only [aT] at ll ⊢;omega);simp only [bb,rs,ij,mg,k0.g,lS,↓ab,ae,simprocAttr];refine bw c ?_;rintro x g4 ⟨rfl,fX,kH⟩;have zS:=pY.trans kH
     try simp only [ana] at zS
     simp only [bb,rs,ij,mg,dt,↓ab,ae,simprocAttr];refine ⟨⟨i+1,fX,_,rfl,aL,?_,cQ⟩,by omega⟩
     try simp only [ana]
     exact zS
   . have g0:((i:Int) < (p.l.length:Int))=False:=am2 (by omega);rw [anD (by omega)] at cQ;simp only [a6,eS,anC] at cQ;rw [cQ] at fB;simp only [bb,rs,ij,mg,g0,↓ab,ae,simprocAttr];exact ⟨rfl,_,cu (fB.b9 an) (by simp)⟩
 . have z:=And.intro ol (And.intro bK (uk e));have hw:fQ p.k p.n p.s (a6 p.l)=List.map kw [[101,120,99,101,112,116,105,111,110]]++([dD 4 p.s]++(eS iP (a6 p.l))):=by simp [fQ,z,cB,cC,cA]
   rw [hw] at aK ⊢
   try simp only [aT] at aK
   simp only [ag,aG.g,z,↓ab,ae,simprocAttr];refine gB [[101,120,99,101,112,116,105,111,110]] (by decide) (by simp) (by first | omega | (simp only [aT];omega)) hm aY W aG fun ad b7 aH br=>?_;simp only [br.g,z,↓ab,ae,simprocAttr];refine bQ (oz 4 p.s _ _ _ _ _ aH.w (by simp only [aT];omega) hm) aH W aG fun aD dj bM ch=>?_;simp only [ch.g,z,↓ab,ae,simprocAttr];refine fS (fun r g=>r 0=.ptr (aC b) 0/\r 42=w/\r 43=.int .i64 p.l.length/\∃(i:Nat) (dh:V) (Z:List bq),r 44=.int .i64 i/\i<=p.l.length/\eN [bg] b J aP g dh (((ws++List.map kw [[101,120,99,101,112,116,105,111,110]])++[dD 4 p.s])++Z)/\Z++eS iP (a6 (p.l.drop i))=eS iP (a6 p.l)) (fun r g=>p.l.length - (r 44).toN) ?_ ?_
   . exact ⟨by simp only [↓ab,cx,simprocAttr],by simp only [↓ab,cx,simprocAttr],by simp only [↓ab,cx,simprocAttr],0,dj,[],by simp only [↓ab,cx,simprocAttr]<;>rfl,by omega,by rw [anC];exact bM,by rw [anN,anh]⟩
   rintro r g ⟨bb,rs,ij,i,hS,Z,mg,au,fB,cQ⟩;unfold Hj;by_cases aL:i<p.l.length
   . have g0:((i:Int) < (p.l.length:Int))=True:=am_ (by omega);have dt:=jG aL (by unfold top at hle;omega);rw [ant aL,a6,eS,<-List.append_assoc] at cQ;have ll:=congrArg List.length cQ;simp only [amZ] at ll;obtain ⟨mh,xo,hF,nb,lS⟩:=eJ fB bu b6 i _ rfl aL;obtain ⟨g2,av,aN,e4⟩:=jq g [.int .i64 0,.int .i64 0,.int .i64 0,.str [],.cc] (bL p.l[i] hF);have mY:=fB.ext aN;simp only [bL] at av e4;have eE:(iP (p.l[i],p.l[i].words)).length=(cO 1 (p.l[i],p.l[i].words)).length+1:=rfl;have f2:=(Ext.refl g2).new (.a_ (ea [[111,102]]) 0 false);have k7:=uj [[111,102]] (by decide) (by simp) g2.next b bg (g2.new (.a_ (ea [[111,102]]) 0 false)) hS _ (mY.w.ext f2) (by simp only [aT] at ll ⊢;omega) hm (lQ.mk' mY.w _)
     simp only [bb,rs,ij,mg,g0,dt,lS,av,e4.g,↓ab,ae,simprocAttr];refine bw k7 ?_;rintro x g3 ⟨rfl,dj,F⟩;have dn:=F.b9 f2;have k0:=iZ fB.w e4 dn;have pY:=mY.trans dn;have c:=jM bP aM al aL 1 pY bu dZ (dn.cs mY.w (nb.ext aN)) (by simp only [aT] at ll ⊢;omega);simp only [bb,rs,ij,mg,k0.g,lS,↓ab,ae,simprocAttr];refine bw c ?_;rintro x g4 ⟨rfl,fX,kH⟩;have zS:=pY.trans kH
     try simp only [ana] at zS
     simp only [bb,rs,ij,mg,dt,↓ab,ae,simprocAttr];refine ⟨⟨i+1,fX,_,rfl,aL,?_,cQ⟩,by omega⟩
     try simp only [ana]
     exact zS
   . have g0:((i:Int) < (p.l.length:Int))=False:=am2 (by omega);rw [anD (by omega)] at cQ;simp only [a6,eS,anC] at cQ;rw [cQ] at fB;simp only [bb,rs,ij,mg,g0,↓ab,ae,simprocAttr];exact ⟨rfl,_,cu (fB.b9 an) (by simp)⟩
 . have z:=And.intro ol (And.intro bK (uk e));have eZ:2<=p.l.length:=by have:=iN al (by omega);omega
   have hw:fQ p.k p.n p.s (a6 p.l)=List.map kw [[108,101,116]]++(eb (a6 p.l) 1 [61] 1):=by simp [fQ,z,cB,cC,cA]
   rw [hw] at aK ⊢
   try simp only [aT] at aK
   simp only [ag,aG.g,z,↓ab,ae,simprocAttr];refine gB [[108,101,116]] (by decide) (by simp) (by first | omega | (simp only [aT];omega)) hm aY W aG fun ad b7 aH br=>?_;simp only [br.g,z,↓ab,ae,simprocAttr];refine bQ (pO bP p aM al eZ 1 [61] (by decide) 1 _ _ _ _ w _ aH.w (dZ.hx aH bu) (aH.cs bu eD) (by simp only [aT];omega)) aH W aG fun aD dj bM ch=>?_;simp only [ch.g,z,↓ab,ae,simprocAttr];exact ⟨rfl,_,cu (bM.b9 an) (by simp)⟩
 . have z:=And.intro ol (And.intro bK (uk e));have hw:fQ p.k p.n p.s (a6 p.l)=List.map kw [[108,101,116],[114,101,99]]++(eB Prod.snd [97,110,100] (a6 p.l)):=by simp [fQ,z,cB,cC,cA]
   rw [hw] at aK ⊢
   try simp only [aT] at aK
   simp only [ag,aG.g,z,↓ab,ae,simprocAttr];refine gB [[108,101,116],[114,101,99]] (by decide) (by simp) (by first | omega | (simp only [aT];omega)) hm aY W aG fun ad b7 aH br=>?_;have h6:=aH.ek bu b6;simp only [br.g,z,sQ,↓ab,ae,simprocAttr];refine bQ (sS 23 (am2 (by decide)) Prod.snd p.l w [97,110,100] (by decide) _ _ _ _ _ aH.w (dZ.hx aH bu) h6 (by simp only [aT];omega) (fun i au aa dh w' iT=>bP _ (dF _ (id (am3 au))).1 (dF _ (id (am3 au))).2 b bg aa dh w' iT)) aH W aG fun aD dj bM ch=>?_;simp only [ch.g,z,↓ab,ae,simprocAttr];exact ⟨rfl,_,cu (bM.b9 an) (by simp)⟩
 . have D3:=EM al e;have oY:((p.n.toNat:Nat):Int)=p.n:=ao1 D3.1;by_cases aj:1<p.n
   . have z:=And.intro ol (And.intro bK (uk e));have gS:(1<p.n)=True:=am_ aj;have hw:fQ p.k p.n p.s (a6 p.l)=List.map kw [[116,121,112,101]]++(List.map kw [[40]]++(eB Prod.snd [44] (a6 (p.l.take (p.n.toNat)))++(List.map kw [[41]]++([dD 3 p.s]++(List.map kw [[61]]++(eB Prod.snd [124] (a6 (p.l.drop (p.n.toNat))))))))):=by simp [fQ,z,gS,cB,cC,cA,-List.drop_one]
     rw [hw] at aK ⊢
     try simp only [aT] at aK
     simp only [ag,aG.g,z,gS,↓ab,ae,simprocAttr];refine gB [[116,121,112,101]] (by decide) (by simp) (by first | omega | (simp only [aT];omega)) hm aY W aG fun ad b7 aH br=>?_;simp only [br.g,z,gS,↓ab,ae,simprocAttr];refine gB [[40]] (by decide) (by simp) (by simp only [aT];omega) hm aH W aG fun aD dj bM ch=>?_;have GM:=bM.ek bu b6;obtain ⟨pP,ej,Ae⟩:=cq.take GM (k:=.i64) (i:=p.n.toNat) (by rw [anc];omega);rw [<-List.map_take] at Ae;have qz:gJ 5 w none (some (.int .i64 p.n)) none=some pP:=by have z:=ej;rw [oY] at z;exact z
     simp only [ch.g,z,gS,qz,sQ,↓ab,ae,simprocAttr];refine bQ (sS 23 (am2 (by decide)) Prod.snd (p.l.take (p.n.toNat)) pP [44] (by decide) _ _ _ _ _ bM.w (dZ.hx bM bu) Ae (by simp only [aT];omega) (fun i au aa dh w' iT=>bP _ (dF _ (anU (am3 au))).1 (dF _ (anU (am3 au))).2 b bg aa dh w' iT)) bM W aG fun bn fX cJ fz=>?_;simp only [fz.g,z,gS,↓ab,ae,simprocAttr];refine gB [[41]] (by decide) (by simp) (by simp only [aT];omega) hm cJ W aG fun b0 gO cM fA=>?_;simp only [fA.g,z,gS,↓ab,ae,simprocAttr];refine bQ (oz 3 p.s _ _ _ _ _ cM.w (by simp only [aT];omega) hm) cM W aG fun ep uw iV lM=>?_;simp only [lM.g,z,gS,↓ab,ae,simprocAttr];refine gB [[61]] (by decide) (by simp) (by simp only [aT];omega) hm iV W aG fun fg wN mn oE=>?_;have Vr:=mn.ek bu b6;obtain ⟨UA,hQ,LD⟩:=cq.drop Vr (k:=.i64) (i:=p.n.toNat) (by rw [anc];omega);rw [<-List.map_drop] at LD;have adQ:gJ 5 w (some (.int .i64 p.n)) none none=some UA:=by have z:=hQ;rw [oY] at z;exact z
     simp only [oE.g,z,gS,adQ,sQ,↓ab,ae,simprocAttr];refine bQ (sS 23 (am2 (by decide)) Prod.snd (p.l.drop (p.n.toNat)) UA [124] (by decide) _ _ _ _ _ mn.w (dZ.hx mn bu) LD (by simp only [aT];omega) (fun i au aa dh w' iT=>bP _ (dF _ (an4 (am3 au))).1 (dF _ (an4 (am3 au))).2 b bg aa dh w' iT)) mn W aG fun qb amg U8 U5=>?_;simp only [U5.g,z,gS,↓ab,ae,simprocAttr];exact ⟨rfl,_,cu (U8.b9 an) (by simp)⟩
   . have z:=And.intro ol (And.intro bK (uk e));have gS:(1<p.n)=False:=am2 aj;have hw:fQ p.k p.n p.s (a6 p.l)=List.map kw [[116,121,112,101]]++(eB Prod.snd [44] (a6 (p.l.take (p.n.toNat)))++([dD 3 p.s]++(List.map kw [[61]]++(eB Prod.snd [124] (a6 (p.l.drop (p.n.toNat))))))):=by simp [fQ,z,gS,cB,cC,cA,-List.drop_one]
     rw [hw] at aK ⊢
     try simp only [aT] at aK
     simp only [ag,aG.g,z,gS,↓ab,ae,simprocAttr];refine gB [[116,121,112,101]] (by decide) (by simp) (by first | omega | (simp only [aT];omega)) hm aY W aG fun ad b7 aH br=>?_;have h6:=aH.ek bu b6;obtain ⟨hs,b_,ts⟩:=cq.take h6 (k:=.i64) (i:=p.n.toNat) (by rw [anc];omega);rw [<-List.map_take] at ts;have BB:gJ 5 w none (some (.int .i64 p.n)) none=some hs:=by have z:=b_;rw [oY] at z;exact z
     simp only [br.g,z,gS,BB,sQ,↓ab,ae,simprocAttr];refine bQ (sS 23 (am2 (by decide)) Prod.snd (p.l.take (p.n.toNat)) hs [44] (by decide) _ _ _ _ _ aH.w (dZ.hx aH bu) ts (by simp only [aT];omega) (fun i au aa dh w' iT=>bP _ (dF _ (anU (am3 au))).1 (dF _ (anU (am3 au))).2 b bg aa dh w' iT)) aH W aG fun aD dj bM ch=>?_;simp only [ch.g,z,gS,↓ab,ae,simprocAttr];refine bQ (oz 3 p.s _ _ _ _ _ bM.w (by simp only [aT];omega) hm) bM W aG fun bn fX cJ fz=>?_;simp only [fz.g,z,gS,↓ab,ae,simprocAttr];refine gB [[61]] (by decide) (by simp) (by simp only [aT];omega) hm cJ W aG fun b0 gO cM fA=>?_;have Ad:=cM.ek bu b6;obtain ⟨uY,fI,tt⟩:=cq.drop Ad (k:=.i64) (i:=p.n.toNat) (by rw [anc];omega);rw [<-List.map_drop] at tt;have BC:gJ 5 w (some (.int .i64 p.n)) none none=some uY:=by have z:=fI;rw [oY] at z;exact z
     simp only [fA.g,z,gS,BC,sQ,↓ab,ae,simprocAttr];refine bQ (sS 23 (am2 (by decide)) Prod.snd (p.l.drop (p.n.toNat)) uY [124] (by decide) _ _ _ _ _ cM.w (dZ.hx cM bu) tt (by simp only [aT];omega) (fun i au aa dh w' iT=>bP _ (dF _ (an4 (am3 au))).1 (dF _ (an4 (am3 au))).2 b bg aa dh w' iT)) cM W aG fun ep uw iV lM=>?_;simp only [lM.g,z,gS,↓ab,ae,simprocAttr];exact ⟨rfl,_,cu (iV.b9 an) (by simp)⟩
theorem aiv {n:Nat} (bP:mu n):mu (n+1):=by
 intro p aM al b bg h aP w ws W M X aK;have cN:=jr X;have ol:=cN.one;obtain ⟨J,ag,an,aG⟩:=gb h (bL p w);have bu:=W.ext an;have dZ:=M.ext an;have eD:=X.ext an;have hw:=tg p;unfold oS at hw;rw [hw] at aK ⊢;refine Xk.z rfl (cp ?_);unfold M4;by_cases bY:p.k<10
 . rw [anb bY] at aK ⊢;have c:=akK bP p aM al bY b bg J aP w ws bu dZ eD aK;simp only [bL] at ag aG c ⊢;simp only [ag,aG.g,ol,am_ bY,↓ab,ae,simprocAttr];refine bw c ?_;rintro x ad ⟨rfl,b7,E⟩;simp only [↓ab,ae,simprocAttr];exact ⟨rfl,b7,E.b9 an⟩
 rw [am7 bY] at aK ⊢;by_cases b_:p.k<20
 . rw [anb b_] at aK ⊢;have c:=aiw bP p aM al ⟨by omega,b_⟩ b bg J aP w ws bu dZ eD aK;simp only [bL] at ag aG c ⊢;simp only [ag,aG.g,ol,am2 bY,am_ b_,↓ab,ae,simprocAttr];refine bw c ?_;rintro x ad ⟨rfl,b7,E⟩;simp only [↓ab,ae,simprocAttr];exact ⟨rfl,b7,E.b9 an⟩
 rw [am7 b_] at aK ⊢;by_cases ej:p.k<45
 . rw [anb ej] at aK ⊢;have c:=Z4 bP p aM al ⟨by omega,ej⟩ b bg J aP w ws bu dZ eD aK;simp only [bL] at ag aG c ⊢;simp only [ag,aG.g,ol,am2 bY,am2 b_,am_ ej,↓ab,ae,simprocAttr];refine bw c ?_;rintro x ad ⟨rfl,b7,E⟩;simp only [↓ab,ae,simprocAttr];exact ⟨rfl,b7,E.b9 an⟩
 . rw [am7 ej] at aK ⊢;have c:=Zn bP p aM al (by omega) b bg J aP w ws bu dZ eD aK;simp only [bL] at ag aG c ⊢;simp only [ag,aG.g,ol,am2 bY,am2 b_,am2 ej,↓ab,ae,simprocAttr];refine bw c ?_;rintro x ad ⟨rfl,b7,E⟩;simp only [↓ab,ae,simprocAttr];exact ⟨rfl,b7,E.b9 an⟩
theorem S3:∀n,mu n
 | 0=>fun p aM=>absurd (w3 p) (by omega)
 | n+1=>aiv (S3 n)
theorem Zy {u:Nat} (h:u<10):(([48,49,50,51,52,53,54,55,56,57]:List UInt8).drop u).take 1=[UInt8.ofNat (48+u)]:=by revert u;decide
theorem OP (u:Nat) (hu:u<=4294967296) (h:ah):ff Tryz.prog 63 [.int .i64 u] h (.str (Lib.decDigits u)) h:=by
 induction u using Nat.strongRecOn with
 | _ u bA=>
   refine mP (XP.z rfl (cp ?_));unfold NL;rw [Lib.decDigits];by_cases D1:u<10
   . have g0:((u:Int)<10)=True:=am_ (by omega);have g1:(0<=(u:Int))=True:=am_ (by omega);have w:IntKind.i64.wrap ((u:Int)+1)=((u+1:Nat):Int):=by rw [wrap_i64 (by omega) (by omega)];rfl
     have g2:((u:Int)<=((u+1:Nat):Int))=True:=am_ (by omega);have g3:(((u+1:Nat):Int)<=((10:Nat):Int))=True:=am_ (by omega);have aM:mR (.str [48,49,50,51,52,53,54,55,56,57]) (some (.int .i64 (u:Int))) (some (.int .i64 ((u+1:Nat):Int))) none=some (.str [UInt8.ofNat (48+u)]):=by rw [Ub,anb ⟨by omega,by omega,by simp only [am0,am8];omega⟩,am9,am9,show u+1-u=1 by omega,Zy D1]
     rw [dif_pos D1];simp only [g0,w,aM,↓ab,ae,simprocAttr]
   . have g0:((u:Int)<10)=False:=am2 (by omega);rw [dif_neg D1];have aq:(en.int .quo).run Tryz.prog (.int .i64 (u:Int)) (.int .i64 10)=some (.int .i64 ((u / 10:Nat):Int)):=by
      rw [Rw .i64 _ _ (by decide),show (10:Int)=((10:Nat):Int) from rfl,<-Int.ofNat_tdiv,wrap_i64 (by omega) (by omega)]
     have aJ:(en.int .rem).run Tryz.prog (.int .i64 (u:Int)) (.int .i64 10)=some (.int .i64 ((u % 10:Nat):Int)):=by rw [JB .i64 _ _ (by decide),show (10:Int)=((10:Nat):Int) from rfl,<-Int.ofNat_tmod]
     simp only [g0,aq,↓ab,ae,simprocAttr];refine ey (bA (u / 10) (by omega) (by omega)) ?_;simp only [g0,aJ,↓ab,ae,simprocAttr];refine ey (bA (u % 10) (by omega) (by omega)) ?_;have ad:Lib.decDigits (u % 10)=[UInt8.ofNat (48+u % 10)]:=by rw [Lib.decDigits,dif_pos (by omega)]
     have ax:(Lib.decDigits (u / 10)).length<=20:=by rw [Lib.decDigits_length];exact Lib.nDigits_le20 _ (by omega)
     rw [ad];have oW:((Lib.decDigits (u / 10)).length+1<=17179869184)=True:=am_ (by omega);simp only [oW,↓ab,ae,simprocAttr]
theorem ai6 (s:List UInt8) (aM:s.length<=90000) (h:ah):b' Tryz.prog 64 [.str s] h fun x aa=>x=.str (qH s)/\Ext h aa:=by
 refine XQ.z rfl (cp ?_);unfold NM;simp only [↓ab,ae,simprocAttr];have qx:Ext h (h.new (.a_ [.int .u8 34] 0 false)):=(Ext.refl h).new _;have Jf:c_ h.next (h.new (.a_ [.int .u8 34] 0 false)) 1 (.slice (aC h.next) 0 1 1) 1 (dQ [34]):=⟨rfl,rfl,by rw [dX];exact am6 _,hB (by rw [gD];omega),am6 _,by unfold top;omega,_,0,false,ju _,by simp,rfl⟩
 generalize h.new (.a_ [.int .u8 34] 0 false)=J at *;have on:∀(aa:ah) (v:V) (n m:Nat) (pre piece:List UInt8) (cs:List V),c_ h.next aa 1 v n (dQ pre)->Ext h aa->n<=400000->m<=4->cs=dQ piece->cs.length=m * 1->
  ∃cI aD,iY 1 v (.slice (aC aa.next) 0 m m) (aa.new (.a_ cs 0 false))=.val cI aD/\c_ h.next aD 1 cI (n+m) (dQ (pre++piece))/\Ext h aD:=by
  intro aa v n m pre piece cs bB ar aX hm gZ ax;obtain ⟨cI,aD,ag,av,aI,bU,c8⟩:=xM (m:=m) (cs:=cs) (by omega) bB ar.next (by unfold top;omega) ax (by rw [gZ];exact Ds _)
  refine ⟨cI,aD,ag,?_,ar.lz aI (fun b aj=>bB.base aj)⟩;rw [tA,<-gZ];exact av
 refine fS (fun r aa=>∃(i:Nat) (v:V) (n:Nat),r 3=v/\r 0=.str s/\r 4=.int .i64 i/\i<=s.length/\n<=1+4 * i/\
  c_ h.next aa 1 v n (dQ (34::(s.take i).flatMap hD))/\Ext h aa) (fun r aa=>s.length - (r 4).toN) ?_ ?_
 . exact ⟨0,_,1,by simp only [↓ab,ae,simprocAttr]<;>rfl,by simp only [↓ab,ae,simprocAttr],by simp only [↓ab,ae,simprocAttr]<;>rfl,by omega,by omega,Jf,qx⟩
 . rintro r aa ⟨i,v,n,bX,bb,dN,au,aX,bB,ar⟩;unfold NN;by_cases aL:i<s.length
   . have g0:((i:Int) < (s.length:Int))=True:=am_ (by omega);have g1:(0<=(i:Int))=True:=am_ (by omega);have A0:=(s[i]).toNat_lt;have w:IntKind.i64.wrap ((i:Int)+1)=((i+1:Nat):Int):=by rw [wrap_i64 (by omega) (by omega)];rfl
     have hK:(((s[i]).toNat:Int)=34)=(s[i]=34):=pQ _ 34 (by omega);have nh:(((s[i]).toNat:Int)=92)=(s[i]=92):=pQ _ 92 (by omega);have sH:=amY aL;have rA:∀piece,hD s[i]=piece->(34::(s.take i).flatMap hD)++piece=34::(s.take (i+1)).flatMap hD:=by intro piece ak;rw [Up aL,ak];rfl
     by_cases J:s[i]=34\/s[i]=92
     . have aq:hD s[i]=[92,s[i]]:=by unfold hD;rw [anb J]
       obtain ⟨v1,ad,ag,av,aI⟩:=on aa v n 1 _ [92] [.int .u8 92] bB ar (by omega) (by omega) rfl rfl;obtain ⟨v2,aD,bU,c8,eH⟩:=on ad v1 (n+1) 1 _ [s[i]] [.int .u8 ((s[i]).toNat:Int)] av aI (by omega) (by omega) rfl rfl;rw [ana] at c8;rw [rA ([92]++[s[i]]) aq] at c8;have bW:(s[i]).toNat=34\/(s[i]).toNat=92:=J.imp (fun q=>by rw [q];rfl) (fun q=>by rw [q];rfl);have t1:(((s[i]).toNat:Int)<32)=False:=am2 (by omega);have t2:((126:Int) < ((s[i]).toNat:Int))=False:=am2 (by omega);by_cases sl:s[i]=34
       . have t3:=am_ sl;simp only [bX,bb,dN,g0,g1,sH,am9,hK,nh,t1,t2,t3,ag,bU,w,↓ab,ae,simprocAttr];exact ⟨⟨i+1,v2,n+1+1,rfl,rfl,aL,by omega,c8,eH⟩,by omega⟩
       . have t3:=am2 sl;have t4:=am_ (J.resolve_left sl);simp only [bX,bb,dN,g0,g1,sH,am9,hK,nh,t1,t2,t3,t4,ag,bU,w,↓ab,ae,simprocAttr];exact ⟨⟨i+1,v2,n+1+1,rfl,rfl,aL,by omega,c8,eH⟩,by omega⟩
     . have n34:=am2 (fun q=>J (.inl q):¬s[i]=34);have wU:=am2 (fun q=>J (.inr q):¬s[i]=92);by_cases ad:(s[i]).toNat<32\/127<=(s[i]).toNat
       . have aq:hD s[i]=[92,(48 + (s[i]).toNat / 100).toUInt8,(48 + (s[i]).toNat / 10 % 10).toUInt8,(48 + (s[i]).toNat % 10).toUInt8]:=by unfold hD;rw [am7 J,anb ad]
         obtain ⟨cI,aD,ag,av,aI⟩:=on aa v n 4 _ _ [.int .u8 92,.int .u8 ((48 + (s[i]).toNat / 100:Nat):Int),.int .u8 ((48 + (s[i]).toNat / 10 % 10:Nat):Int),.int .u8 ((48 + (s[i]).toNat % 10:Nat):Int)] bB ar (by omega) (by omega) (Md _).symm rfl;rw [rA _ aq] at av;have bk:(en.int .quo).run Tryz.prog (.int .u8 ((s[i]).toNat:Int)) (.int .u8 100)=some (.int .u8 (((s[i]).toNat / 100:Nat):Int)):=Fx (s[i]).toNat 100 A0 (by omega);have dT:(en.int .quo).run Tryz.prog (.int .u8 ((s[i]).toNat:Int)) (.int .u8 10)=some (.int .u8 (((s[i]).toNat / 10:Nat):Int)):=Fx (s[i]).toNat 10 A0 (by omega);have CE:(en.int .rem).run Tryz.prog (.int .u8 (((s[i]).toNat / 10:Nat):Int)) (.int .u8 10)=some (.int .u8 (((s[i]).toNat / 10 % 10:Nat):Int)):=FK ((s[i]).toNat / 10) 10 (by omega);have CF:(en.int .rem).run Tryz.prog (.int .u8 ((s[i]).toNat:Int)) (.int .u8 10)=some (.int .u8 (((s[i]).toNat % 10:Nat):Int)):=FK (s[i]).toNat 10 (by omega);have b4:=zJ ((s[i]).toNat / 100) (by omega);have b1:=zJ ((s[i]).toNat / 10 % 10) (by omega);have jY:=zJ ((s[i]).toNat % 10) (by omega);by_cases H5:(s[i]).toNat<32
         . have t1:(((s[i]).toNat:Int)<32)=True:=am_ (by omega);simp only [bX,bb,dN,g0,g1,sH,am9,hK,nh,n34,wU,t1,bk,dT,CE,CF,b4,b1,jY,ag,w,↓ab,ae,simprocAttr];exact ⟨⟨i+1,cI,n+4,rfl,rfl,aL,by omega,av,aI⟩,by omega⟩
         . have t1:(((s[i]).toNat:Int)<32)=False:=am2 (by omega);have t2:((126:Int) < ((s[i]).toNat:Int))=True:=am_ (by omega);simp only [bX,bb,dN,g0,g1,sH,am9,hK,nh,n34,wU,t1,t2,bk,dT,CE,CF,b4,b1,jY,ag,w,↓ab,ae,simprocAttr];exact ⟨⟨i+1,cI,n+4,rfl,rfl,aL,by omega,av,aI⟩,by omega⟩
       . have aq:hD s[i]=[s[i]]:=by unfold hD;rw [am7 J,am7 ad]
         obtain ⟨cI,aD,ag,av,aI⟩:=on aa v n 1 _ [s[i]] [.int .u8 ((s[i]).toNat:Int)] bB ar (by omega) (by omega) rfl rfl;rw [rA _ aq] at av;have t1:(((s[i]).toNat:Int)<32)=False:=am2 (by omega);have t2:((126:Int) < ((s[i]).toNat:Int))=False:=am2 (by omega);simp only [bX,bb,dN,g0,g1,sH,am9,hK,nh,n34,wU,t1,t2,ag,w,↓ab,ae,simprocAttr];exact ⟨⟨i+1,cI,n+1,rfl,rfl,aL,by omega,av,aI⟩,by omega⟩
   . have j9:i=s.length:=by omega
     have g0:((i:Int) < (s.length:Int))=False:=am2 (by omega);rw [j9,aox] at bB;obtain ⟨cI,aD,ag,av,aI⟩:=on aa v n 1 _ [34] [.int .u8 34] bB ar (by omega) (by omega) rfl rfl;have aj:(34::s.flatMap hD)++[34]=qH s:=rfl;rw [aj] at av;have hlen:n+1=(qH s).length:=by have:=av.1;rw [oQ,aov] at this;omega
     rw [hlen] at av;simp only [bX,bb,dN,g0,ag,xU av,↓ab,ae,simprocAttr];exact aI
theorem TG (k n p:Int) (s:List UInt8) (aM:s.length<=90000) (aX:k=1->-1073741824<=n/\n<=1073741823) (h:ah):b' Tryz.prog 33 [.agg [.int .i64 k,.int .i64 n,.int .i64 p,.str s]] h fun x aa=>x=.str (jj k n s)/\Ext h aa:=by
 refine Xq.z rfl (cp ?_);unfold xS;have ar:Ext h (h.new (.a_ [.int .i64 k,.int .i64 n,.int .i64 p,.str s] 0 false)):=(Ext.refl h).new _;by_cases J:k=1
 . subst J;obtain ⟨gC,jB⟩:=aX rfl;by_cases sB:n<0
   . have g0:=am_ sB;obtain ⟨u,hu⟩:∃u:Nat,n+2147483648=u:=⟨(n+2147483648).toNat,by omega⟩;have w:IntKind.i64.wrap (n+2147483648)=(u:Int):=by rw [wrap_i64 (by omega) (by omega),hu]
     have hw:jj 1 n s=Lib.decDigits u:=by show Lib.itoa (if n<0 then n+2147483648 else n)=_;rw [anb sB,hu,Lib.itoa_nonneg]
     simp only [g0,w,↓ab,ae,simprocAttr];refine ey (OP u (by omega) _) ?_;rw [hw];simp only [↓ab,ae,simprocAttr];exact ar
   . have g0:=am2 sB;obtain ⟨u,rfl⟩:∃u:Nat,n=u:=⟨n.toNat,by omega⟩;have hw:jj 1 u s=Lib.decDigits u:=by
      show Lib.itoa (if (u:Int)<0 then _ else (u:Int))=_;rw [am7 sB,Lib.itoa_nonneg]
     simp only [g0,↓ab,ae,simprocAttr];refine ey (OP u (by omega) _) ?_;rw [hw];simp only [↓ab,ae,simprocAttr];exact ar
 have bY:=am2 J;by_cases ad:k=2
 . subst ad;rw [show jj 2 n s=qH s from rfl];simp only [↓ab,ae,simprocAttr];refine bw (ai6 s aM _) ?_;rintro x ad ⟨rfl,fH⟩;simp only [↓ab,ae,simprocAttr];exact ar.trans fH
 have b_:=am2 ad;by_cases b0:k=5
 . subst b0;have oW:(1+s.length<=17179869184)=True:=am_ (by omega);rw [show jj 5 n s=39::s from rfl];simp only [oW,ang,anh,↓ab,ae,simprocAttr];exact ar
 . have fI:=am2 b0;rw [show jj k n s=s by unfold jj;rw [am7 J,am7 ad,am7 b0]];simp only [bY,b_,fI,↓ab,ae,simprocAttr];exact ar
theorem Rr (x:List UInt8):∀L:List (List UInt8),Lib.join (L++[x]) [32]=if L=[] then x else Lib.join L [32]++([32]++x)
 | []=>by rw [anb rfl];exact Lib.join_one x [32]
 | y::L=>by rw [am7 (by simp),ang,Lib.join_cons,Lib.join_cons,ana];congr 1;unfold Lib.joinTail;rw [aor,List.flatten_append];simp
theorem ai8 (v0:V) (ws:List bq) (h:ah) (H:e9 h 4 v0 ws.length (kY ws)) (ax:ws.length<=10000) (aE:∀w ∈ ws,w.text.length<=50000):
 b' Tryz.prog 20 [v0] h fun x aa=>x=.tuple [.str (hT ws).1,.int .i64 (hT ws).2]/\Ext h aa:=by
 refine Xi.z rfl (cp ?_);unfold MZ;simp only [↓ab,ae,simprocAttr]
 refine fS (fun r aa=>∃(i:Nat) (v:V) (n:Nat),r 4=v/\r 0=v0/\r 5=.int .i64 i/\i<=ws.length/\n<=i * 200003/\((ws.take i).all bq.may=true)/\
  c_ h.next aa 1 v n (dQ (Lib.join ((ws.take i).map bq.out) [32]))/\Ext h aa) (fun r aa=>ws.length - (r 5).toN) ?_ ?_
 . exact ⟨0,.cc,0,by simp only [↓ab,ae,simprocAttr],by simp only [↓ab,ae,simprocAttr],by simp only [↓ab,ae,simprocAttr]<;>rfl,by omega,by omega,rfl,⟨by simp [dQ,Lib.join_nil],by simp⟩,Ext.refl _⟩
 . rintro r aa ⟨i,v,n,dN,bb,dC,au,aX,du,bB,ar⟩;unfold M0;by_cases aL:i<ws.length
   . have g0:((i:Int) < (ws.length:Int))=True:=am_ (by omega);obtain ⟨b8,dc,hP,dp⟩:=(H.ext ar).dG (k:=.i64) aL;have eA:=dp.ka (i:=i * 4) (n:=4) (by rw [F'];omega);rw [F9 ws i aL] at eA;have hlen:=(H.ext ar).len;have w:IntKind.i64.wrap ((i:Int)+1)=((i+1:Nat):Int):=by rw [wrap_i64 (by omega) (by omega)];rfl
     have Q1:=aE ws[i] (am3 aL);have rq:ws[i].may=jc ws[i].kind ws[i].num ws[i].text:=rfl;have kt:ws[i].out=jj ws[i].kind ws[i].num ws[i].text:=rfl;have acu:ws[i].may=true->ws[i].out.length<=200002:=fun q=>S0 q Q1;have IW:ws[i].may=false->hT ws=([],2):=by intro q;unfold hT;rw [am7];rw [anr];intro av;rw [av _ (am3 aL)] at q;cases q
     have rz:ws.take (i+1)=ws.take i++[ws[i]]:=(List.take_append_getElem aL).symm;have Qb:=F9 ws i aL;unfold bq.enc at eA Qb;generalize ws[i]=wd at *;obtain ⟨k,hz,p,s⟩:=wd;simp only at *;simp only [dN,bb,dC,g0,hlen,H.len,hP,eA,w,↓ab,ae,simprocAttr];refine bw (ai5 k hz p s (by omega) aa) ?_;rintro x ad ⟨rfl,fH⟩;have o1:Ext h ad:=ar.trans fH;have tW:=bB.ext fH;cases hm:jc k hz s with
     | false=>
       simp only [↓ab,ae,simprocAttr];rw [IW (rq.trans hm)];exact ⟨rfl,o1⟩
     | true=>
       have qo:=acu (rq.trans hm);rw [kt] at qo;have vO:(ws.take (i+1)).all bq.may=true:=by rw [rz,an5,du];simp [rq,hm]
       have QN:k=1->-1073741824<=hz/\hz<=1073741823:=by rintro rfl;rw [EY] at hm;simp only [amX,ane] at hm;exact ⟨hm.1.2,hm.2⟩
       have tail:∀(aD:ah) (v3:V) (n3:Nat) (pre:List UInt8),Ext h aD->c_ h.next aD 1 v3 n3 (dQ pre)->n3<=n+1->pre++jj k hz s=Lib.join ((ws.take (i+1)).map bq.out) [32]->
        ∀bn,Ext aD bn->∃v5 b0,iY 1 v3 (.str (jj k hz s)) bn=.val v5 b0/\c_ h.next b0 1 v5 (n3 + (jj k hz s).length) (dQ (Lib.join ((ws.take (i+1)).map bq.out) [32]))/\Ext h b0:=by
        intro aD v3 n3 pre o0 tX al7 lq bn n_;have Br:=o0.trans n_;obtain ⟨v5,b0,ag,av,aI,bU⟩:=V4 (jj k hz s) (tX.ext n_) Br.next (by unfold top;omega)
        refine ⟨v5,b0,ag,?_,Br.lz aI (fun b aj=>tX.base aj)⟩;rw [<-lq,tA];exact av
       have Qi:∀aD,Ext h aD->o2 4 (aD.get b8) (dc+i * 4)=some (.agg [.int .i64 k,.int .i64 hz,.int .i64 p,.str s]):=by intro aD o0;obtain ⟨cF,c4,ob,Wf⟩:=(H.ext o0).dG (k:=.i64) aL;rw [hP] at ob;have an:=V.ptr.inj (an9 ob);have um:=Wf.ka (i:=i * 4) (n:=4) (by rw [F'];omega);rw [Qb] at um;rw [an.1,an.2];exact um
       by_cases bS:0<i
       . have t1:((0:Int) < (i:Int))=True:=am_ (by omega);obtain ⟨v3,aD,ag,av,aI,bU,c8⟩:=xM (m:=1) (cs:=[.int .u8 32]) (by omega) tW o1.next (by unfold top;omega) rfl rfl
         have o0:Ext h aD:=o1.lz aI (fun b aj=>tW.base aj);have lq:(Lib.join ((ws.take i).map bq.out) [32]++[32])++jj k hz s=Lib.join ((ws.take (i+1)).map bq.out) [32]:=by rw [rz,aor,anZ,ao4,Rr,kt,am7 (by intro e;have:=congrArg List.length e;rw [anc,anH] at this;simp only [am8] at this;omega),ana]
         have Fw:c_ h.next aD 1 v3 (n+1) (dQ (Lib.join ((ws.take i).map bq.out) [32]++[32])):=by rw [tA];exact av
         simp only [dN,bb,dC,t1,ag,hP,Qi aD o0,↓ab,ae,simprocAttr];refine bw (TG k hz p s (by omega) QN aD) ?_;rintro x bn ⟨rfl,n_⟩;obtain ⟨v5,b0,eH,iR,kg⟩:=tail aD v3 (n+1) _ o0 Fw (by omega) lq bn n_;simp only [dN,bb,dC,eH,w,↓ab,ae,simprocAttr];exact ⟨⟨i+1,v5,_,rfl,rfl,aL,by omega,vO,iR,kg⟩,by omega⟩
       . have t1:((0:Int) < (i:Int))=False:=am2 (by omega);have lq:Lib.join ((ws.take i).map bq.out) [32]++jj k hz s=Lib.join ((ws.take (i+1)).map bq.out) [32]:=by
          rw [rz,aor,anZ,ao4,Rr,kt];have:i=0:=by omega
          subst this;rfl
         simp only [dN,bb,dC,t1,hP,Qi ad o1,↓ab,ae,simprocAttr];refine bw (TG k hz p s (by omega) QN ad) ?_;rintro x bn ⟨rfl,n_⟩;obtain ⟨v5,b0,eH,iR,kg⟩:=tail ad v n _ o1 tW (by omega) lq bn n_;simp only [dN,bb,dC,eH,w,↓ab,ae,simprocAttr];exact ⟨⟨i+1,v5,_,rfl,rfl,aL,by omega,vO,iR,kg⟩,by omega⟩
   . have j9:i=ws.length:=by omega
     have g0:((i:Int) < (ws.length:Int))=False:=am2 (by omega);rw [j9,aox] at bB du;have hw:hT ws=(Lib.join (ws.map bq.out) [32],0):=by unfold hT;rw [anb du]
     have hlen:n=(Lib.join (ws.map bq.out) [32]).length:=by have:=bB.1;rw [oQ,aov] at this;omega
     rw [hlen] at bB;simp only [dN,bb,dC,g0,(H.ext ar).len,xU bB,↓ab,ae,simprocAttr];rw [hw];exact ⟨rfl,ar⟩
theorem BP {l:List aS} (aM:gg l<=1000000000) (h:iG l=0):∀q ∈ l,cX q/\fo q.k=7:=by
 intro q aq;unfold iG at h
 split at h
 . rename_i c;have:=anr.1 c q aq;simp only [amX,ane] at this;exact ⟨by rw [cX,EZ _ q (am6 _) (by have:=rT aq;omega)];exact this.2,this.1⟩
 . cases h
def oC (l:List aS):List bq:=if iG l=0 then ev l else []
theorem ak4 (l:List aS) (aM:gg l<=100000000) (v:V) (h:ah) (L:cq Any h 5 (l.map aS.enc) v):
 b' Tryz.prog 10 [v] h fun x aa=>∃aP,x=.tuple [aP,.int .i64 (iG l)]/\c_ h.next aa 4 aP (oC l).length (kY (oC l))/\Ext h aa:=by
 have ax:=L.len;have hle:=L.le;rw [anc] at ax hle;have wA:=K9 l;refine WX.z rfl (cp ?_);unfold Me;simp only [↓ab,ae,simprocAttr];refine bw (YN l (by omega) v h L) ?_;rintro x J ⟨rfl,an⟩;by_cases ao:iG l=0
 rotate_left
 . have jw:=am2 ao;simp only [jw,↓ab,ae,simprocAttr];exact ⟨_,rfl,by unfold oC;rw [am7 ao];exact ⟨rfl,rfl⟩,an⟩
 have wz:oC l=ev l:=by unfold oC;rw [anb ao]
 rw [wz,ao];have ql:=BP (by omega) ao;simp only [↓ab,ae,simprocAttr];refine bw (agD J) ?_;rintro bg ad ⟨aN,M2⟩;have hm:=M2.lone;obtain ⟨aD,aI,cv,k0⟩:=gb ad [bg,.cc];have zR:=(an.trans aN).trans cv;have hold:∀q,Old h q->dS ad.next q:=fun q z=>by unfold dS;unfold Old at z;have:=(an.trans aN).next;omega
 have Vm:hI (dS ad.next) aD bg:=(hI.mod (Mod.refl (fun _=>False) ad) (fun q _ o=>⟨id,o⟩) M2).ext cv;have GD:cq (dS ad.next) aD 5 (l.map aS.enc) v:=(L.Fa.ext zR).nH hold;have xJ:eK [bg] ad.next aD .cc []:=⟨k0.g,⟨rfl,rfl⟩,k0.lt⟩
 simp only [aI,hm,ax,↓ab,ae,simprocAttr];refine fS (fun r g=>r 5=.ptr (aC ad.next) 0/\r 16=v/\r 17=.int .i64 l.length/\∃(i:Nat) (dh:V) (A:List bq),r 18=.int .i64 i/\i<=l.length/\eN [bg] ad.next aD .cc g dh A/\A++ev (l.drop i)=ev l) (fun r g=>l.length - (r 18).toN) ?_ ?_
 . exact ⟨by simp only [↓ab,cx,simprocAttr],by simp only [↓ab,cx,simprocAttr],by simp only [↓ab,cx,simprocAttr],0,.cc,[],by simp only [↓ab,cx,simprocAttr]<;>rfl,by omega,fE.refl xJ,rfl⟩
 rintro r g ⟨dC,r16,Fy,i,hS,A,Fz,au,E,dK⟩;unfold Ms;by_cases aL:i<l.length
 . have g0:((i:Int) < (l.length:Int))=True:=am_ (by omega);have dt:=jG aL (by unfold top at hle;omega);rw [ant aL,ev] at dK;have ll:=congrArg List.length dK;simp only [amZ,am0] at ll;have fa:l[i] ∈ l:=am3 aL;have cy:=rT fa;obtain ⟨bi,zc,hF,dG,X,cN,ld,_,_,_⟩:=aS.mH (E.ek xJ GD) (k:=.i64) aL;have rJ:=ld g (Ext.refl g);have Ca:=cN.one;have Ej:=(ql _ fa).1;generalize l[i]=q at *;obtain ⟨g2,av,hh,e4⟩:=jq g [.int .i64 0,.int .i64 0,.int .i64 0,.str [],.cc] (bL q hF);have aH:=E.ext hh;have ak:=S3 q.size q (am6 _) Ej ad.next bg g2 hS hF A aH.w (Vm.hx aH xJ) (X.ext hh) (by omega)
   simp only [bL] at av e4 ak;simp only [dC,r16,Fy,Fz,g0,dt,dG,rJ,av,e4.g,Ca,↓ab,ae,simprocAttr];refine bw ak ?_;rintro x g3 ⟨rfl,dj,F⟩;have cJ:=aH.trans F;have f4:=(Ext.refl g3).new (.a_ (ea [[59,59]]) 0 false);have ay:=uj [[59,59]] (by decide) (by simp) g3.next ad.next bg (g3.new (.a_ (ea [[59,59]]) 0 false)) dj (A++q.words) (cJ.w.ext f4) (by rw [amZ,am0,am8];omega) hm (lQ.mk' cJ.w _)
   simp only [dC,r16,Fy,Fz,↓ab,ae,simprocAttr];refine bw ay ?_;rintro x g4 ⟨rfl,fX,kH⟩;have cM:=cJ.trans (kH.b9 f4);simp only [dC,r16,Fy,Fz,dt,↓ab,ae,simprocAttr];refine ⟨⟨i+1,fX,_,rfl,aL,cM,?_⟩,by omega⟩;rw [<-dK];simp only [ana,anZ,ao4,ang,anh]
 . have g0:((i:Int) < (l.length:Int))=False:=am2 (by omega);rw [anD (by omega),ev,anC] at dK;subst dK;have kP:g.get (aC ad.next)=.a_ [bg,hS] 0 false:=E.w.g;have jf:=E.w.lone;simp only [dC,r16,Fy,Fz,g0,kP,jf,hm.1,↓ab,ae,simprocAttr];have aX:=(an.trans aN).next
   exact ⟨hS,rfl,E.w.o.mono (by omega),zR.lz E.m fun q z=>by
    rcases z with rfl | z
    . rw [dX];exact aX
    . exact z.elim⟩
theorem aiD (l:List aS) (aM:gg l<=100000000) (hw:iG l=0->(ev l).length<=10000) (v:V) (h:ah) (L:cq Any h 5 (l.map aS.enc) v):
 b' Tryz.prog 8 [v] h fun x aa=>x=.tuple [.str (ox l).1,.int .i64 (ox l).2]/\Ext h aa:=by
 refine Ye.z rfl (cp ?_);unfold oR;simp only [↓ab,ae,simprocAttr];refine bw (ak4 l aM v h L) ?_;rintro x J ⟨aP,rfl,S,an⟩;by_cases ao:iG l=0
 rotate_left
 . have jw:=am2 ao;have ak:ox l=([],iG l):=by unfold ox;rw [am7 ao]
   rw [ak];simp only [jw,↓ab,ae,simprocAttr];exact an
 have wz:oC l=ev l:=by unfold oC;rw [anb ao]
 rw [wz] at S;have ql:∀q ∈ l,cX q:=fun q aq=>(BP (by omega) ao q aq).1;have Er:=Lb ql;have rq:=Ga l ql;rw [ao];simp only [↓ab,ae,simprocAttr];refine bw (alf aP (ev l) J S.v (hw ao) fun w sI=>by have:=Sp (anr.1 rq w sI);omega) ?_;rintro x ad ⟨rfl,aN⟩;have aH:=an.trans aN;have ak:ox l=if 65536 < (hT (ev l)).1.length then ([],3) else ((hT (ev l)).1,0):=by unfold ox;rw [anb ao,anb (by rw [Er])]
 have a1:(hT (ev l)).2=0:=by rw [Er]
 rw [ak,a1];by_cases aj:65536 < (hT (ev l)).1.length
 . have gl:((65536:Int) < ((hT (ev l)).1.length:Int))=True:=am_ (by omega);rw [anb aj];simp only [gl,↓ab,ae,simprocAttr];exact aH
 . have gl:((65536:Int) < ((hT (ev l)).1.length:Int))=False:=am2 (by omega);rw [am7 aj];simp only [gl,↓ab,ae,simprocAttr];exact aH
abbrev jn (b:Nat) (h:ah) (aP:V) (ws A:List bq):V->ah->Prop:=ik [] b h aP ws A
def vV (s:List UInt8):Bool:=match s with
 | c::_=>sU c
 | []=>false
theorem af6 (s:List UInt8) (ay:hn s=vV s):(kw s).enc=[.int .i64 (if hn s=true then 6 else 7),.int .i64 0,.int .i64 0,.str s]:=by
 rw [ay];cases s with
 | nil=>rfl
 | cons c r=>rfl
theorem eC (s:List UInt8) (ay:hn s=vV s) (b:Nat) (h:ah) (aP:V) (ws:List bq) (W:eK [] b h aP ws) (hlen:ws.length+1<=1000000000):
 b' Tryz.prog 45 [.ptr (aC b) 0,.str s] h (jn b h aP ws [kw s]):=by
 have an:=(Ext.refl h).new (.a_ (ea iM) 0 false);have bu:=W.ext an;obtain ⟨v,J,bR,a2,a3⟩:=zK bu (kw s) hlen;have g:(h.new (.a_ (ea iM) 0 false)).get (aC b)=.a_ [aP] 0 false:=bu.g;have g1:J.get (aC b)=.a_ [aP] 0 false:=a2;have ol:=W.lone;have jf:=a3.w.lone;rw [af6 s ay] at bR;have yp:jn b h aP ws [kw s] (.tuple []) (J.set (aC b) (.a_ [v] 0 false)):=⟨rfl,v,a3.b9 an⟩;refine XB.z rfl (cp ?_);unfold Nu;simp only [↓ab,ae,simprocAttr];refine bw (EF h) ?_;rintro x ar ⟨rfl,rfl⟩;generalize bo:h.new (.a_ (ea iM) 0 false)=a1 at *;simp only [↓ab,ae,simprocAttr];have fa:=uc s iM (aC h.next) 20 a1 (by decide) (by rw [<-bo,ju]);refine ey fa ?_;cases rn:hn s with
 | true=>
   rw [rn] at bR;have ao:iM.contains s=true:=rn;simp only [anz] at bR;simp only [ao,g,g1,bR,ol,jf,↓ab,ae,simprocAttr];exact yp
 | false=>
   rw [rn] at bR;have ao:iM.contains s=false:=rn;simp only [anm,anw] at bR;simp only [ao,g,g1,bR,ol,jf,↓ab,ae,simprocAttr];exact yp
theorem nG (k:Int) (s:List UInt8) (b:Nat) (h:ah) (aP:V) (ws:List bq) (W:eK [] b h aP ws) (hlen:ws.length+1<=1000000000):
 b' Tryz.prog 47 [.ptr (aC b) 0,.int .i64 k,.str s] h (jn b h aP ws [dD k s]):=by
 obtain ⟨v,J,bR,a2,a3⟩:=zK W (dD k s) hlen;have g:h.get (aC b)=.a_ [aP] 0 false:=W.g;have g1:J.get (aC b)=.a_ [aP] 0 false:=a2;have ol:=W.lone;have jf:=a3.w.lone;simp only [dD,bq.enc] at bR;refine XD.z rfl (cp ?_);unfold Nx;simp only [g,g1,bR,ol,jf,↓ab,ae,simprocAttr];exact ⟨rfl,_,a3⟩
theorem TW (n:Int) (b:Nat) (h:ah) (aP:V) (ws:List bq) (W:eK [] b h aP ws) (hlen:ws.length+1<=1000000000):
 b' Tryz.prog 104 [.ptr (aC b) 0,.int .i64 n] h (jn b h aP ws [ot n]):=by
 obtain ⟨v,J,bR,a2,a3⟩:=zK W (ot n) hlen;have g:h.get (aC b)=.a_ [aP] 0 false:=W.g;have g1:J.get (aC b)=.a_ [aP] 0 false:=a2;have ol:=W.lone;have jf:=a3.w.lone;simp only [ot,bq.enc] at bR;refine WR.z rfl (cp ?_);unfold Mk;simp only [g,g1,bR,ol,jf,↓ab,ae,simprocAttr];exact ⟨rfl,_,a3⟩
theorem Ty (n:Int) (b:Nat) (h:ah) (aP:V) (ws:List bq) (W:eK [] b h aP ws) (hlen:ws.length+1<=1000000000):
 b' Tryz.prog 105 [.ptr (aC b) 0,.int .i64 n] h (jn b h aP ws [oA n]):=by
 refine WS.z rfl (cp ?_);unfold Ml;by_cases aX:n=1
 . have sA:=am_ aX;rw [oA,anb aX];simp only [sA,↓ab,ae,simprocAttr];refine bw (eC _ (by decide) b h aP ws W hlen) ?_;rintro x J ⟨rfl,jb,E⟩;simp only [↓ab,ae,simprocAttr];exact ⟨rfl,jb,E⟩
 . have sA:=am2 aX;rw [oA,am7 aX];simp only [sA,↓ab,ae,simprocAttr];refine bw (eC _ (by decide) b h aP ws W hlen) ?_;rintro x J ⟨rfl,jb,E⟩;simp only [↓ab,ae,simprocAttr];exact ⟨rfl,jb,E⟩
def FM (k:Int) (s:List UInt8) (len:Nat):Int:=
 if k=35\/k=29\/k=30\/k=27\/k=15\/k=4 then 1 else if k=31\/k=3 then 2 else if k=37 then 3 else if k=26 then 4 else if k=38 then dR s else
 if k=39\/k=36 then 8 else if k=28\/k=34 then 9 else if k=16 then (if len=1 then 2 else 3) else if k=25 then (if len=1 then 9 else 10) else 10
def aS.lJ (p:aS):Int:=FM p.k p.s p.l.length
theorem aid (s:List UInt8):dR s=if ([[61],[60],[60,61]]:List (List UInt8)).contains s=true then 5 else if ([[43],[45]]:List (List UInt8)).contains s=true then 6 else 7:=by unfold dR;simp only [List.contains_cons,List.contains_nil,Bool.or_false,aog,aow]
theorem TU {F:aU->Prop} (p:aS) (w:V) (h:ah) (X:cj F h p.enc (bL p w)):b' Tryz.prog 102 [.agg (bL p w)] h fun x aa=>x=.int .i64 p.lJ/\Ext h aa:=by
 have cN:=jr X;have ol:=cN.one;have ax:=cN.len;rw [anc] at ax;obtain ⟨J,ag,an,aG⟩:=gb h (bL p w);simp only [bL] at ag aG ⊢;refine WO.z rfl (cp ?_);unfold Mi;unfold aS.lJ FM;by_cases bY:p.k=35\/p.k=29\/p.k=30\/p.k=27\/p.k=15\/p.k=4
 . rw [anb bY];rcases bY with e | e | e | e | e | e<;>(rw [e] at ag aG;simp only [ag,aG.g,ol,e,Int.reduceEq,aoK,aoQ,↓ab,ae,simprocAttr];exact an)
 rw [am7 bY];have nI:=am2 (show ¬p.k=35 by omega);have qS:=am2 (show ¬p.k=29 by omega);have qT:=am2 (show ¬p.k=30 by omega);have z27:=am2 (show ¬p.k=27 by omega);have u0:=am2 (show ¬p.k=15 by omega);have z4:=am2 (show ¬p.k=4 by omega);by_cases b_:p.k=31\/p.k=3
 . rw [anb b_];rcases b_ with e | e<;>(rw [e] at ag aG;simp only [ag,aG.g,ol,e,Int.reduceEq,aoK,aoQ,↓ab,ae,simprocAttr];exact an)
 rw [am7 b_];have z31:=am2 (show ¬p.k=31 by omega);have z3:=am2 (show ¬p.k=3 by omega);by_cases ej:p.k=37
 . rw [anb ej];simp only [ag,aG.g,ol,nI,qS,qT,z27,u0,z4,z31,z3,am_ ej,↓ab,ae,simprocAttr];exact an
 rw [am7 ej];have z37:=am2 ej;by_cases e7:p.k=26
 . rw [anb e7];simp only [ag,aG.g,ol,nI,qS,qT,z27,u0,z4,z31,z3,z37,am_ e7,↓ab,ae,simprocAttr];exact an
 rw [am7 e7];have z26:=am2 e7;by_cases fI:p.k=38
 . rw [anb fI,aid];have aN:=(Ext.refl J).new (.a_ (ea [[61],[60],[60,61]]) 0 false);have au:=uc p.s [[61],[60],[60,61]] (aC J.next) 3 (J.new (.a_ (ea [[61],[60],[60,61]]) 0 false)) (by decide) (ju _);have e4:=aG.ext aN;simp only [ag,aG.g,ol,nI,qS,qT,z27,u0,z4,z31,z3,z37,z26,am_ fI,↓ab,ae,simprocAttr];refine ey au ?_;cases ao:([[61],[60],[60,61]]:List (List UInt8)).contains p.s with
   | true=>
     simp only [↓ab,ae,simprocAttr];exact an.trans aN
   | false=>
     have nn:(J.new (.a_ [.str [61],.str [60],.str [60,61]] 0 false)).get (aC h.next)=.a_ [.int .i64 p.k,.int .i64 p.n,.int .i64 p.a,.str p.s,w] 0 false:=e4.g;generalize yq:J.new (.a_ [.str [61],.str [60],.str [60,61]] 0 false)=ad at *;have lU:Ext J ad:=by rw [<-yq];exact (Ext.refl J).new _
     have cv:=(Ext.refl ad).new (.a_ (ea [[43],[45]]) 0 false);have gM:=uc p.s [[43],[45]] (aC ad.next) 2 (ad.new (.a_ (ea [[43],[45]]) 0 false)) (by decide) (ju _);simp only [yq,nn,↓ab,ae,simprocAttr];refine ey gM ?_;cases alW:([[43],[45]]:List (List UInt8)).contains p.s with
     | true=>
       simp only [↓ab,ae,simprocAttr];exact (an.trans lU).trans cv
     | false=>
       simp only [↓ab,ae,simprocAttr];exact (an.trans lU).trans cv
 rw [am7 fI];have pT:=am2 fI;by_cases ic:p.k=39\/p.k=36
 . rw [anb ic];rcases ic with e | e<;>(rw [e] at ag aG;simp only [ag,aG.g,ol,e,Int.reduceEq,aoK,aoQ,↓ab,ae,simprocAttr];exact an)
 rw [am7 ic];have z39:=am2 (show ¬p.k=39 by omega);have z36:=am2 (show ¬p.k=36 by omega);by_cases hQ:p.k=28\/p.k=34
 . rw [anb hQ];rcases hQ with e | e<;>(rw [e] at ag aG;simp only [ag,aG.g,ol,e,Int.reduceEq,aoK,aoQ,↓ab,ae,simprocAttr];exact an)
 rw [am7 hQ];have z28:=am2 (show ¬p.k=28 by omega);have z34:=am2 (show ¬p.k=34 by omega);by_cases BD:p.k=16
 . rw [anb BD];by_cases db:p.l.length=1
   . have kc:((p.l.length:Int)=1)=True:=am_ (by omega);rw [anb db];simp only [ag,aG.g,ol,ax,kc,nI,qS,qT,z27,u0,z4,z31,z3,z37,z26,pT,z39,z36,z28,z34,am_ BD,↓ab,ae,simprocAttr];exact an
   . have kc:((p.l.length:Int)=1)=False:=am2 (by omega);rw [am7 db];simp only [ag,aG.g,ol,ax,kc,nI,qS,qT,z27,u0,z4,z31,z3,z37,z26,pT,z39,z36,z28,z34,am_ BD,↓ab,ae,simprocAttr];exact an
 rw [am7 BD];have Lc:=am2 BD;by_cases BE:p.k=25
 . rw [anb BE];by_cases db:p.l.length=1
   . have kc:((p.l.length:Int)=1)=True:=am_ (by omega);rw [anb db];simp only [ag,aG.g,ol,ax,kc,nI,qS,qT,z27,u0,z4,z31,z3,z37,z26,pT,z39,z36,z28,z34,Lc,am_ BE,↓ab,ae,simprocAttr];exact an
   . have kc:((p.l.length:Int)=1)=False:=am2 (by omega);rw [am7 db];simp only [ag,aG.g,ol,ax,kc,nI,qS,qT,z27,u0,z4,z31,z3,z37,z26,pT,z39,z36,z28,z34,Lc,am_ BE,↓ab,ae,simprocAttr];exact an
 rw [am7 BE];have z25:=am2 BE;simp only [ag,aG.g,ol,nI,qS,qT,z27,u0,z4,z31,z3,z37,z26,pT,z39,z36,z28,z34,Lc,z25,↓ab,ae,simprocAttr];exact an
theorem R4 {p:aS} (al:cX p) (ay:p.k<45) {least:Int} (hle:least<=10) (aD:least<=3\/20<=p.k):(p.lJ<least)=(p.kz<least/\p.k≠32/\p.k≠33):=by
 have iI:p.k=16\/p.k=25->p.l.length<=1:=fun z=>BR al (by omega);unfold aS.lJ aS.kz FM EN;apply propext;have IF:=rL al;have:=JN al;rcases this with e | e | e | e | e | e | e | e | e | e | e | e | e | e | e | e | e | e | e | e | e | e | e | e | e | e | e | e | e | e | e | e | e | e | e | e | e | e<;>rw [e] at aD iI ⊢<;>simp [uv,sR]
 all_goals first
  | omega
  | (have ar:=iI (by decide);by_cases db:p.l.length=1<;>simp [db]<;>omega)
  | (by_cases db:p.l.length=0<;>by_cases mM:p.l.length=1<;>simp [db,mM]<;>omega)
def km (n:Nat):Prop:=∀(p:aS),p.size<=n->cX p->p.k<45->∀(b:Nat) (h:ah) (aP w:V) (ws:List bq),eK [] b h aP ws->cj (dS b) h p.enc (bL p w)->ws.length+p.words.length<=1000000000->
 b' Tryz.prog 49 [.ptr (aC b) 0,.agg (bL p w)] h (jn b h aP ws p.words)
def mf (B:Bool) (p:aS):List bq:=if B=true then kw [40]::(p.words++[kw [41]]) else p.words
theorem FH {n:Nat} (bP:km n) (p:aS) (aM:p.size<=n) (al:cX p) (ay:p.k<45) (least:Int) (t:Bool) (b:Nat) (h:ah) (aP w:V) (ws:List bq) (W:eK [] b h aP ws) (X:cj (dS b) h p.enc (bL p w))
 (aK:ws.length + (mf (t||decide (p.lJ<least)) p).length<=1000000000):b' Tryz.prog 82 [.ptr (aC b) 0,.agg (bL p w),.int .i64 least,.bool t] h (jn b h aP ws (mf (t||decide (p.lJ<least)) p)):=by
 have ol:=(jr X).one;obtain ⟨J,ag,an,aG⟩:=gb h (bL p w);have bu:=W.ext an;have aY:eN [] b J aP J aP ws:=fE.refl bu;have sy:=TU p w J (X.ext an);simp only [bL] at ag aG sy ⊢;refine X8.z rfl (cp ?_);unfold N8;cases t with
 | true=>
   rw [Bool.true_or] at aK ⊢;have hw:mf true p=kw [40]::(p.words++[kw [41]]):=rfl;rw [hw] at aK ⊢;simp only [am0,amZ,am8] at aK;simp only [ag,aG.g,ol,↓ab,ae,simprocAttr];refine bw (eC [40] (by decide) b J aP ws aY.w (by omega)) ?_;rintro x aD ⟨rfl,dj,u7⟩;have bM:=aY.trans u7;have ch:=iZ W aG bM;have ak:=bP p aM al ay b aD dj w (ws++[kw [40]]) bM.w (bM.cs bu (X.ext an)) (by rw [amZ,am0,am8];omega);simp only [bL] at ak;simp only [ch.g,ol,↓ab,ae,simprocAttr];refine bw ak ?_;rintro x bn ⟨rfl,fX,kH⟩;have cJ:=bM.trans kH;simp only [↓ab,ae,simprocAttr];refine bw (eC [41] (by decide) b bn fX _ cJ.w (by rw [amZ,amZ,am0,am8];omega)) ?_;rintro x b0 ⟨rfl,gO,kI⟩;have cM:=(cJ.trans kI).b9 an;simp only [ana,ang,anh] at cM;simp only [↓ab,ae,simprocAttr];exact ⟨rfl,gO,cM⟩
 | false=>
   rw [aoE] at aK ⊢;simp only [ag,aG.g,ol,↓ab,ae,simprocAttr];refine bw sy ?_;rintro x ad ⟨rfl,aN⟩;have aH:=aY.ext aN;have br:=iZ W aG aH;by_cases ao:p.lJ<least
   . have jw:=am_ ao;rw [anG ao] at aK ⊢;have hw:mf true p=kw [40]::(p.words++[kw [41]]):=rfl;rw [hw] at aK ⊢;simp only [am0,amZ,am8] at aK;simp only [jw,↓ab,ae,simprocAttr];refine bw (eC [40] (by decide) b ad aP ws aH.w (by omega)) ?_;rintro x aD ⟨rfl,dj,u7⟩;have bM:=aH.trans u7;have ch:=iZ W aG bM;have ak:=bP p aM al ay b aD dj w (ws++[kw [40]]) bM.w (bM.cs bu (X.ext an)) (by rw [amZ,am0,am8];omega);simp only [bL] at ak;simp only [ch.g,ol,↓ab,ae,simprocAttr];refine bw ak ?_;rintro x bn ⟨rfl,fX,kH⟩;have cJ:=bM.trans kH;simp only [↓ab,ae,simprocAttr];refine bw (eC [41] (by decide) b bn fX _ cJ.w (by rw [amZ,amZ,am0,am8];omega)) ?_;rintro x b0 ⟨rfl,gO,kI⟩;have cM:=(cJ.trans kI).b9 an;simp only [ana,ang,anh] at cM;simp only [↓ab,ae,simprocAttr];exact ⟨rfl,gO,cM⟩
   . have jw:=am2 ao;rw [anL ao] at aK ⊢;have hw:mf false p=p.words:=rfl;rw [hw] at aK ⊢;have ak:=bP p aM al ay b ad aP w ws aH.w (aH.cs bu (X.ext an)) aK;simp only [bL] at ak;simp only [jw,br.g,ol,↓ab,ae,simprocAttr];refine bw ak ?_;rintro x aD ⟨rfl,dj,u7⟩;simp only [↓ab,ae,simprocAttr];exact ⟨rfl,dj,(aH.trans u7).b9 an⟩
theorem Kx {n:Nat} (bP:km n) (p:aS) (aM:p.size<=n) (al:cX p) (ay:p.k<45) (least:Int) (hle:least<=10) (aD:least<=3\/20<=p.k) (b:Nat) (h:ah) (aP w:V) (ws:List bq) (W:eK [] b h aP ws) (X:cj (dS b) h p.enc (bL p w))
 (aK:ws.length + (cO least (p,p.words)).length<=1000000000):b' Tryz.prog 82 [.ptr (aC b) 0,.agg (bL p w),.int .i64 least,.bool false] h (jn b h aP ws (cO least (p,p.words))):=by
 have hw:cO least (p,p.words)=mf (false||decide (p.lJ<least)) p:=by unfold cO jz mf;simp only [aoE,ane,R4 al ay hle aD]
 rw [hw] at aK ⊢;exact FH bP p aM al ay least false b h aP w ws W X aK
theorem Cn {n:Nat} (bP:km n) (l:List aS) (dF:∀q ∈ l,q.size<=n/\cX q/\q.k<45) (v:V) (sep:List UInt8) (yG:hn sep=vV sep) (least:Int) (aD:least<=3) (b:Nat) (h:ah) (aP:V) (ws:List bq) (W:eK [] b h aP ws) (L:cq (dS b) h 5 (l.map aS.enc) v)
 (aK:ws.length + (eB (cO least) sep (a6 l)).length<=1000000000):b' Tryz.prog 46 [.ptr (aC b) 0,v,.str sep,.int .i64 least] h (jn b h aP ws (eB (cO least) sep (a6 l))):=by
 have ax:=L.len;have hle:=L.le;rw [anc] at ax hle;refine XC.z rfl (cp ?_);unfold Nv;simp only [↓ab,ae,simprocAttr];refine fS (fun r aa=>r 0=.ptr (aC b) 0/\r 1=v/\r 2=.str sep/\r 3=.int .i64 least/\∃(i:Nat) (dh:V) (A:List bq),r 8=.int .i64 i/\i<=l.length/\eN [] b h aP aa dh (ws++A)/\A++qP (cO least) sep l i=eB (cO least) sep (a6 l)) (fun r aa=>l.length - (r 8).toN) ?_ ?_
 . exact ⟨by simp only [↓ab,cx,simprocAttr],by simp only [↓ab,cx,simprocAttr],by simp only [↓ab,cx,simprocAttr],by simp only [↓ab,cx,simprocAttr],0,aP,[],by simp only [↓ab,cx,simprocAttr]<;>rfl,by omega,by rw [anC];exact fE.refl W,rfl⟩
 rintro r J ⟨bb,bT,di,bX,i,jb,A,eg,au,E,dK⟩;unfold Nw;by_cases aL:i<l.length
 . have g0:((i:Int) < (l.length:Int))=True:=am_ (by omega);have dt:=jG aL (by unfold top at hle;omega);rw [zE (cO least) sep l i aL] at dK;have aq:=dF _ (am3 aL);by_cases a1:i=0
   . have iq:((0:Int) < (i:Int))=False:=am2 (by omega);rw [anb a1,anh,<-List.append_assoc] at dK;have hlen:=congrArg List.length dK;simp only [amZ] at hlen;obtain ⟨bi,zc,hF,dG,X,cN,ld,_,_,_⟩:=aS.mH (E.ek W L) (k:=.i64) aL;have rJ:=ld J (Ext.refl J);have wZ:=cN.one;have ao:=Kx bP l[i] aq.1 aq.2.1 aq.2.2 least (by omega) (.inl aD) b J jb hF (ws++A) E.w X (by rw [amZ];omega);simp only [bL] at ao;simp only [bb,bT,di,bX,eg,ax,g0,dt,dG,rJ,wZ,iq,↓ab,ae,simprocAttr];refine bw ao ?_;rintro x aD ⟨rfl,dj,F⟩;have bM:=E.trans F;rw [ana] at bM;simp only [bb,bT,di,bX,eg,dt,↓ab,ae,simprocAttr];exact ⟨⟨i+1,dj,_,rfl,aL,bM,dK⟩,by omega⟩
   . have iq:((0:Int) < (i:Int))=True:=am_ (by omega);rw [am7 a1,<-List.append_assoc,<-List.append_assoc] at dK;have hlen:=congrArg List.length dK;simp only [amZ,am0,am8] at hlen;simp only [bb,bT,di,bX,eg,ax,g0,dt,iq,↓ab,ae,simprocAttr];refine bw (eC sep yG b J jb (ws++A) E.w (by rw [amZ];omega)) ?_;rintro x aD ⟨rfl,dj,F⟩;have bM:=E.trans F;obtain ⟨bi,zc,hF,dG,X,cN,ld,_,_,_⟩:=aS.mH (bM.ek W L) (k:=.i64) aL;have rJ:=ld aD (Ext.refl aD);have wZ:=cN.one;have ao:=Kx bP l[i] aq.1 aq.2.1 aq.2.2 least (by omega) (.inl (by assumption)) b aD dj hF _ bM.w X (by rw [amZ,amZ,am0,am8];omega);simp only [bL] at ao;simp only [bb,bT,di,bX,eg,dG,rJ,wZ,↓ab,ae,simprocAttr];refine bw ao ?_;rintro x bn ⟨rfl,fX,kH⟩;have cJ:=bM.trans kH;rw [ana,ana] at cJ;simp only [bb,bT,di,bX,eg,dt,↓ab,ae,simprocAttr];exact ⟨⟨i+1,fX,_,rfl,aL,cJ,by rw [<-dK];simp only [ana]⟩,by omega⟩
 . have g0:((i:Int) < (l.length:Int))=False:=am2 (by omega);rw [zD (cO least) sep l i (by omega),anC] at dK;rw [dK] at E;simp only [bb,bT,di,bX,eg,ax,g0,↓ab,ae,simprocAttr];exact ⟨rfl,jb,E⟩
theorem BK {p:aS} (al:cX p) {K:Int} (e:p.k=K) {q:aS} (aq:q ∈ p.l):∃(i:Nat) (au:i<p.l.length) (g:Int),p.l[i]=q/\(cL K p.n p.l).1[i]? =some g/\iB q.k g=true:=by obtain ⟨i,au,rfl⟩:=ao0 aq;obtain ⟨g,a,b,_⟩:=uo al i au;rw [e] at a;exact ⟨i,au,g,rfl,a,b⟩
theorem D0 {k:Int} (h:iB k 3=true):20<=k/\k<45:=by
 unfold iB fo at h;rw [am7 (by decide)] at h;simp only [ane] at h
 repeat' split at h
 all_goals omega
theorem PU {k:Int} (h:iB k 2=true):10<=k/\k<20:=by
 unfold iB fo at h;rw [am7 (by decide)] at h;simp only [ane] at h
 repeat' split at h
 all_goals omega
theorem aa2 {k:Int} (h:iB k 1=true):1<=k/\k<10:=by
 unfold iB fo at h;rw [am7 (by decide)] at h;simp only [ane] at h
 repeat' split at h
 all_goals omega
theorem aa3 {k:Int} (h:iB k 4=true):k=45:=by
 unfold iB fo at h;rw [am7 (by decide)] at h;simp only [ane] at h
 repeat' split at h
 all_goals omega
theorem PV {k:Int} (h:iB k 5=true):k=46:=by
 unfold iB fo at h;rw [am7 (by decide)] at h;simp only [ane] at h
 repeat' split at h
 all_goals omega
theorem aa4 {k:Int} (h:iB k 6=true):k=47:=by
 unfold iB fo at h;rw [am7 (by decide)] at h;simp only [ane] at h
 repeat' split at h
 all_goals omega
theorem aa5 {k:Int} (h:iB k 8=true):k=1:=by unfold iB at h;rw [anb rfl] at h;exact of_decide_eq_true h
theorem uO {n i:Nat} {a g:Int} (h:(List.replicate n a)[i]? =some g):g=a:=by have:=anE h;rw [List.mem_replicate] at this;exact this.2
theorem j_ {p:aS} (al:cX p) (ay:p.k=25\/p.k=26\/p.k=28\/p.k=31\/p.k=34\/p.k=35\/p.k=36\/p.k=37\/p.k=38\/p.k=39\/p.k=46) {q:aS} (aq:q ∈ p.l):20<=q.k/\q.k<45:=by
 rcases ay with e | e | e | e | e | e | e | e | e | e | e
 all_goals
  obtain ⟨i,au,g,_,a,b⟩:=BK al e aq;obtain rfl:=uO (a:=3) (by simpa only [cL,Int.reduceEq,aoN,aoX,ao_,apa,apc,anz,anw] using a);exact D0 b
theorem BF {p:aS} (al:cX p) (ay:p.k=27\/p.k=29\/p.k=45\/p.k=52) {q:aS} (aq:q ∈ p.l):10<=q.k/\q.k<45:=by
 rcases ay with e | e | e | e
 all_goals
  obtain ⟨i,au,g,_,a,b⟩:=BK al e aq;have hm:g=2\/g=3:=by have:=anE a;simp only [cL,Int.reduceEq,aoN,aoX,ao_,apa,apc,anz,anw,ans,List.not_mem_nil] at this;omega
  rcases hm with rfl | rfl
  . have:=PU b;omega
  . have:=D0 b;omega
theorem yQ {p:aS} (al:cX p) (ay:p.k=2\/p.k=3\/p.k=4\/p.k=47\/p.k=51) {q:aS} (aq:q ∈ p.l):1<=q.k/\q.k<10:=by
 rcases ay with e | e | e | e | e
 all_goals
  obtain ⟨i,au,g,_,a,b⟩:=BK al e aq;obtain rfl:=uO (a:=1) (by simpa only [cL,Int.reduceEq,aoN,aoX,ao_,apa,apc,anz,anw] using a);exact aa2 b
theorem Rv {p:aS} (al:cX p) (ay:p.k=15\/p.k=16) {q:aS} (aq:q ∈ p.l):10<=q.k/\q.k<20:=by
 rcases ay with e | e
 all_goals
  obtain ⟨i,au,g,_,a,b⟩:=BK al e aq;obtain rfl:=uO (a:=2) (by simpa only [cL,Int.reduceEq,aoN,aoX,ao_,apa,apc,anz,anw] using a);exact PU b
theorem qI {b:Nat} {J bJ:ah} {jD:V} {h4:List bq} {n:Nat} (bP:km n) {p:aS} (aM:p.size<=n+1) (al:cX p) (ef:∀q ∈ p.l,q.k<45) {i:Nat} (au:i<p.l.length) (least:Int) (hle:least<=10) (aD:least<=3\/20<=p.l[i].k) {v:V} (W:eK [] b bJ jD h4) (X:cj (dS b) bJ p.l[i].enc (bL p.l[i] v))
 (aK:h4.length + (cO least (p.l[i],p.l[i].words)).length<=1000000000):b' Tryz.prog 82 [.ptr (aC b) 0,.agg (bL p.l[i] v),.int .i64 least,.bool false] bJ (jn b bJ jD h4 (cO least (p.l[i],p.l[i].words))):=
 Kx bP _ (by have:=h1 (am3 au);omega) (ja al (am3 au)) (ef _ (am3 au)) least hle aD b bJ jD v h4 W X aK
theorem rV {b:Nat} {bJ:ah} {jD:V} {h4:List bq} {n:Nat} (bP:km n) {p:aS} (aM:p.size<=n+1) (al:cX p) {i:Nat} (au:i<p.l.length) (aba:p.l[i].k<45) {v:V} (W:eK [] b bJ jD h4) (X:cj (dS b) bJ p.l[i].enc (bL p.l[i] v))
 (aK:h4.length+p.l[i].words.length<=1000000000):b' Tryz.prog 49 [.ptr (aC b) 0,.agg (bL p.l[i] v)] bJ (jn b bJ jD h4 p.l[i].words):=
 bP _ (by have:=h1 (am3 au);omega) (ja al (am3 au)) aba b bJ jD v h4 W X aK
theorem uR {n:Nat} (bP:km n) (p:aS) (aM:p.size<=n+1) (al:cX p) (eZ:2<=p.l.length) (ef:∀q ∈ p.l,q.k<45) (left:Int) (s:List UInt8) (Eo:hn s=vV s) (right:Int) (ab':left<=10) (al_:right<=10) (ao:∀q ∈ p.l,(left<=3/\right<=3)\/20<=q.k) (b:Nat) (h:ah) (aP w:V) (ws:List bq) (W:eK [] b h aP ws) (X:cj (dS b) h p.enc (bL p w))
 (aK:ws.length + (eb (a6 p.l) left s right).length<=1000000000):b' Tryz.prog 103 [.ptr (aC b) 0,.agg (bL p w),.int .i64 left,.str s,.int .i64 right] h (jn b h aP ws (eb (a6 p.l) left s right)):=by
 have cN:=jr X;have ol:=cN.one;have dF:∀q ∈ p.l,q.size<=n/\cX q:=fun q aq=>⟨by have:=h1 aq;omega,ja al aq⟩;obtain ⟨J,ag,an,aG⟩:=gb h (bL p w);have bu:=W.ext an;have eD:=X.ext an;have b6:=cN.ext an;have bK:=b6.len;have hle:=b6.le;rw [anc] at bK hle;have aY:eN [] b J aP J aP ws:=fE.refl bu;refine WQ.z rfl (cp ?_);unfold Mj;simp only [bL] at ag aG ⊢;have z:=And.intro ol bK;have bS:0<p.l.length:=by omega
 have da:1<p.l.length:=by omega
 have hw:eb (a6 p.l) left s right=cO left (p.l[0],p.l[0].words)++([kw s]++(cO right (p.l[1],p.l[1].words))):=by unfold eb;rw [eO _ _ _ bS,eO _ _ _ da];rfl
 rw [hw] at aK ⊢;simp only [aT] at aK;obtain ⟨ki,fe,v1,jo,hg⟩:=eJ aY bu b6 0 0 rfl bS;simp only [ag,aG.g,z,hg,↓ab,ae,simprocAttr];refine bQ (qI (J:=J) bP aM al ef bS left (by omega) ((ao _ (am3 bS)).imp And.left id) aY.w jo (by first | omega | (simp only [aT];omega))) aY W aG fun ad b7 aH br=>?_;simp only [br.g,z,↓ab,ae,simprocAttr];refine bQ (eC s Eo _ _ _ _ aH.w (by simp only [aT];omega)) aH W aG fun aD dj bM ch=>?_;obtain ⟨pP,y3,v3,oL,oN⟩:=eJ bM bu b6 1 1 rfl da;simp only [ch.g,z,oN,↓ab,ae,simprocAttr];refine bQ (qI (J:=J) bP aM al ef da right (by omega) ((ao _ (am3 da)).imp And.right id) bM.w oL (by simp only [aT];omega)) bM W aG fun bn fX cJ fz=>?_;simp only [fz.g,z,↓ab,ae,simprocAttr];exact ⟨rfl,_,cu (cJ.b9 an) (by simp)⟩
theorem TA {n:Nat} (bP:km n) (p:aS) (aM:p.size<=n+1) (al:cX p) (hlen:p.l.length<=1) (ef:∀q ∈ p.l,q.k<45) (least:Int) (ab':least<=10) (ao:∀q ∈ p.l,least<=3\/20<=q.k) (b:Nat) (h:ah) (aP w:V) (ws:List bq) (W:eK [] b h aP ws) (X:cj (dS b) h p.enc (bL p w))
 (aK:ws.length + (dD 4 p.s::eS (cO least) (a6 p.l)).length<=1000000000):b' Tryz.prog 106 [.ptr (aC b) 0,.agg (bL p w),.int .i64 least] h (jn b h aP ws (dD 4 p.s::eS (cO least) (a6 p.l))):=by
 have cN:=jr X;have ol:=cN.one;have dF:∀q ∈ p.l,q.size<=n/\cX q:=fun q aq=>⟨by have:=h1 aq;omega,ja al aq⟩;obtain ⟨J,ag,an,aG⟩:=gb h (bL p w);have bu:=W.ext an;have eD:=X.ext an;have b6:=cN.ext an;have bK:=b6.len;have hle:=b6.le;rw [anc] at bK hle;have aY:eN [] b J aP J aP ws:=fE.refl bu;refine WT.z rfl (cp ?_);unfold Mm;simp only [bL] at ag aG ⊢;by_cases db:p.l.length=1
 . have z:=And.intro ol bK;have bk:((p.l.length:Int)=1)=True:=am_ (by omega);have bS:0<p.l.length:=by omega
   have mB:a6 p.l=[(p.l[0],p.l[0].words)]:=by rw [rS];match p.l,db,bS with | [a],_,_=>rfl
   have hw:dD 4 p.s::eS (cO least) (a6 p.l)=[dD 4 p.s]++(cO least (p.l[0],p.l[0].words)):=by simp [z,bk,mB,eS,cB,cC,cA,eO _ _ _ bS,dp]
   rw [hw] at aK ⊢
   try simp only [aT] at aK
   simp only [ag,aG.g,z,bk,↓ab,ae,simprocAttr];refine bQ (nG 4 p.s _ _ _ _ aY.w (by first | omega | (simp only [aT];omega))) aY W aG fun ad b7 aH br=>?_;obtain ⟨hs,fu,v2,ga,fJ⟩:=eJ aH bu b6 0 0 rfl bS;simp only [br.g,z,bk,fJ,↓ab,ae,simprocAttr];refine bQ (qI (J:=J) bP aM al ef bS least (by omega) (ao _ (am3 bS)) aH.w ga (by simp only [aT];omega)) aH W aG fun aD dj bM ch=>?_;simp only [ch.g,z,bk,↓ab,ae,simprocAttr];exact ⟨rfl,_,cu (bM.b9 an) (by simp)⟩
 . have z:=And.intro ol bK;have bk:((p.l.length:Int)=1)=False:=am2 (by omega);have mB:a6 p.l=[]:=by rw [anI (show p.l.length=0 by omega)];rfl
   have hw:dD 4 p.s::eS (cO least) (a6 p.l)=[dD 4 p.s]:=by simp [z,bk,mB,eS,cB,cC,cA,dp]
   rw [hw] at aK ⊢
   try simp only [aT] at aK
   simp only [ag,aG.g,z,bk,↓ab,ae,simprocAttr];refine bQ (nG 4 p.s _ _ _ _ aY.w (by first | omega | (simp only [aT];omega))) aY W aG fun ad b7 aH br=>?_;simp only [br.g,z,bk,↓ab,ae,simprocAttr];exact ⟨rfl,_,cu (aH.b9 an) (by simp)⟩
theorem yV {k c:Int} (e:k=c):(k=1)=(c=1)/\(k=4)=(c=4)/\(k=3)=(c=3):=by simp only [e,aoM]
theorem wJ {k c:Int} (e:k=c):(k=10)=(c=10)/\(k=11)=(c=11)/\(k=12)=(c=12)/\(k=13)=(c=13)/\(k=14)=(c=14)/\(k=15)=(c=15):=by simp only [e,aoM]
theorem ajv {n:Nat} (bP:km n) (p:aS) (aM:p.size<=n+1) (al:cX p) (ay:p.k<10) (b:Nat) (h:ah) (aP w:V) (ws:List bq) (W:eK [] b h aP ws) (X:cj (dS b) h p.enc (bL p w))
 (aK:ws.length + (ha p.k p.s (a6 p.l)).length<=1000000000):b' Tryz.prog 83 [.ptr (aC b) 0,.agg (bL p w)] h (jn b h aP ws (ha p.k p.s (a6 p.l))):=by
 have cN:=jr X;have ol:=cN.one;have dF:∀q ∈ p.l,q.size<=n/\cX q:=fun q aq=>⟨by have:=h1 aq;omega,ja al aq⟩;obtain ⟨J,ag,an,aG⟩:=gb h (bL p w);have bu:=W.ext an;have eD:=X.ext an;have b6:=cN.ext an;have bK:=b6.len;have hle:=b6.le;rw [anc] at bK hle;have aY:eN [] b J aP J aP ws:=fE.refl bu;refine X9.z rfl (cp ?_);unfold N9;simp only [bL] at ag aG ⊢;rcases (show p.k=1\/p.k=4\/p.k=3\/p.k=2 by have:=rL al;omega) with e | e | e | e
 . have z:=And.intro ol (And.intro bK (yV e));have hw:ha p.k p.s (a6 p.l)=[dD 5 p.s]:=by simp [ha,z,cB,cC,cA,dp]
   rw [hw] at aK ⊢
   try simp only [aT] at aK
   simp only [ag,aG.g,z,↓ab,ae,simprocAttr];refine bQ (nG 5 p.s _ _ _ _ aY.w (by first | omega | (simp only [aT];omega))) aY W aG fun ad b7 aH br=>?_;simp only [br.g,z,↓ab,ae,simprocAttr];exact ⟨rfl,_,cu (aH.b9 an) (by simp)⟩
 . have z:=And.intro ol (And.intro bK (yV e));have eZ:2<=p.l.length:=by have:=iN al (by omega);omega
   have ef:∀q ∈ p.l,q.k<45:=fun q aq=>by have:=yQ al (by omega) aq;omega
   have hw:ha p.k p.s (a6 p.l)=eb (a6 p.l) 2 [45,62] 1:=by simp [ha,z,cB,cC,cA,dp]
   rw [hw] at aK ⊢
   try simp only [aT] at aK
   simp only [ag,aG.g,z,↓ab,ae,simprocAttr];refine bQ (uR bP p aM al eZ ef 2 [45,62] (by decide) 1 (by omega) (by omega) (fun q aq=>.inl ⟨by decide,by decide⟩) _ _ _ w _ aY.w (aY.cs bu eD) (by first | omega | (simp only [aT];omega))) aY W aG fun ad b7 aH br=>?_;simp only [br.g,z,↓ab,ae,simprocAttr];exact ⟨rfl,_,cu (aH.b9 an) (by simp)⟩
 . have z:=And.intro ol (And.intro bK (yV e));have eZ:2<=p.l.length:=by have:=iN al (by omega);omega
   have ef:∀q ∈ p.l,q.k<45:=fun q aq=>by have:=yQ al (by omega) aq;omega
   have hw:ha p.k p.s (a6 p.l)=eb (a6 p.l) 3 [42] 2:=by simp [ha,z,cB,cC,cA,dp]
   rw [hw] at aK ⊢
   try simp only [aT] at aK
   simp only [ag,aG.g,z,↓ab,ae,simprocAttr];refine bQ (uR bP p aM al eZ ef 3 [42] (by decide) 2 (by omega) (by omega) (fun q aq=>.inl ⟨by decide,by decide⟩) _ _ _ w _ aY.w (aY.cs bu eD) (by first | omega | (simp only [aT];omega))) aY W aG fun ad b7 aH br=>?_;simp only [br.g,z,↓ab,ae,simprocAttr];exact ⟨rfl,_,cu (aH.b9 an) (by simp)⟩
 . by_cases cW:p.l.length=0
   . have z:=And.intro ol (And.intro bK (yV e));have hb:(p.l.length=1)=False:=am2 (by omega);have hc:(1<p.l.length)=False:=am2 (by omega);have dT:((1:Int) < (p.l.length:Int))=False:=am2 (by omega);have ef:∀q ∈ p.l,q.k<45:=fun q aq=>by have:=yQ al (by omega) aq;omega
     have mB:a6 p.l=[]:=by rw [anI cW];rfl
     have hw:ha p.k p.s (a6 p.l)=eB (cO 3) [44] (a6 p.l)++([dD 3 p.s]):=by simp [ha,z,hb,hc,dT,mB,eB,cB,cC,cA,dp]
     rw [hw] at aK ⊢
     try simp only [aT] at aK
     have Ac:=aY.ek bu b6;simp only [ag,aG.g,z,hb,hc,dT,↓ab,ae,simprocAttr];refine bQ (Cn bP p.l (fun q aq=>⟨(dF _ aq).1,(dF _ aq).2,ef _ aq⟩) w [44] (by decide) 3 (by omega) _ _ _ _ aY.w Ac (by first | omega | (simp only [aT];omega))) aY W aG fun ad b7 aH br=>?_;simp only [br.g,z,hb,hc,dT,↓ab,ae,simprocAttr];refine bQ (nG 3 p.s _ _ _ _ aH.w (by simp only [aT];omega)) aH W aG fun aD dj bM ch=>?_;simp only [ch.g,z,hb,hc,dT,↓ab,ae,simprocAttr];exact ⟨rfl,_,cu (bM.b9 an) (by simp)⟩
   by_cases db:p.l.length=1
   . have z:=And.intro ol (And.intro bK (yV e));have hb:(p.l.length=1)=True:=am_ (by omega);have hc:(1<p.l.length)=False:=am2 (by omega);have dT:((1:Int) < (p.l.length:Int))=False:=am2 (by omega);have ef:∀q ∈ p.l,q.k<45:=fun q aq=>by have:=yQ al (by omega) aq;omega
     have qx:0<p.l.length:=by omega
     have mB:a6 p.l=[(p.l[0],p.l[0].words)]:=by rw [rS];match p.l,db,qx with | [a],_,_=>rfl
     have hw:ha p.k p.s (a6 p.l)=eB (cO 3) [44] (a6 p.l)++([dD 3 p.s]):=by simp [ha,z,hb,hc,dT,mB,eB,qJ,hv,anj,cB,cC,cA,dp]
     rw [hw] at aK ⊢
     try simp only [aT] at aK
     have Ac:=aY.ek bu b6;simp only [ag,aG.g,z,hb,hc,dT,↓ab,ae,simprocAttr];refine bQ (Cn bP p.l (fun q aq=>⟨(dF _ aq).1,(dF _ aq).2,ef _ aq⟩) w [44] (by decide) 3 (by omega) _ _ _ _ aY.w Ac (by first | omega | (simp only [aT];omega))) aY W aG fun ad b7 aH br=>?_;simp only [br.g,z,hb,hc,dT,↓ab,ae,simprocAttr];refine bQ (nG 3 p.s _ _ _ _ aH.w (by simp only [aT];omega)) aH W aG fun aD dj bM ch=>?_;simp only [ch.g,z,hb,hc,dT,↓ab,ae,simprocAttr];exact ⟨rfl,_,cu (bM.b9 an) (by simp)⟩
   . have z:=And.intro ol (And.intro bK (yV e));have hb:(p.l.length=1)=False:=am2 (by omega);have hc:(1<p.l.length)=True:=am_ (by omega);have dT:((1:Int) < (p.l.length:Int))=True:=am_ (by omega);have ef:∀q ∈ p.l,q.k<45:=fun q aq=>by have:=yQ al (by omega) aq;omega
     have hw:ha p.k p.s (a6 p.l)=[kw [40]]++(eB (cO 1) [44] (a6 p.l)++([kw [41]]++([dD 3 p.s]))):=by simp [ha,z,hb,hc,dT,cB,cC,cA,dp]
     rw [hw] at aK ⊢
     try simp only [aT] at aK
     simp only [ag,aG.g,z,hb,hc,dT,↓ab,ae,simprocAttr];refine bQ (eC [40] (by decide) _ _ _ _ aY.w (by first | omega | (simp only [aT];omega))) aY W aG fun ad b7 aH br=>?_;have h6:=aH.ek bu b6;simp only [br.g,z,hb,hc,dT,↓ab,ae,simprocAttr];refine bQ (Cn bP p.l (fun q aq=>⟨(dF _ aq).1,(dF _ aq).2,ef _ aq⟩) w [44] (by decide) 1 (by omega) _ _ _ _ aH.w h6 (by simp only [aT];omega)) aH W aG fun aD dj bM ch=>?_;simp only [ch.g,z,hb,hc,dT,↓ab,ae,simprocAttr];refine bQ (eC [41] (by decide) _ _ _ _ bM.w (by simp only [aT];omega)) bM W aG fun bn fX cJ fz=>?_;simp only [fz.g,z,hb,hc,dT,↓ab,ae,simprocAttr];refine bQ (nG 3 p.s _ _ _ _ cJ.w (by simp only [aT];omega)) cJ W aG fun b0 gO cM fA=>?_;simp only [fA.g,z,hb,hc,dT,↓ab,ae,simprocAttr];exact ⟨rfl,_,cu (cM.b9 an) (by simp)⟩
theorem ajs {n:Nat} (bP:km n) (p:aS) (aM:p.size<=n+1) (al:cX p) (ay:10<=p.k/\p.k<20) (b:Nat) (h:ah) (aP w:V) (ws:List bq) (W:eK [] b h aP ws) (X:cj (dS b) h p.enc (bL p w))
 (aK:ws.length + (gf p.k p.n p.s (a6 p.l)).length<=1000000000):b' Tryz.prog 84 [.ptr (aC b) 0,.agg (bL p w)] h (jn b h aP ws (gf p.k p.n p.s (a6 p.l))):=by
 have cN:=jr X;have ol:=cN.one;have dF:∀q ∈ p.l,q.size<=n/\cX q:=fun q aq=>⟨by have:=h1 aq;omega,ja al aq⟩;obtain ⟨J,ag,an,aG⟩:=gb h (bL p w);have bu:=W.ext an;have eD:=X.ext an;have b6:=cN.ext an;have bK:=b6.len;have hle:=b6.le;rw [anc] at bK hle;have aY:eN [] b J aP J aP ws:=fE.refl bu;refine X'.z rfl (cp ?_);unfold N';simp only [bL] at ag aG ⊢;rcases (show p.k=10\/p.k=11\/p.k=12\/p.k=13\/p.k=14\/p.k=15\/p.k=16 by have:=rL al;omega) with e | e | e | e | e | e | e
 . have z:=And.intro ol (And.intro bK (wJ e));have hw:gf p.k p.n p.s (a6 p.l)=[kw [95]]:=by simp [gf,z,cB,cC,cA,dp]
   rw [hw] at aK ⊢
   try simp only [aT] at aK
   simp only [ag,aG.g,z,↓ab,ae,simprocAttr];refine bQ (eC [95] (by decide) _ _ _ _ aY.w (by first | omega | (simp only [aT];omega))) aY W aG fun ad b7 aH br=>?_;simp only [br.g,z,↓ab,ae,simprocAttr];exact ⟨rfl,_,cu (aH.b9 an) (by simp)⟩
 . have z:=And.intro ol (And.intro bK (wJ e));have hw:gf p.k p.n p.s (a6 p.l)=[dD 3 p.s]:=by simp [gf,z,cB,cC,cA,dp]
   rw [hw] at aK ⊢
   try simp only [aT] at aK
   simp only [ag,aG.g,z,↓ab,ae,simprocAttr];refine bQ (nG 3 p.s _ _ _ _ aY.w (by first | omega | (simp only [aT];omega))) aY W aG fun ad b7 aH br=>?_;simp only [br.g,z,↓ab,ae,simprocAttr];exact ⟨rfl,_,cu (aH.b9 an) (by simp)⟩
 . have z:=And.intro ol (And.intro bK (wJ e));have hw:gf p.k p.n p.s (a6 p.l)=[ot p.n]:=by simp [gf,z,cB,cC,cA,dp]
   rw [hw] at aK ⊢
   try simp only [aT] at aK
   simp only [ag,aG.g,z,↓ab,ae,simprocAttr];refine bQ (TW p.n _ _ _ _ aY.w (by first | omega | (simp only [aT];omega))) aY W aG fun ad b7 aH br=>?_;simp only [br.g,z,↓ab,ae,simprocAttr];exact ⟨rfl,_,cu (aH.b9 an) (by simp)⟩
 . have z:=And.intro ol (And.intro bK (wJ e));have hw:gf p.k p.n p.s (a6 p.l)=[kw [40]]++([kw [41]]):=by simp [gf,z,cB,cC,cA,dp]
   rw [hw] at aK ⊢
   try simp only [aT] at aK
   simp only [ag,aG.g,z,↓ab,ae,simprocAttr];refine bQ (eC [40] (by decide) _ _ _ _ aY.w (by first | omega | (simp only [aT];omega))) aY W aG fun ad b7 aH br=>?_;simp only [br.g,z,↓ab,ae,simprocAttr];refine bQ (eC [41] (by decide) _ _ _ _ aH.w (by simp only [aT];omega)) aH W aG fun aD dj bM ch=>?_;simp only [ch.g,z,↓ab,ae,simprocAttr];exact ⟨rfl,_,cu (bM.b9 an) (by simp)⟩
 . have z:=And.intro ol (And.intro bK (wJ e));have hw:gf p.k p.n p.s (a6 p.l)=[oA p.n]:=by simp [gf,z,cB,cC,cA,dp]
   rw [hw] at aK ⊢
   try simp only [aT] at aK
   simp only [ag,aG.g,z,↓ab,ae,simprocAttr];refine bQ (Ty p.n _ _ _ _ aY.w (by first | omega | (simp only [aT];omega))) aY W aG fun ad b7 aH br=>?_;simp only [br.g,z,↓ab,ae,simprocAttr];exact ⟨rfl,_,cu (aH.b9 an) (by simp)⟩
 . have z:=And.intro ol (And.intro bK (wJ e));have eZ:2<=p.l.length:=by have:=iN al (by omega);omega
   have ef:∀q ∈ p.l,q.k<45:=fun q aq=>by have:=Rv al (by omega) aq;omega
   have hw:gf p.k p.n p.s (a6 p.l)=eb (a6 p.l) 2 [44] 1:=by simp [gf,z,cB,cC,cA,dp]
   rw [hw] at aK ⊢
   try simp only [aT] at aK
   simp only [ag,aG.g,z,↓ab,ae,simprocAttr];refine bQ (uR bP p aM al eZ ef 2 [44] (by decide) 1 (by omega) (by omega) (fun q aq=>.inl ⟨by decide,by decide⟩) _ _ _ w _ aY.w (aY.cs bu eD) (by first | omega | (simp only [aT];omega))) aY W aG fun ad b7 aH br=>?_;simp only [br.g,z,↓ab,ae,simprocAttr];exact ⟨rfl,_,cu (aH.b9 an) (by simp)⟩
 . have z:=And.intro ol (And.intro bK (wJ e));have ef:∀q ∈ p.l,q.k<45:=fun q aq=>by have:=Rv al (by omega) aq;omega
   have hw:gf p.k p.n p.s (a6 p.l)=dD 4 p.s::eS (cO 3) (a6 p.l):=by simp [gf,z,cB,cC,cA,dp]
   rw [hw] at aK ⊢
   try simp only [aT] at aK
   simp only [ag,aG.g,z,↓ab,ae,simprocAttr];refine bQ (TA bP p aM al (BR al (by omega)) ef 3 (by decide) (fun q aq=>.inl (by decide)) _ _ _ w _ aY.w (aY.cs bu eD) (by first | omega | (simp only [aT];omega))) aY W aG fun ad b7 aH br=>?_;simp only [br.g,z,↓ab,ae,simprocAttr];exact ⟨rfl,_,cu (aH.b9 an) (by simp)⟩
theorem Ry {k c:Int} (e:k=c):(k=27)=(c=27)/\(k=29)=(c=29)/\(k=30)=(c=30)/\(k=31)=(c=31)/\(k=32)=(c=32):=by simp only [e,aoM]
theorem BI {k c:Int} (e:k=c):(k=20)=(c=20)/\(k=21)=(c=21)/\(k=22)=(c=22)/\(k=23)=(c=23)/\(k=24)=(c=24):=by simp only [e,aoM]
theorem TT {n:Nat} (bP:km n) (p:aS) (aM:p.size<=n+1) (al:cX p) (ay:p.k=29\/p.k=31) (b:Nat) (h:ah) (aP w:V) (ws:List bq) (W:eK [] b h aP ws) (X:cj (dS b) h p.enc (bL p w))
 (aK:ws.length + (hp p.k (a6 p.l)).length<=1000000000):b' Tryz.prog 108 [.ptr (aC b) 0,.agg (bL p w)] h (jn b h aP ws (hp p.k (a6 p.l))):=by
 have cN:=jr X;have ol:=cN.one;have dF:∀q ∈ p.l,q.size<=n/\cX q:=fun q aq=>⟨by have:=h1 aq;omega,ja al aq⟩;obtain ⟨J,ag,an,aG⟩:=gb h (bL p w);have bu:=W.ext an;have eD:=X.ext an;have b6:=cN.ext an;have bK:=b6.len;have hle:=b6.le;rw [anc] at bK hle;have aY:eN [] b J aP J aP ws:=fE.refl bu;refine WV.z rfl (cp ?_);unfold Mo;simp only [bL] at ag aG ⊢;rcases ay with e | e
 . have z:=And.intro ol (And.intro bK (Ry e));have bS:0<p.l.length:=by have:=qB al (by omega);omega
   have da:1<p.l.length:=by have:=qB al (by omega);omega
   have gM:2<p.l.length:=by have:=qB al (by omega);omega
   have ef:∀q ∈ p.l,q.k<45:=fun q aq=>(BF al (by omega) aq).2;have hw:hp p.k (a6 p.l)=[kw [108,101,116]]++(p.l[0].words++([kw [61]]++(p.l[1].words++([kw [105,110]]++(p.l[2].words))))):=by simp [hp,eb,z,cB,cC,cA,eO _ _ _ bS,eO _ _ _ da,eO _ _ _ gM,dp]
   rw [hw] at aK ⊢
   try simp only [aT] at aK
   simp only [ag,aG.g,z,↓ab,ae,simprocAttr];refine bQ (eC [108,101,116] (by decide) _ _ _ _ aY.w (by first | omega | (simp only [aT];omega))) aY W aG fun ad b7 aH br=>?_;obtain ⟨hs,fu,v2,ga,fJ⟩:=eJ aH bu b6 0 0 rfl bS;simp only [br.g,z,fJ,↓ab,ae,simprocAttr];refine bQ (rV bP aM al bS (ef _ (am3 bS)) aH.w ga (by simp only [aT];omega)) aH W aG fun aD dj bM ch=>?_;simp only [ch.g,z,↓ab,ae,simprocAttr];refine bQ (eC [61] (by decide) _ _ _ _ bM.w (by simp only [aT];omega)) bM W aG fun bn fX cJ fz=>?_;obtain ⟨zG,y4,v4,oM,oO⟩:=eJ cJ bu b6 1 1 rfl da;simp only [fz.g,z,oO,↓ab,ae,simprocAttr];refine bQ (rV bP aM al da (ef _ (am3 da)) cJ.w oM (by simp only [aT];omega)) cJ W aG fun b0 gO cM fA=>?_;simp only [fA.g,z,↓ab,ae,simprocAttr];refine bQ (eC [105,110] (by decide) _ _ _ _ cM.w (by simp only [aT];omega)) cM W aG fun ep uw iV lM=>?_;obtain ⟨Uz,y6,v6,Af,Ag⟩:=eJ iV bu b6 2 2 rfl gM;simp only [lM.g,z,Ag,↓ab,ae,simprocAttr];refine bQ (rV bP aM al gM (ef _ (am3 gM)) iV.w Af (by simp only [aT];omega)) iV W aG fun fg wN mn oE=>?_;simp only [oE.g,z,↓ab,ae,simprocAttr];exact ⟨rfl,_,cu (mn.b9 an) (by simp)⟩
 . have z:=And.intro ol (And.intro bK (Ry e));have bS:0<p.l.length:=by have:=qB al (by omega);omega
   have da:1<p.l.length:=by have:=qB al (by omega);omega
   have gM:2<p.l.length:=by have:=qB al (by omega);omega
   have i_:∀q ∈ p.l,20<=q.k:=fun q aq=>(j_ al (by omega) aq).1;have ef:∀q ∈ p.l,q.k<45:=fun q aq=>(j_ al (by omega) aq).2;have hw:hp p.k (a6 p.l)=[kw [105,102]]++(p.l[0].words++([kw [116,104,101,110]]++(cO 3 (p.l[1],p.l[1].words)++([kw [101,108,115,101]]++(cO 3 (p.l[2],p.l[2].words)))))):=by simp [hp,eb,z,cB,cC,cA,eO _ _ _ bS,eO _ _ _ da,eO _ _ _ gM,dp]
   rw [hw] at aK ⊢
   try simp only [aT] at aK
   simp only [ag,aG.g,z,↓ab,ae,simprocAttr];refine bQ (eC [105,102] (by decide) _ _ _ _ aY.w (by first | omega | (simp only [aT];omega))) aY W aG fun ad b7 aH br=>?_;obtain ⟨hs,fu,v2,ga,fJ⟩:=eJ aH bu b6 0 0 rfl bS;simp only [br.g,z,fJ,↓ab,ae,simprocAttr];refine bQ (rV bP aM al bS (ef _ (am3 bS)) aH.w ga (by simp only [aT];omega)) aH W aG fun aD dj bM ch=>?_;simp only [ch.g,z,↓ab,ae,simprocAttr];refine bQ (eC [116,104,101,110] (by decide) _ _ _ _ bM.w (by simp only [aT];omega)) bM W aG fun bn fX cJ fz=>?_;obtain ⟨zG,y4,v4,oM,oO⟩:=eJ cJ bu b6 1 1 rfl da;simp only [fz.g,z,oO,↓ab,ae,simprocAttr];refine bQ (qI (J:=J) bP aM al ef da 3 (by omega) (.inr (i_ _ (am3 da))) cJ.w oM (by simp only [aT];omega)) cJ W aG fun b0 gO cM fA=>?_;simp only [fA.g,z,↓ab,ae,simprocAttr];refine bQ (eC [101,108,115,101] (by decide) _ _ _ _ cM.w (by simp only [aT];omega)) cM W aG fun ep uw iV lM=>?_;obtain ⟨Uz,y6,v6,Af,Ag⟩:=eJ iV bu b6 2 2 rfl gM;simp only [lM.g,z,Ag,↓ab,ae,simprocAttr];refine bQ (qI (J:=J) bP aM al ef gM 3 (by omega) (.inr (i_ _ (am3 gM))) iV.w Af (by simp only [aT];omega)) iV W aG fun fg wN mn oE=>?_;simp only [oE.g,z,↓ab,ae,simprocAttr];exact ⟨rfl,_,cu (mn.b9 an) (by simp)⟩
theorem aia {p:aS} (al:cX p) (e:p.k=38):hn p.s=vV p.s:=by
 have h:=(pC al).F8;rw [e] at h;have hm:p.s ∈ opsL:=by simpa [qK] using h
 exact (show ∀s ∈ opsL,hn s=vV s by decide) _ hm
theorem ah_ (s:List UInt8):dR s<=7/\5<=dR s:=by
 unfold dR
 repeat' split
 all_goals omega
theorem ajn {n:Nat} (bP:km n) (p:aS) (aM:p.size<=n+1) (al:cX p) (e:p.k=38) (b:Nat) (h:ah) (aP w:V) (ws:List bq) (W:eK [] b h aP ws) (X:cj (dS b) h p.enc (bL p w))
 (aK:ws.length + (eb (a6 p.l) (if dR p.s=5 then 6 else dR p.s) p.s (dR p.s+1)).length<=1000000000):b' Tryz.prog 107 [.ptr (aC b) 0,.agg (bL p w)] h (jn b h aP ws (eb (a6 p.l) (if dR p.s=5 then 6 else dR p.s) p.s (dR p.s+1))):=by
 have cN:=jr X;have ol:=cN.one;have dF:∀q ∈ p.l,q.size<=n/\cX q:=fun q aq=>⟨by have:=h1 aq;omega,ja al aq⟩;obtain ⟨J,ag,an,aG⟩:=gb h (bL p w);have bu:=W.ext an;have eD:=X.ext an;have b6:=cN.ext an;have bK:=b6.len;have hle:=b6.le;rw [anc] at bK hle;have aY:eN [] b J aP J aP ws:=fE.refl bu;refine WU.z rfl (cp ?_);unfold Mn;simp only [bL] at ag aG ⊢;have sy:=TU p w J eD;have aJ:p.lJ=dR p.s:=by unfold aS.lJ FM;rw [e];rfl
 have hk:=ah_ p.s;have Eo:=aia al e;have CD:=SX p.s;have eZ:2<=p.l.length:=by have:=iN al (by omega);omega
 have i_:∀q ∈ p.l,20<=q.k:=fun q aq=>(j_ al (by omega) aq).1;have ef:∀q ∈ p.l,q.k<45:=fun q aq=>(j_ al (by omega) aq).2;by_cases b0:dR p.s=5
 . have z:=And.intro ol bK;have kZ:(dR p.s=5)=True:=am_ b0;have er:IntKind.i64.wrap (dR p.s+1)=dR p.s+1:=CD;have hw:eb (a6 p.l) (if dR p.s=5 then 6 else dR p.s) p.s (dR p.s+1)=eb (a6 p.l) 6 p.s (dR p.s+1):=by simp [z,kZ,er,cB,cC,cA,dp]
   rw [hw] at aK ⊢
   try simp only [aT] at aK
   simp only [ag,aG.g,z,kZ,er,↓ab,ae,simprocAttr];refine bw sy ?_;rintro x ad ⟨rfl,aN⟩;rw [aJ];have aH:=aY.ext aN;have br:=iZ W aG aH;simp only [br.g,z,kZ,er,↓ab,ae,simprocAttr];refine bQ (uR bP p aM al eZ ef 6 p.s Eo (dR p.s+1) (by omega) (by omega) (fun q aq=>.inr (i_ q aq)) _ _ _ w _ aH.w (aH.cs bu eD) (by first | omega | (simp only [aT];omega))) aH W aG fun aD dj bM ch=>?_;simp only [ch.g,z,kZ,er,↓ab,ae,simprocAttr];exact ⟨rfl,_,cu (bM.b9 an) (by simp)⟩
 . have z:=And.intro ol bK;have kZ:(dR p.s=5)=False:=am2 b0;have er:IntKind.i64.wrap (dR p.s+1)=dR p.s+1:=CD;have hw:eb (a6 p.l) (if dR p.s=5 then 6 else dR p.s) p.s (dR p.s+1)=eb (a6 p.l) (dR p.s) p.s (dR p.s+1):=by simp [z,kZ,er,cB,cC,cA,dp]
   rw [hw] at aK ⊢
   try simp only [aT] at aK
   simp only [ag,aG.g,z,kZ,er,↓ab,ae,simprocAttr];refine bw sy ?_;rintro x ad ⟨rfl,aN⟩;rw [aJ];have aH:=aY.ext aN;have br:=iZ W aG aH;simp only [br.g,z,kZ,er,↓ab,ae,simprocAttr];refine bQ (uR bP p aM al eZ ef (dR p.s) p.s Eo (dR p.s+1) (by omega) (by omega) (fun q aq=>.inr (i_ q aq)) _ _ _ w _ aH.w (aH.cs bu eD) (by first | omega | (simp only [aT];omega))) aH W aG fun aD dj bM ch=>?_;simp only [ch.g,z,kZ,er,↓ab,ae,simprocAttr];exact ⟨rfl,_,cu (bM.b9 an) (by simp)⟩
theorem aiZ {n:Nat} (bP:km n) (p:aS) (aM:p.size<=n+1) (al:cX p) (ay:20<=p.k/\p.k<=24) (b:Nat) (h:ah) (aP w:V) (ws:List bq) (W:eK [] b h aP ws) (X:cj (dS b) h p.enc (bL p w))
 (aK:ws.length + (cD p.k p.n p.s (a6 p.l)).length<=1000000000):b' Tryz.prog 110 [.ptr (aC b) 0,.agg (bL p w)] h (jn b h aP ws (cD p.k p.n p.s (a6 p.l))):=by
 have cN:=jr X;have ol:=cN.one;have dF:∀q ∈ p.l,q.size<=n/\cX q:=fun q aq=>⟨by have:=h1 aq;omega,ja al aq⟩;obtain ⟨J,ag,an,aG⟩:=gb h (bL p w);have bu:=W.ext an;have eD:=X.ext an;have b6:=cN.ext an;have bK:=b6.len;have hle:=b6.le;rw [anc] at bK hle;have aY:eN [] b J aP J aP ws:=fE.refl bu;refine WY.z rfl (cp ?_);unfold Mu;simp only [bL] at ag aG ⊢;rcases (show p.k=20\/p.k=21\/p.k=22\/p.k=23\/p.k=24 by omega) with e | e | e | e | e
 . have z:=And.intro ol (And.intro bK (BI e));have hw:cD p.k p.n p.s (a6 p.l)=[ot p.n]:=by simp [cD,z,cB,cC,cA,dp]
   rw [hw] at aK ⊢
   try simp only [aT] at aK
   simp only [ag,aG.g,z,↓ab,ae,simprocAttr];refine bQ (TW p.n _ _ _ _ aY.w (by first | omega | (simp only [aT];omega))) aY W aG fun ad b7 aH br=>?_;simp only [br.g,z,↓ab,ae,simprocAttr];exact ⟨rfl,_,cu (aH.b9 an) (by simp)⟩
 . have z:=And.intro ol (And.intro bK (BI e));have hw:cD p.k p.n p.s (a6 p.l)=[dD 2 p.s]:=by simp [cD,z,cB,cC,cA,dp]
   rw [hw] at aK ⊢
   try simp only [aT] at aK
   simp only [ag,aG.g,z,↓ab,ae,simprocAttr];refine bQ (nG 2 p.s _ _ _ _ aY.w (by first | omega | (simp only [aT];omega))) aY W aG fun ad b7 aH br=>?_;simp only [br.g,z,↓ab,ae,simprocAttr];exact ⟨rfl,_,cu (aH.b9 an) (by simp)⟩
 . have z:=And.intro ol (And.intro bK (BI e));have hw:cD p.k p.n p.s (a6 p.l)=[kw [40]]++([kw [41]]):=by simp [cD,z,cB,cC,cA,dp]
   rw [hw] at aK ⊢
   try simp only [aT] at aK
   simp only [ag,aG.g,z,↓ab,ae,simprocAttr];refine bQ (eC [40] (by decide) _ _ _ _ aY.w (by first | omega | (simp only [aT];omega))) aY W aG fun ad b7 aH br=>?_;simp only [br.g,z,↓ab,ae,simprocAttr];refine bQ (eC [41] (by decide) _ _ _ _ aH.w (by simp only [aT];omega)) aH W aG fun aD dj bM ch=>?_;simp only [ch.g,z,↓ab,ae,simprocAttr];exact ⟨rfl,_,cu (bM.b9 an) (by simp)⟩
 . have z:=And.intro ol (And.intro bK (BI e));have hw:cD p.k p.n p.s (a6 p.l)=[oA p.n]:=by simp [cD,z,cB,cC,cA,dp]
   rw [hw] at aK ⊢
   try simp only [aT] at aK
   simp only [ag,aG.g,z,↓ab,ae,simprocAttr];refine bQ (Ty p.n _ _ _ _ aY.w (by first | omega | (simp only [aT];omega))) aY W aG fun ad b7 aH br=>?_;simp only [br.g,z,↓ab,ae,simprocAttr];exact ⟨rfl,_,cu (aH.b9 an) (by simp)⟩
 . have z:=And.intro ol (And.intro bK (BI e));have hw:cD p.k p.n p.s (a6 p.l)=[dD 3 p.s]:=by simp [cD,z,cB,cC,cA,dp]
   rw [hw] at aK ⊢
   try simp only [aT] at aK
   simp only [ag,aG.g,z,↓ab,ae,simprocAttr];refine bQ (nG 3 p.s _ _ _ _ aY.w (by first | omega | (simp only [aT];omega))) aY W aG fun ad b7 aH br=>?_;simp only [br.g,z,↓ab,ae,simprocAttr];exact ⟨rfl,_,cu (aH.b9 an) (by simp)⟩
theorem yW {F:aU->Prop} {g:ah} {l:List aS} {v:V} (L:cq F g 5 (l.map aS.enc) v) {i:Nat} (au:i<l.length) {j:Nat} (bJ:j<l[i].l.length):
 ∃b o e3 cF c4 v2,iL 5 v (.int .i64 i)=some (.ptr b o)/\jC (g.get b) (o+4)=some e3/\iL 5 e3 (.int .i64 j)=some (.ptr cF c4)/\o2 5 (g.get cF) c4=some (.agg (bL l[i].l[j] v2))/\cj F g l[i].l[j].enc (bL l[i].l[j] v2)/\Lone v2/\Lone e3:=by
 obtain ⟨b,o,e3,dG,X,cN,_,_,_,ld⟩:=aS.mH L (k:=.i64) au;obtain ⟨cF,c4,v2,ob,Vx,VA,um,_,_,_⟩:=aS.mH cN (k:=.i64) bJ;exact ⟨b,o+i * 5,e3,cF,c4+j * 5,v2,dG,ld g (Ext.refl g),ob,um g (Ext.refl g),Vx,VA.one,cN.one⟩
theorem Wy {q:aS} (e:q.k=46) (a1:0<q.l.length):q.words=dD 3 q.s::kw [61]::q.l[0].words:=by rw [tg,e];simp only [oS,fQ,Int.reduceLT,Int.reduceEq,anz,anw,eO _ _ _ a1,dp]
theorem Yv {q:aS} (e:q.k=45) (a1:0<q.l.length) (J:1<q.l.length):q.words=q.l[0].words++kw [45,62]::q.l[1].words:=by rw [tg,e];simp only [oS,fQ,eb,Int.reduceLT,Int.reduceEq,anz,anw,eO _ _ _ a1,eO _ _ _ J,dp]
theorem Tx {n:Nat} (bP:km n) (l:List aS) (aq:∀q ∈ l,q.size<=n+1/\cX q/\q.k=46) (b:Nat) (h:ah) (aP v:V) (ws:List bq) (W:eK [] b h aP ws) (L:cq (dS b) h 5 (l.map aS.enc) v)
 (aK:ws.length + (kw [108,101,116]::kw [114,101,99]::eB Prod.snd [97,110,100] (a6 l)).length<=1000000000):
 b' Tryz.prog 50 [.ptr (aC b) 0,v] h (jn b h aP ws (kw [108,101,116]::kw [114,101,99]::eB Prod.snd [97,110,100] (a6 l))):=by
 have ax:=L.len;have hle:=L.le;rw [anc] at ax hle;simp only [am0] at aK;refine XH.z rfl (cp ?_);unfold NA;simp only [↓ab,ae,simprocAttr];refine bw (eC [108,101,116] (by decide) b h aP ws W (by omega)) ?_;rintro x J ⟨rfl,jb,aY⟩;simp only [↓ab,ae,simprocAttr];refine bw (eC [114,101,99] (by decide) b J jb _ aY.w (by rw [amZ,am0,am8];omega)) ?_;rintro x ad ⟨rfl,b7,zT⟩;have aH:=aY.trans zT;simp only [↓ab,ae,simprocAttr];refine fS (fun r g=>r 0=.ptr (aC b) 0/\r 1=v/\∃(i:Nat) (dh:V) (A:List bq),r 4=.int .i64 i/\i<=l.length/\eN [] b h aP g dh (ws++(kw [108,101,116]::kw [114,101,99]::A))/\A++qP Prod.snd [97,110,100] l i=eB Prod.snd [97,110,100] (a6 l)) (fun r g=>l.length - (r 4).toN) ?_ ?_
 . refine ⟨by simp only [↓ab,cx,simprocAttr],by simp only [↓ab,cx,simprocAttr],0,b7,[],by simp only [↓ab,cx,simprocAttr]<;>rfl,by omega,?_,rfl⟩;simp only [ana,ang,anh] at aH;exact aH
 rintro r g ⟨bb,bT,i,hS,A,dN,au,E,dK⟩;unfold NB;by_cases aL:i<l.length
 . have g0:((i:Int) < (l.length:Int))=True:=am_ (by omega);have dt:=jG aL (by unfold top at hle;omega);rw [zE Prod.snd [97,110,100] l i aL] at dK;obtain ⟨wo,nv,qs⟩:=aq _ (am3 aL);have wk:=uq nv (by omega);have sD:0<l[i].l.length:=by omega
   have hw:=Wy qs sD;have hm:l[i].l[0] ∈ l[i].l:=am3 sD;have ys:=h1 hm;have Qp:=ja nv hm;have jQ:=j_ nv (by omega) hm;have hlen:=congrArg List.length dK;rw [hw] at dK hlen;simp only [amZ,am0] at hlen;by_cases a1:i=0
   . have iq:((0:Int) < (i:Int))=False:=am2 (by omega);rw [anb a1,anh] at dK;rw [anb a1,am8] at hlen;obtain ⟨bi,zc,hF,dG,X,cN,ld,agp,JK,agq⟩:=aS.mH (E.ek W L) (k:=.i64) aL;have JL:=JK g (Ext.refl g);simp only [bb,bT,dN,ax,g0,iq,dG,JL,↓ab,ae,simprocAttr];refine bw (nG 3 l[i].s b g hS _ E.w (by simp only [amZ,am0,am8];omega)) ?_;rintro x bF ⟨rfl,wO,u9⟩;have pW:=E.trans u9;simp only [bb,bT,dN,↓ab,ae,simprocAttr];refine bw (eC [61] (by decide) b bF wO _ pW.w (by simp only [amZ,am0,am8];omega)) ?_;rintro x aj ⟨rfl,wP,u'⟩;have mX:=pW.trans u';obtain ⟨b8,dc,v1,cF,c4,v2,bY,b_,ej,e7,fI,ic,hQ⟩:=yW (mX.ek W L) aL sD;have qz:iL 5 v1 (.int .i64 0)=some (.ptr cF c4):=ej;have ao:=bP l[i].l[0] (by omega) Qp jQ.2 b aj wP v2 _ mX.w fI (by simp only [amZ,am0,am8];omega);simp only [bL] at ao e7;simp only [bb,bT,dN,bY,b_,qz,e7,ic,hQ,↓ab,ae,simprocAttr];refine bw ao ?_;rintro x aZ ⟨rfl,wQ,Fd⟩;have pX:=mX.trans Fd;simp only [ana,ang,anh] at pX;simp only [bb,bT,dN,dt,↓ab,ae,simprocAttr];exact ⟨⟨i+1,wQ,_,rfl,aL,pX,by rw [<-dK];simp only [ana,ang,anh]⟩,by omega⟩
   . have iq:((0:Int) < (i:Int))=True:=am_ (by omega);rw [am7 a1] at dK;rw [am7 a1,am0,am8] at hlen;simp only [bb,bT,dN,ax,g0,iq,↓ab,ae,simprocAttr];refine bw (eC [97,110,100] (by decide) b g hS _ E.w (by simp only [amZ,am0,am8];omega)) ?_;rintro x g5 ⟨rfl,gO,kI⟩;have cM:=E.trans kI;obtain ⟨bi,zc,hF,dG,X,cN,ld,agp,JK,agq⟩:=aS.mH (cM.ek W L) (k:=.i64) aL;have JL:=JK g5 (Ext.refl g5);simp only [bb,bT,dN,ax,dG,JL,↓ab,ae,simprocAttr];refine bw (nG 3 l[i].s b g5 gO _ cM.w (by simp only [amZ,am0,am8];omega)) ?_;rintro x bF ⟨rfl,wO,u9⟩;have pW:=cM.trans u9;simp only [bb,bT,dN,↓ab,ae,simprocAttr];refine bw (eC [61] (by decide) b bF wO _ pW.w (by simp only [amZ,am0,am8];omega)) ?_;rintro x aj ⟨rfl,wP,u'⟩;have mX:=pW.trans u';obtain ⟨b8,dc,v1,cF,c4,v2,bY,b_,ej,e7,fI,ic,hQ⟩:=yW (mX.ek W L) aL sD;have qz:iL 5 v1 (.int .i64 0)=some (.ptr cF c4):=ej;have ao:=bP l[i].l[0] (by omega) Qp jQ.2 b aj wP v2 _ mX.w fI (by simp only [amZ,am0,am8];omega);simp only [bL] at ao e7;simp only [bb,bT,dN,bY,b_,qz,e7,ic,hQ,↓ab,ae,simprocAttr];refine bw ao ?_;rintro x aZ ⟨rfl,wQ,Fd⟩;have pX:=mX.trans Fd;simp only [ana,ang,anh] at pX;simp only [bb,bT,dN,dt,↓ab,ae,simprocAttr];exact ⟨⟨i+1,wQ,_,rfl,aL,pX,by rw [<-dK];simp only [ana,ang,anh]⟩,by omega⟩
 . have g0:((i:Int) < (l.length:Int))=False:=am2 (by omega);rw [zD Prod.snd [97,110,100] l i (by omega),anC] at dK;rw [dK] at E;simp only [bb,bT,dN,ax,g0,↓ab,ae,simprocAttr];exact ⟨rfl,hS,E⟩
theorem Tz {n:Nat} (bP:km n) (p:aS) (aM:p.size<=n+1) (al:cX p) (ay:p.k=32\/p.k=33) (key:List UInt8) (A_:hn key=vV key) (b:Nat) (h:ah) (aP w:V) (ws:List bq) (W:eK [] b h aP ws) (L:cq (dS b) h 5 (p.l.map aS.enc) w)
 (bS:0<p.l.length) (aK:ws.length + (kw [40]::kw key::(p.l[0].words++kw [119,105,116,104]::(eB Prod.snd [124] (a6 (p.l.drop 1))++[kw [41]]))).length<=1000000000):
 b' Tryz.prog 109 [.ptr (aC b) 0,.str key,w] h (jn b h aP ws (kw [40]::kw key::(p.l[0].words++kw [119,105,116,104]::(eB Prod.snd [124] (a6 (p.l.drop 1))++[kw [41]])))):=by
 have ax:=L.len;have hle:=L.le;rw [anc] at ax hle;have dF:∀q ∈ p.l,q.size<=n/\cX q:=fun q aq=>⟨by have:=h1 aq;omega,ja al aq⟩;have v_:20<=p.l[0].k/\p.l[0].k<45:=by obtain ⟨g,a,b,_⟩:=uo al 0 bS;rcases ay with e | e<;>rw [e] at a<;>simp [cL] at a<;>subst a<;>exact D0 b
 have jx:∀i (au:i<p.l.length),i≠0->p.l[i].k=45:=fun i au a1=>by
  obtain ⟨g,a,b,_⟩:=uo al i au;obtain ⟨j,rfl⟩:∃j,i=j+1:=⟨i-1,by omega⟩;rcases ay with e | e<;>rw [e] at a<;>simp only [cL,Int.reduceEq,aoN,aoX,ao_,apa,apc,anz,anw,ang,anh,anS] at a
  all_goals
   obtain rfl:=uO a;exact aa3 b
 simp only [amZ,am0,am8] at aK;refine WW.z rfl (cp ?_);unfold Mq;simp only [↓ab,ae,simprocAttr];refine bw (eC [40] (by decide) b h aP ws W (by omega)) ?_;rintro x J ⟨rfl,jb,aY⟩;simp only [↓ab,ae,simprocAttr];refine bw (eC key A_ b J jb _ aY.w (by rw [amZ,am0,am8];omega)) ?_;rintro x ad ⟨rfl,b7,zT⟩;have aH:=aY.trans zT;obtain ⟨nd,iz,v0,i0,Vw,Vy,d0,_,_,_⟩:=aS.mH (aH.ek W L) (k:=.i64) bS;have Q7:iL 5 w (.int .i64 0)=some (.ptr nd (iz+0 * 5)):=i0;have OH:=d0 ad (Ext.refl _);generalize iz+0 * 5=amS at Q7 OH;have Ca:=Vy.one;have Eb:=bP p.l[0] (dF _ (am3 bS)).1 (dF _ (am3 bS)).2 v_.2 b ad b7 v0 _ aH.w Vw (by simp only [amZ,am0,am8];omega);simp only [bL] at Eb;simp only [Q7,OH,Ca,↓ab,ae,simprocAttr];refine bw Eb ?_;rintro x aD ⟨rfl,dj,u7⟩;have bM:=aH.trans u7;simp only [↓ab,ae,simprocAttr];refine bw (eC [119,105,116,104] (by decide) b aD dj _ bM.w (by simp only [amZ,am0,am8];omega)) ?_;rintro x bn ⟨rfl,fX,kH⟩;have cJ:=bM.trans kH;simp only [↓ab,ae,simprocAttr];refine fS (fun r g=>r 0=.ptr (aC b) 0/\r 2=w/\∃(i:Nat) (dh:V) (A:List bq),r 6=.int .i64 i/\1<=i/\i<=p.l.length/\eN [] b h aP g dh (ws++(kw [40]::kw key::(p.l[0].words++kw [119,105,116,104]::A)))/\A++qP Prod.snd [124] (p.l.drop 1) (i-1)=eB Prod.snd [124] (a6 (p.l.drop 1))) (fun r g=>p.l.length - (r 6).toN) ?_ ?_
 . refine ⟨by simp only [↓ab,cx,simprocAttr],by simp only [↓ab,cx,simprocAttr],1,fX,[],by simp only [↓ab,cx,simprocAttr]<;>rfl,by omega,by omega,?_,rfl⟩;simp only [ana,ang,anh] at cJ;exact cJ
 rintro r g ⟨bb,di,i,hS,A,gI,da,au,E,dK⟩;unfold Mr;by_cases aL:i<p.l.length
 . have g0:((i:Int) < (p.l.length:Int))=True:=am_ (by omega);have dt:=jG aL (by unfold top at hle;omega);have A3:i-1 < (p.l.drop 1).length:=by rw [anu];omega
   have A7:(p.l.drop 1)[i-1]=p.l[i]:=by rw [List.getElem_drop];congr 1;omega
   rw [zE Prod.snd [124] (p.l.drop 1) (i-1) A3,A7] at dK;obtain ⟨wo,nv⟩:=dF _ (am3 aL);have qs:=jx i aL (by omega);have wm:=iN nv (by omega);have sD:0<p.l[i].l.length:=by omega
   have wk:1<p.l[i].l.length:=by omega
   have hw:=Yv qs sD wk;have yt:p.l[i].l[0] ∈ p.l[i].l:=am3 sD;have Bc:p.l[i].l[1] ∈ p.l[i].l:=am3 wk;have al2:=h1 yt;have al3:=h1 Bc;have Qq:=ja nv yt;have Qr:=ja nv Bc;have Qs:=BF nv (by omega) yt;have Qt:=BF nv (by omega) Bc;have hlen:=congrArg List.length dK;rw [hw] at dK hlen;simp only [amZ,am0] at hlen;by_cases a1:i=1
   . have iq:((1:Int) < (i:Int))=False:=am2 (by omega);rw [anb (show i-1=0 by omega),anh] at dK;rw [anb (show i-1=0 by omega),am8] at hlen;obtain ⟨b8,dc,v1,cF,c4,v2,bY,b_,ej,e7,fI,ic,hQ⟩:=yW (E.ek W L) aL sD;have qz:iL 5 v1 (.int .i64 0)=some (.ptr cF c4):=ej;have ao:=bP p.l[i].l[0] (by omega) Qq Qs.2 b g hS v2 _ E.w fI (by simp only [amZ,am0,am8];omega);simp only [bL] at ao e7;simp only [bb,di,gI,ax,g0,iq,bY,b_,qz,e7,ic,hQ,↓ab,ae,simprocAttr];refine bw ao ?_;rintro x bF ⟨rfl,wO,u9⟩;have pW:=E.trans u9;simp only [bb,di,gI,↓ab,ae,simprocAttr];refine bw (eC [45,62] (by decide) b bF wO _ pW.w (by simp only [amZ,am0,am8];omega)) ?_;rintro x aj ⟨rfl,wP,u'⟩;have mX:=pW.trans u';obtain ⟨bW,cf,ki,cw,cd,hs,m1,m2,m3,m4,m5,m6,m7⟩:=yW (mX.ek W L) aL wk;have JR:iL 5 ki (.int .i64 1)=some (.ptr cw cd):=m3;have aZ:=bP p.l[i].l[1] (by omega) Qr Qt.2 b aj wP hs _ mX.w m5 (by simp only [amZ,am0,am8];omega);simp only [bL] at aZ m4;simp only [bb,di,gI,m1,m2,JR,m4,m6,m7,↓ab,ae,simprocAttr];refine bw aZ ?_;rintro x he ⟨rfl,wQ,Fd⟩;have pX:=mX.trans Fd;simp only [ana,ang,anh] at pX;simp only [bb,di,gI,dt,↓ab,ae,simprocAttr];exact ⟨⟨i+1,wQ,_,rfl,by omega,aL,pX,by rw [show i+1-1=i-1+1 by omega,<-dK];simp only [ana,ang,anh]⟩,by omega⟩
   . have iq:((1:Int) < (i:Int))=True:=am_ (by omega);rw [am7 (show ¬i-1=0 by omega)] at dK;rw [am7 (show ¬i-1=0 by omega),am0,am8] at hlen;simp only [bb,di,gI,ax,g0,iq,↓ab,ae,simprocAttr];refine bw (eC [124] (by decide) b g hS _ E.w (by simp only [amZ,am0,am8];omega)) ?_;rintro x g5 ⟨rfl,gO,kI⟩;have cM:=E.trans kI;obtain ⟨b8,dc,v1,cF,c4,v2,bY,b_,ej,e7,fI,ic,hQ⟩:=yW (cM.ek W L) aL sD;have qz:iL 5 v1 (.int .i64 0)=some (.ptr cF c4):=ej;have ao:=bP p.l[i].l[0] (by omega) Qq Qs.2 b g5 gO v2 _ cM.w fI (by simp only [amZ,am0,am8];omega);simp only [bL] at ao e7;simp only [bb,di,gI,ax,bY,b_,qz,e7,ic,hQ,↓ab,ae,simprocAttr];refine bw ao ?_;rintro x bF ⟨rfl,wO,u9⟩;have pW:=cM.trans u9;simp only [bb,di,gI,↓ab,ae,simprocAttr];refine bw (eC [45,62] (by decide) b bF wO _ pW.w (by simp only [amZ,am0,am8];omega)) ?_;rintro x aj ⟨rfl,wP,u'⟩;have mX:=pW.trans u';obtain ⟨bW,cf,ki,cw,cd,hs,m1,m2,m3,m4,m5,m6,m7⟩:=yW (mX.ek W L) aL wk;have JR:iL 5 ki (.int .i64 1)=some (.ptr cw cd):=m3;have aZ:=bP p.l[i].l[1] (by omega) Qr Qt.2 b aj wP hs _ mX.w m5 (by simp only [amZ,am0,am8];omega);simp only [bL] at aZ m4;simp only [bb,di,gI,m1,m2,JR,m4,m6,m7,↓ab,ae,simprocAttr];refine bw aZ ?_;rintro x he ⟨rfl,wQ,Fd⟩;have pX:=mX.trans Fd;simp only [ana,ang,anh] at pX;simp only [bb,di,gI,dt,↓ab,ae,simprocAttr];exact ⟨⟨i+1,wQ,_,rfl,by omega,aL,pX,by rw [show i+1-1=i-1+1 by omega,<-dK];simp only [ana,ang,anh]⟩,by omega⟩
 . have g0:((i:Int) < (p.l.length:Int))=False:=am2 (by omega);rw [zD Prod.snd [124] (p.l.drop 1) (i-1) (by rw [anu];omega),anC] at dK;rw [dK] at E;simp only [bb,di,gI,ax,g0,↓ab,ae,simprocAttr];refine bw (eC [41] (by decide) b g hS _ E.w (by simp only [amZ,am0,am8];omega)) ?_;rintro x g5 ⟨rfl,gO,kI⟩;have cM:=E.trans kI;simp only [ana,ang,anh] at cM;simp only [↓ab,ae,simprocAttr];exact ⟨rfl,gO,cM⟩
theorem l9 {k c:Int} (e:k=c):(k=20)=(c=20)/\(k=21)=(c=21)/\(k=22)=(c=22)/\(k=23)=(c=23)/\(k=24)=(c=24)/\(k=25)=(c=25)/\(k=26)=(c=26)/\(k=35)=(c=35)/\(k=37)=(c=37)/\(k=38)=(c=38)/\(k=28)=(c=28)/\(k=34)=(c=34)/\(k=36)=(c=36)/\(k=39)=(c=39)/\(k=27)=(c=27)/\(k=29)=(c=29)/\(k=31)=(c=31)/\(k=30)=(c=30)/\(k=32)=(c=32)/\(k=33)=(c=33):=by simp only [e,aoM]
theorem adS {p:aS} (al:cX p) (e:p.k=30) (ax:p.l.length-1<p.l.length):(20<=p.l[p.l.length-1].k/\p.l[p.l.length-1].k<45)/\∀q ∈ p.l.take (p.l.length-1),q.k=46:=by
 refine ⟨?_,fun q aq=>?_⟩
 . obtain ⟨g,a,b,_⟩:=uo al _ ax;rw [e] at a;simp only [cL,Int.reduceEq,aoN,aoX,ao_,apa,apc,anz,anw] at a;rw [ano (by rw [am5];omega),am5,aoG] at a;simp only [anj,amW] at a;subst a;exact D0 b
 . obtain ⟨i,au,rfl⟩:=ao0 aq;have j9:i<p.l.length-1:=by rw [anH] at au;omega
   rw [List.getElem_take];obtain ⟨g,a,b,_⟩:=uo al i (by omega);rw [e] at a;simp only [cL,Int.reduceEq,aoN,aoX,ao_,apa,apc,anz,anw] at a;rw [anp (by rw [am5];exact j9)] at a;obtain rfl:=uO a;exact PV b
theorem ajf {n:Nat} (bP:km n) (p:aS) (aM:p.size<=n+1) (al:cX p) (ay:20<=p.k/\p.k<45) (b:Nat) (h:ah) (aP w:V) (ws:List bq) (W:eK [] b h aP ws) (X:cj (dS b) h p.enc (bL p w))
 (aK:ws.length + (cD p.k p.n p.s (a6 p.l)).length<=1000000000):b' Tryz.prog 85 [.ptr (aC b) 0,.agg (bL p w)] h (jn b h aP ws (cD p.k p.n p.s (a6 p.l))):=by
 have cN:=jr X;have ol:=cN.one;have dF:∀q ∈ p.l,q.size<=n/\cX q:=fun q aq=>⟨by have:=h1 aq;omega,ja al aq⟩;obtain ⟨J,ag,an,aG⟩:=gb h (bL p w);have bu:=W.ext an;have eD:=X.ext an;have b6:=cN.ext an;have bK:=b6.len;have hle:=b6.le;rw [anc] at bK hle;have aY:eN [] b J aP J aP ws:=fE.refl bu;refine X_.z rfl (cp ?_);unfold N_;simp only [bL] at ag aG ⊢;rcases (show p.k=25\/p.k=26\/p.k=35\/p.k=37\/p.k=38\/p.k=28\/p.k=34\/p.k=36\/p.k=39\/p.k=27\/p.k=29\/p.k=31\/p.k=30\/p.k=32\/p.k=33\/(20<=p.k/\p.k<=24) by have:=rL al;omega) with e | e | e | e | e | e | e | e | e | e | e | e | e | e | e | e
 . have z:=And.intro ol (And.intro bK (l9 e));have i_:∀q ∈ p.l,20<=q.k:=fun q aq=>(j_ al (by omega) aq).1;have ef:∀q ∈ p.l,q.k<45:=fun q aq=>(j_ al (by omega) aq).2;have hw:cD p.k p.n p.s (a6 p.l)=dD 4 p.s::eS (cO 10) (a6 p.l):=by simp [cD,z,cB,cC,cA,dp]
   rw [hw] at aK ⊢
   try simp only [aT] at aK
   simp only [ag,aG.g,z,↓ab,ae,simprocAttr];refine bQ (TA bP p aM al (BR al (by omega)) ef 10 (by decide) (fun q aq=>.inr (i_ q aq)) _ _ _ w _ aY.w (aY.cs bu eD) (by first | omega | (simp only [aT];omega))) aY W aG fun ad b7 aH br=>?_;simp only [br.g,z,↓ab,ae,simprocAttr];exact ⟨rfl,_,cu (aH.b9 an) (by simp)⟩
 . have z:=And.intro ol (And.intro bK (l9 e));have eZ:2<=p.l.length:=by have:=iN al (by omega);omega
   have i_:∀q ∈ p.l,20<=q.k:=fun q aq=>(j_ al (by omega) aq).1;have ef:∀q ∈ p.l,q.k<45:=fun q aq=>(j_ al (by omega) aq).2;have hw:cD p.k p.n p.s (a6 p.l)=eb (a6 p.l) 5 [44] 4:=by simp [cD,z,cB,cC,cA,dp]
   rw [hw] at aK ⊢
   try simp only [aT] at aK
   simp only [ag,aG.g,z,↓ab,ae,simprocAttr];refine bQ (uR bP p aM al eZ ef 5 [44] (by decide) 4 (by omega) (by omega) (fun q aq=>.inr (i_ q aq)) _ _ _ w _ aY.w (aY.cs bu eD) (by first | omega | (simp only [aT];omega))) aY W aG fun ad b7 aH br=>?_;simp only [br.g,z,↓ab,ae,simprocAttr];exact ⟨rfl,_,cu (aH.b9 an) (by simp)⟩
 . have z:=And.intro ol (And.intro bK (l9 e));have eZ:2<=p.l.length:=by have:=iN al (by omega);omega
   have i_:∀q ∈ p.l,20<=q.k:=fun q aq=>(j_ al (by omega) aq).1;have ef:∀q ∈ p.l,q.k<45:=fun q aq=>(j_ al (by omega) aq).2;have hw:cD p.k p.n p.s (a6 p.l)=eb (a6 p.l) 2 [59] 1:=by simp [cD,z,cB,cC,cA,dp]
   rw [hw] at aK ⊢
   try simp only [aT] at aK
   simp only [ag,aG.g,z,↓ab,ae,simprocAttr];refine bQ (uR bP p aM al eZ ef 2 [59] (by decide) 1 (by omega) (by omega) (fun q aq=>.inr (i_ q aq)) _ _ _ w _ aY.w (aY.cs bu eD) (by first | omega | (simp only [aT];omega))) aY W aG fun ad b7 aH br=>?_;simp only [br.g,z,↓ab,ae,simprocAttr];exact ⟨rfl,_,cu (aH.b9 an) (by simp)⟩
 . have z:=And.intro ol (And.intro bK (l9 e));have eZ:2<=p.l.length:=by have:=iN al (by omega);omega
   have i_:∀q ∈ p.l,20<=q.k:=fun q aq=>(j_ al (by omega) aq).1;have ef:∀q ∈ p.l,q.k<45:=fun q aq=>(j_ al (by omega) aq).2;have hw:cD p.k p.n p.s (a6 p.l)=eb (a6 p.l) 4 [58,61] 2:=by simp [cD,z,cB,cC,cA,dp]
   rw [hw] at aK ⊢
   try simp only [aT] at aK
   simp only [ag,aG.g,z,↓ab,ae,simprocAttr];refine bQ (uR bP p aM al eZ ef 4 [58,61] (by decide) 2 (by omega) (by omega) (fun q aq=>.inr (i_ q aq)) _ _ _ w _ aY.w (aY.cs bu eD) (by first | omega | (simp only [aT];omega))) aY W aG fun ad b7 aH br=>?_;simp only [br.g,z,↓ab,ae,simprocAttr];exact ⟨rfl,_,cu (aH.b9 an) (by simp)⟩
 . have z:=And.intro ol (And.intro bK (l9 e));have hw:cD p.k p.n p.s (a6 p.l)=eb (a6 p.l) (if dR p.s=5 then 6 else dR p.s) p.s (dR p.s+1):=by simp [cD,z,cB,cC,cA,dp]
   rw [hw] at aK ⊢
   try simp only [aT] at aK
   simp only [ag,aG.g,z,↓ab,ae,simprocAttr];refine bQ (ajn bP p aM al e _ _ _ w _ aY.w (aY.cs bu eD) (by first | omega | (simp only [aT];omega))) aY W aG fun ad b7 aH br=>?_;simp only [br.g,z,↓ab,ae,simprocAttr];exact ⟨rfl,_,cu (aH.b9 an) (by simp)⟩
 . have eZ:=iN al (by omega);have bS:0<p.l.length:=by omega
   have da:1<p.l.length:=by omega
   have i_:∀q ∈ p.l,20<=q.k:=fun q aq=>(j_ al (by omega) aq).1;have ef:∀q ∈ p.l,q.k<45:=fun q aq=>(j_ al (by omega) aq).2;have lZ:j1 (a6 p.l)=jz (p.l[0].kz<9\/p.l[0].k=25\/p.l[0].k=34) (p.l[0],p.l[0].words):=by unfold j1;rw [Ko p.l 0 bS]
   have yh:(p.l[0].k=25\/p.l[0].k=34)->j1 (a6 p.l)=mf (true||decide (p.l[0].lJ<9)) p.l[0]:=fun z=>by rw [lZ,Bool.true_or];unfold jz mf;rw [anb ⟨.inr z,fun y=>by have qR:p.l[0].k=32:=y;omega,fun y=>by have qR:p.l[0].k=33:=y;omega⟩,anb rfl]
   have Ik:¬(p.l[0].k=25\/p.l[0].k=34)->j1 (a6 p.l)=mf (false||decide (p.l[0].lJ<9)) p.l[0]:=fun z=>by rw [lZ,aoE];unfold jz mf;simp only [z,aoN,ane,R4 (dF _ (am3 bS)).2 (ef _ (am3 bS)) (show (9:Int)<=10 by decide) (.inr (i_ _ (am3 bS)))]
   by_cases a2:p.l[0].k=25
   . have z:=And.intro ol (And.intro bK (l9 e));have er:j1 (a6 p.l)=mf (true||decide (p.l[0].lJ<9)) p.l[0]:=yh (.inl a2);have hd:(p.l[0].k=25)=True:=am_ a2;have bS:0<p.l.length:=by omega
     have da:1<p.l.length:=by omega
     have hw:cD p.k p.n p.s (a6 p.l)=mf (true||decide (p.l[0].lJ<9)) p.l[0]++(cO 10 (p.l[1],p.l[1].words)):=by simp [cD,z,er,hd,cB,cC,cA,eO _ _ _ bS,eO _ _ _ da,dp]
     rw [hw] at aK ⊢
     try simp only [aT] at aK
     obtain ⟨ki,fe,v1,jo,hg⟩:=eJ aY bu b6 0 0 rfl bS;obtain ⟨g1,kC,gW,gT⟩:=jq J [.int .i64 0,.int .i64 0,.int .i64 0,.str [],.cc] (bL p.l[0] v1);simp only [bL] at kC gT;have h5:=aY.ext gW;have lN:=iZ W aG h5;have ao:=FH bP p.l[0] (dF _ (am3 bS)).1 (dF _ (am3 bS)).2 (ef _ (am3 bS)) 9 true b g1 aP v1 ws h5.w (jo.ext gW) (by first | omega | (simp only [aT];omega));simp only [ag,aG.g,z,er,hd,hg,kC,gT.g,lN.g,↓ab,ae,simprocAttr];refine bQ ao h5 W aG fun ad b7 aH br=>?_;obtain ⟨hs,fu,v2,ga,fJ⟩:=eJ aH bu b6 1 1 rfl da;simp only [br.g,z,er,hd,fJ,↓ab,ae,simprocAttr];refine bQ (qI (J:=J) bP aM al ef da 10 (by omega) (.inr (i_ _ (am3 da))) aH.w ga (by simp only [aT];omega)) aH W aG fun aD dj bM ch=>?_;simp only [ch.g,z,er,hd,↓ab,ae,simprocAttr];exact ⟨rfl,_,cu (bM.b9 an) (by simp)⟩
   by_cases a3:p.l[0].k=34
   . have z:=And.intro ol (And.intro bK (l9 e));have er:j1 (a6 p.l)=mf (true||decide (p.l[0].lJ<9)) p.l[0]:=yh (.inr a3);have hd:(p.l[0].k=25)=False:=am2 a2;have jJ:(p.l[0].k=34)=True:=am_ a3;have bS:0<p.l.length:=by omega
     have da:1<p.l.length:=by omega
     have hw:cD p.k p.n p.s (a6 p.l)=mf (true||decide (p.l[0].lJ<9)) p.l[0]++(cO 10 (p.l[1],p.l[1].words)):=by simp [cD,z,er,hd,jJ,cB,cC,cA,eO _ _ _ bS,eO _ _ _ da,dp]
     rw [hw] at aK ⊢
     try simp only [aT] at aK
     obtain ⟨ki,fe,v1,jo,hg⟩:=eJ aY bu b6 0 0 rfl bS;obtain ⟨g1,kC,gW,gT⟩:=jq J [.int .i64 0,.int .i64 0,.int .i64 0,.str [],.cc] (bL p.l[0] v1);simp only [bL] at kC gT;have h5:=aY.ext gW;have lN:=iZ W aG h5;have ao:=FH bP p.l[0] (dF _ (am3 bS)).1 (dF _ (am3 bS)).2 (ef _ (am3 bS)) 9 true b g1 aP v1 ws h5.w (jo.ext gW) (by first | omega | (simp only [aT];omega));simp only [ag,aG.g,z,er,hd,jJ,hg,kC,gT.g,lN.g,↓ab,ae,simprocAttr];refine bQ ao h5 W aG fun ad b7 aH br=>?_;obtain ⟨hs,fu,v2,ga,fJ⟩:=eJ aH bu b6 1 1 rfl da;simp only [br.g,z,er,hd,jJ,fJ,↓ab,ae,simprocAttr];refine bQ (qI (J:=J) bP aM al ef da 10 (by omega) (.inr (i_ _ (am3 da))) aH.w ga (by simp only [aT];omega)) aH W aG fun aD dj bM ch=>?_;simp only [ch.g,z,er,hd,jJ,↓ab,ae,simprocAttr];exact ⟨rfl,_,cu (bM.b9 an) (by simp)⟩
   . have z:=And.intro ol (And.intro bK (l9 e));have er:j1 (a6 p.l)=mf (false||decide (p.l[0].lJ<9)) p.l[0]:=Ik (by rintro (z | z);exact a2 z;exact a3 z);have hd:(p.l[0].k=25)=False:=am2 a2;have jJ:(p.l[0].k=34)=False:=am2 a3;have bS:0<p.l.length:=by omega
     have da:1<p.l.length:=by omega
     have hw:cD p.k p.n p.s (a6 p.l)=mf (false||decide (p.l[0].lJ<9)) p.l[0]++(cO 10 (p.l[1],p.l[1].words)):=by simp [cD,z,er,hd,jJ,cB,cC,cA,eO _ _ _ bS,eO _ _ _ da,dp]
     rw [hw] at aK ⊢
     try simp only [aT] at aK
     obtain ⟨ki,fe,v1,jo,hg⟩:=eJ aY bu b6 0 0 rfl bS;obtain ⟨g1,kC,gW,gT⟩:=jq J [.int .i64 0,.int .i64 0,.int .i64 0,.str [],.cc] (bL p.l[0] v1);simp only [bL] at kC gT;have h5:=aY.ext gW;have lN:=iZ W aG h5;have ao:=FH bP p.l[0] (dF _ (am3 bS)).1 (dF _ (am3 bS)).2 (ef _ (am3 bS)) 9 false b g1 aP v1 ws h5.w (jo.ext gW) (by first | omega | (simp only [aT];omega));simp only [ag,aG.g,z,er,hd,jJ,hg,kC,gT.g,lN.g,↓ab,ae,simprocAttr];refine bQ ao h5 W aG fun ad b7 aH br=>?_;obtain ⟨hs,fu,v2,ga,fJ⟩:=eJ aH bu b6 1 1 rfl da;simp only [br.g,z,er,hd,jJ,fJ,↓ab,ae,simprocAttr];refine bQ (qI (J:=J) bP aM al ef da 10 (by omega) (.inr (i_ _ (am3 da))) aH.w ga (by simp only [aT];omega)) aH W aG fun aD dj bM ch=>?_;simp only [ch.g,z,er,hd,jJ,↓ab,ae,simprocAttr];exact ⟨rfl,_,cu (bM.b9 an) (by simp)⟩
 . have z:=And.intro ol (And.intro bK (l9 e));have bS:0<p.l.length:=by have:=uq al (by omega);omega
   have i_:∀q ∈ p.l,20<=q.k:=fun q aq=>(j_ al (by omega) aq).1;have ef:∀q ∈ p.l,q.k<45:=fun q aq=>(j_ al (by omega) aq).2;have hw:cD p.k p.n p.s (a6 p.l)=[kw [114,97,105,115,101]]++(cO 10 (p.l[0],p.l[0].words)):=by simp [cD,z,cB,cC,cA,eO _ _ _ bS,dp]
   rw [hw] at aK ⊢
   try simp only [aT] at aK
   simp only [ag,aG.g,z,↓ab,ae,simprocAttr];refine bQ (eC [114,97,105,115,101] (by decide) _ _ _ _ aY.w (by first | omega | (simp only [aT];omega))) aY W aG fun ad b7 aH br=>?_;obtain ⟨hs,fu,v2,ga,fJ⟩:=eJ aH bu b6 0 0 rfl bS;simp only [br.g,z,fJ,↓ab,ae,simprocAttr];refine bQ (qI (J:=J) bP aM al ef bS 10 (by omega) (.inr (i_ _ (am3 bS))) aH.w ga (by simp only [aT];omega)) aH W aG fun aD dj bM ch=>?_;simp only [ch.g,z,↓ab,ae,simprocAttr];exact ⟨rfl,_,cu (bM.b9 an) (by simp)⟩
 . have z:=And.intro ol (And.intro bK (l9 e));have bS:0<p.l.length:=by have:=uq al (by omega);omega
   have i_:∀q ∈ p.l,20<=q.k:=fun q aq=>(j_ al (by omega) aq).1;have ef:∀q ∈ p.l,q.k<45:=fun q aq=>(j_ al (by omega) aq).2;have hw:cD p.k p.n p.s (a6 p.l)=[kw [33]]++(cO 8 (p.l[0],p.l[0].words)):=by simp [cD,z,cB,cC,cA,eO _ _ _ bS,dp]
   rw [hw] at aK ⊢
   try simp only [aT] at aK
   simp only [ag,aG.g,z,↓ab,ae,simprocAttr];refine bQ (eC [33] (by decide) _ _ _ _ aY.w (by first | omega | (simp only [aT];omega))) aY W aG fun ad b7 aH br=>?_;obtain ⟨hs,fu,v2,ga,fJ⟩:=eJ aH bu b6 0 0 rfl bS;simp only [br.g,z,fJ,↓ab,ae,simprocAttr];refine bQ (qI (J:=J) bP aM al ef bS 8 (by omega) (.inr (i_ _ (am3 bS))) aH.w ga (by simp only [aT];omega)) aH W aG fun aD dj bM ch=>?_;simp only [ch.g,z,↓ab,ae,simprocAttr];exact ⟨rfl,_,cu (bM.b9 an) (by simp)⟩
 . have z:=And.intro ol (And.intro bK (l9 e));have bS:0<p.l.length:=by have:=uq al (by omega);omega
   have i_:∀q ∈ p.l,20<=q.k:=fun q aq=>(j_ al (by omega) aq).1;have ef:∀q ∈ p.l,q.k<45:=fun q aq=>(j_ al (by omega) aq).2;have hw:cD p.k p.n p.s (a6 p.l)=[kw [45]]++(cO 8 (p.l[0],p.l[0].words)):=by simp [cD,z,cB,cC,cA,eO _ _ _ bS,dp]
   rw [hw] at aK ⊢
   try simp only [aT] at aK
   simp only [ag,aG.g,z,↓ab,ae,simprocAttr];refine bQ (eC [45] (by decide) _ _ _ _ aY.w (by first | omega | (simp only [aT];omega))) aY W aG fun ad b7 aH br=>?_;obtain ⟨hs,fu,v2,ga,fJ⟩:=eJ aH bu b6 0 0 rfl bS;simp only [br.g,z,fJ,↓ab,ae,simprocAttr];refine bQ (qI (J:=J) bP aM al ef bS 8 (by omega) (.inr (i_ _ (am3 bS))) aH.w ga (by simp only [aT];omega)) aH W aG fun aD dj bM ch=>?_;simp only [ch.g,z,↓ab,ae,simprocAttr];exact ⟨rfl,_,cu (bM.b9 an) (by simp)⟩
 . have z:=And.intro ol (And.intro bK (l9 e));have bS:0<p.l.length:=by have:=iN al (by omega);omega
   have da:1<p.l.length:=by have:=iN al (by omega);omega
   have ef:∀q ∈ p.l,q.k<45:=fun q aq=>(BF al (by omega) aq).2;have hw:cD p.k p.n p.s (a6 p.l)=[kw [102,117,110]]++(p.l[0].words++([kw [45,62]]++(p.l[1].words))):=by simp [cD,hp,eb,z,cB,cC,cA,eO _ _ _ bS,eO _ _ _ da,dp]
   rw [hw] at aK ⊢
   try simp only [aT] at aK
   simp only [ag,aG.g,z,↓ab,ae,simprocAttr];refine bQ (eC [102,117,110] (by decide) _ _ _ _ aY.w (by first | omega | (simp only [aT];omega))) aY W aG fun ad b7 aH br=>?_;obtain ⟨hs,fu,v2,ga,fJ⟩:=eJ aH bu b6 0 0 rfl bS;simp only [br.g,z,fJ,↓ab,ae,simprocAttr];refine bQ (rV bP aM al bS (ef _ (am3 bS)) aH.w ga (by simp only [aT];omega)) aH W aG fun aD dj bM ch=>?_;simp only [ch.g,z,↓ab,ae,simprocAttr];refine bQ (eC [45,62] (by decide) _ _ _ _ bM.w (by simp only [aT];omega)) bM W aG fun bn fX cJ fz=>?_;obtain ⟨zG,y4,v4,oM,oO⟩:=eJ cJ bu b6 1 1 rfl da;simp only [fz.g,z,oO,↓ab,ae,simprocAttr];refine bQ (rV bP aM al da (ef _ (am3 da)) cJ.w oM (by simp only [aT];omega)) cJ W aG fun b0 gO cM fA=>?_;simp only [fA.g,z,↓ab,ae,simprocAttr];exact ⟨rfl,_,cu (cM.b9 an) (by simp)⟩
 . have z:=And.intro ol (And.intro bK (l9 e));have hw:cD p.k p.n p.s (a6 p.l)=hp p.k (a6 p.l):=by simp [cD,z,cB,cC,cA,dp]
   rw [hw] at aK ⊢
   try simp only [aT] at aK
   simp only [ag,aG.g,z,↓ab,ae,simprocAttr];refine bQ (TT bP p aM al (by omega) _ _ _ w _ aY.w (aY.cs bu eD) (by first | omega | (simp only [aT];omega))) aY W aG fun ad b7 aH br=>?_;simp only [br.g,z,↓ab,ae,simprocAttr];exact ⟨rfl,_,cu (aH.b9 an) (by simp)⟩
 . have z:=And.intro ol (And.intro bK (l9 e));have hw:cD p.k p.n p.s (a6 p.l)=hp p.k (a6 p.l):=by simp [cD,z,cB,cC,cA,dp]
   rw [hw] at aK ⊢
   try simp only [aT] at aK
   simp only [ag,aG.g,z,↓ab,ae,simprocAttr];refine bQ (TT bP p aM al (by omega) _ _ _ w _ aY.w (aY.cs bu eD) (by first | omega | (simp only [aT];omega))) aY W aG fun ad b7 aH br=>?_;simp only [br.g,z,↓ab,ae,simprocAttr];exact ⟨rfl,_,cu (aH.b9 an) (by simp)⟩
 . have z:=And.intro ol (And.intro bK (l9 e));have wl:IntKind.i64.wrap ((p.l.length:Int)-1)=((p.l.length-1:Nat):Int):=by have:=ur al (by omega);rw [wrap_i64 (by omega) (by unfold top at hle;omega)];omega
   have tR:p.l.length-1<p.l.length:=by have:=ur al (by omega);omega
   have AP:=adS al e tR;have hw:cD p.k p.n p.s (a6 p.l)=kw [108,101,116]::kw [114,101,99]::eB Prod.snd [97,110,100] (a6 (p.l.take (p.l.length-1)))++([kw [105,110]]++(p.l[p.l.length-1].words)):=by simp [cD,hp,eb,z,wl,cB,cC,cA,eO _ _ _ tR,dp]
   rw [hw] at aK ⊢
   try simp only [aT] at aK
   have Ac:=aY.ek bu b6;obtain ⟨ki,bY,LC⟩:=cq.take Ac (k:=.i64) (i:=p.l.length-1) (by rw [anc];omega);rw [<-List.map_take] at LC;simp only [ag,aG.g,z,wl,bY,↓ab,ae,simprocAttr];refine bQ (Tx bP (p.l.take (p.l.length-1)) (fun q aq=>⟨by have:=(dF q (anU aq)).1;omega,(dF q (anU aq)).2,AP.2 q aq⟩) _ _ _ ki _ aY.w LC (by first | omega | (simp only [aT];omega))) aY W aG fun ad b7 aH br=>?_;simp only [br.g,z,wl,↓ab,ae,simprocAttr];refine bQ (eC [105,110] (by decide) _ _ _ _ aH.w (by simp only [aT];omega)) aH W aG fun aD dj bM ch=>?_;obtain ⟨pP,y3,v3,oL,oN⟩:=eJ bM bu b6 (p.l.length-1) _ rfl tR;simp only [ch.g,z,wl,oN,↓ab,ae,simprocAttr];refine bQ (rV bP aM al tR AP.1.2 bM.w oL (by simp only [aT];omega)) bM W aG fun bn fX cJ fz=>?_;simp only [fz.g,z,wl,↓ab,ae,simprocAttr];exact ⟨rfl,_,cu (cJ.b9 an) (by simp)⟩
 . have z:=And.intro ol (And.intro bK (l9 e));have eZ:=ur al (by omega);have bS:0<p.l.length:=by omega
   have hw:cD p.k p.n p.s (a6 p.l)=kw [40]::kw [109,97,116,99,104]::(p.l[0].words++kw [119,105,116,104]::(eB Prod.snd [124] (a6 (p.l.drop 1))++[kw [41]])):=by simp [cD,hp,eb,z,cB,cC,cA,eO _ _ _ bS,dp,-List.drop_one]
   rw [hw] at aK ⊢
   try simp only [aT] at aK
   simp only [ag,aG.g,z,↓ab,ae,simprocAttr];refine bQ (Tz bP p aM al (by omega) [109,97,116,99,104] (by decide) _ _ _ w _ aY.w b6 bS (by first | omega | (simp only [aT];omega))) aY W aG fun ad b7 aH br=>?_;simp only [br.g,z,↓ab,ae,simprocAttr];exact ⟨rfl,_,cu (aH.b9 an) (by simp)⟩
 . have z:=And.intro ol (And.intro bK (l9 e));have eZ:=ur al (by omega);have bS:0<p.l.length:=by omega
   have hw:cD p.k p.n p.s (a6 p.l)=kw [40]::kw [116,114,121]::(p.l[0].words++kw [119,105,116,104]::(eB Prod.snd [124] (a6 (p.l.drop 1))++[kw [41]])):=by simp [cD,hp,eb,z,cB,cC,cA,eO _ _ _ bS,dp,-List.drop_one]
   rw [hw] at aK ⊢
   try simp only [aT] at aK
   simp only [ag,aG.g,z,↓ab,ae,simprocAttr];refine bQ (Tz bP p aM al (by omega) [116,114,121] (by decide) _ _ _ w _ aY.w b6 bS (by first | omega | (simp only [aT];omega))) aY W aG fun ad b7 aH br=>?_;simp only [br.g,z,↓ab,ae,simprocAttr];exact ⟨rfl,_,cu (aH.b9 an) (by simp)⟩
 . have z25:=am2 (show ¬p.k=25 by omega);have z26:=am2 (show ¬p.k=26 by omega);have nI:=am2 (show ¬p.k=35 by omega);have z37:=am2 (show ¬p.k=37 by omega);have pT:=am2 (show ¬p.k=38 by omega);have z28:=am2 (show ¬p.k=28 by omega);have z34:=am2 (show ¬p.k=34 by omega);have z36:=am2 (show ¬p.k=36 by omega);have z39:=am2 (show ¬p.k=39 by omega);have z27:=am2 (show ¬p.k=27 by omega);have qS:=am2 (show ¬p.k=29 by omega);have z31:=am2 (show ¬p.k=31 by omega);have qT:=am2 (show ¬p.k=30 by omega);have U3:=am2 (show ¬p.k=32 by omega);have z33:=am2 (show ¬p.k=33 by omega);have z:=And.intro ol bK
   try simp only [aT] at aK
   simp only [ag,aG.g,z,z25,z26,nI,z37,pT,z28,z34,z36,z39,z27,qS,z31,qT,U3,z33,↓ab,ae,simprocAttr];refine bQ (aiZ bP p aM al e _ _ _ w _ aY.w (aY.cs bu eD) (by first | omega | (simp only [aT];omega))) aY W aG fun ad b7 aH br=>?_;simp only [br.g,z,z25,z26,nI,z37,pT,z28,z34,z36,z39,z27,qS,z31,qT,U3,z33,↓ab,ae,simprocAttr];exact ⟨rfl,_,cu (aH.b9 an) (by simp)⟩
theorem ajr {n:Nat} (bP:km n):km (n+1):=by
 intro p aM al Qo b h aP w ws W X aK;have cN:=jr X;have ol:=cN.one;obtain ⟨J,ag,an,aG⟩:=gb h (bL p w);have bu:=W.ext an;have eD:=X.ext an;have hw:=tg p;unfold oS at hw;rw [hw] at aK ⊢;refine XF.z rfl (cp ?_);unfold c49;by_cases bY:p.k<10
 . rw [anb bY] at aK ⊢;have c:=ajv bP p aM al bY b J aP w ws bu eD aK;simp only [bL] at ag aG c ⊢;simp only [ag,aG.g,ol,am_ bY,↓ab,ae,simprocAttr];refine bw c ?_;rintro x ad ⟨rfl,b7,E⟩;simp only [↓ab,ae,simprocAttr];exact ⟨rfl,b7,E.b9 an⟩
 rw [am7 bY] at aK ⊢;by_cases b_:p.k<20
 . rw [anb b_] at aK ⊢;have c:=ajs bP p aM al ⟨by omega,b_⟩ b J aP w ws bu eD aK;simp only [bL] at ag aG c ⊢;simp only [ag,aG.g,ol,am2 bY,am_ b_,↓ab,ae,simprocAttr];refine bw c ?_;rintro x ad ⟨rfl,b7,E⟩;simp only [↓ab,ae,simprocAttr];exact ⟨rfl,b7,E.b9 an⟩
 rw [am7 b_,anb Qo] at aK ⊢;have c:=ajf bP p aM al ⟨by omega,Qo⟩ b J aP w ws bu eD aK;simp only [bL] at ag aG c ⊢;simp only [ag,aG.g,ol,am2 bY,am2 b_,↓ab,ae,simprocAttr];refine bw c ?_;rintro x ad ⟨rfl,b7,E⟩;simp only [↓ab,ae,simprocAttr];exact ⟨rfl,b7,E.b9 an⟩
theorem TX:∀n,km n
 | 0=>fun p aM=>absurd (w3 p) (by omega)
 | n+1=>ajr (TX n)
theorem BJ {k c:Int} (e:k=c):(k=45)=(c=45)/\(k=46)=(c=46)/\(k=47)=(c=47)/\(k=51)=(c=51)/\(k=52)=(c=52)/\(k=53)=(c=53)/\(k=50)=(c=50):=by simp only [e,aoM]
theorem Co {n:Nat} (bP:km n) (p:aS) (aM:p.size<=n+1) (al:cX p) (ay:p.k=47\/p.k=51) (b:Nat) (h:ah) (aP w:V) (ws:List bq) (W:eK [] b h aP ws) (X:cj (dS b) h p.enc (bL p w))
 (aK:ws.length + (dD 4 p.s::eS iP (a6 p.l)).length<=1000000000):b' Tryz.prog 48 [.ptr (aC b) 0,.agg (bL p w)] h (jn b h aP ws (dD 4 p.s::eS iP (a6 p.l))):=by
 have cN:=jr X;have ol:=cN.one;have dF:∀q ∈ p.l,q.size<=n/\cX q:=fun q aq=>⟨by have:=h1 aq;omega,ja al aq⟩;obtain ⟨J,ag,an,aG⟩:=gb h (bL p w);have bu:=W.ext an;have eD:=X.ext an;have b6:=cN.ext an;have bK:=b6.len;have hle:=b6.le;rw [anc] at bK hle;have aY:eN [] b J aP J aP ws:=fE.refl bu;refine XE.z rfl (cp ?_);unfold Ny;simp only [bL] at ag aG ⊢;by_cases db:p.l.length=1
 . have z:=And.intro ol bK;have bk:((p.l.length:Int)=1)=True:=am_ (by omega);have bS:0<p.l.length:=by omega
   have ef:∀q ∈ p.l,q.k<45:=fun q aq=>by have:=yQ al (by omega) aq;omega
   have mB:a6 p.l=[(p.l[0],p.l[0].words)]:=by rw [rS];match p.l,db,bS with | [a],_,_=>rfl
   have hw:dD 4 p.s::eS iP (a6 p.l)=[dD 4 p.s]++([kw [111,102]]++(p.l[0].words)):=by simp [z,bk,mB,eS,iP,cB,cC,cA,eO _ _ _ bS,dp]
   rw [hw] at aK ⊢
   try simp only [aT] at aK
   simp only [ag,aG.g,z,bk,↓ab,ae,simprocAttr];refine bQ (nG 4 p.s _ _ _ _ aY.w (by first | omega | (simp only [aT];omega))) aY W aG fun ad b7 aH br=>?_;simp only [br.g,z,bk,↓ab,ae,simprocAttr];refine bQ (eC [111,102] (by decide) _ _ _ _ aH.w (by simp only [aT];omega)) aH W aG fun aD dj bM ch=>?_;obtain ⟨pP,y3,v3,oL,oN⟩:=eJ bM bu b6 0 0 rfl bS;simp only [ch.g,z,bk,oN,↓ab,ae,simprocAttr];refine bQ (rV bP aM al bS (ef _ (am3 bS)) bM.w oL (by simp only [aT];omega)) bM W aG fun bn fX cJ fz=>?_;simp only [fz.g,z,bk,↓ab,ae,simprocAttr];exact ⟨rfl,_,cu (cJ.b9 an) (by simp)⟩
 . have z:=And.intro ol bK;have bk:((p.l.length:Int)=1)=False:=am2 (by have:=BR al (by omega);omega);have mB:a6 p.l=[]:=by rw [anI (show p.l.length=0 by have:=BR al (by omega);omega)];rfl
   have hw:dD 4 p.s::eS iP (a6 p.l)=[dD 4 p.s]:=by simp [z,bk,mB,eS,cB,cC,cA,dp]
   rw [hw] at aK ⊢
   try simp only [aT] at aK
   simp only [ag,aG.g,z,bk,↓ab,ae,simprocAttr];refine bQ (nG 4 p.s _ _ _ _ aY.w (by first | omega | (simp only [aT];omega))) aY W aG fun ad b7 aH br=>?_;simp only [br.g,z,bk,↓ab,ae,simprocAttr];exact ⟨rfl,_,cu (aH.b9 an) (by simp)⟩
theorem L0:cO 1=Prod.snd:=funext dp
theorem JA {p:aS} (al:cX p) (e:p.k=50):(∀q ∈ p.l.take p.n.toNat,q.k=1)/\∀i (au:i<p.l.length),p.n.toNat<=i->p.l[i].k=47:=by
 have D3:=EM al e;refine ⟨fun q aq=>?_,fun i au aX=>?_⟩
 . obtain ⟨i,au,rfl⟩:=ao0 aq;have j9:i<p.n.toNat:=by rw [anH] at au;omega
   rw [List.getElem_take];obtain ⟨g,a,b,_⟩:=uo al i (by omega);rw [e] at a;simp only [cL,Int.reduceEq,aoN,aoX,ao_,apa,apc,anz,anw] at a;rw [anp (by rw [am5];exact j9)] at a;obtain rfl:=uO a;exact aa5 b
 . obtain ⟨g,a,b,_⟩:=uo al i au;rw [e] at a;simp only [cL,Int.reduceEq,aoN,aoX,ao_,apa,apc,anz,anw] at a;rw [ano (by rw [am5];exact aX)] at a;obtain rfl:=uO a;exact aa4 b
theorem adT {p:aS} (al:cX p) (e:p.k=53):∀q ∈ p.l,q.k=46:=by intro q aq;obtain ⟨i,au,g,_,a,b⟩:=BK al e aq;obtain rfl:=uO (a:=5) (by simpa only [cL,Int.reduceEq,aoN,aoX,ao_,apa,apc,anz,anw] using a);exact PV b
theorem OG {q:aS} (e:q.k=47):q.words=dD 4 q.s::eS iP (a6 q.l):=by rw [tg,e];simp only [oS,fQ,Int.reduceLT,Int.reduceEq,ao_,apa,aoN,aoX,anz,anw,anh]
theorem ai2 {n:Nat} (bP:km n) (p:aS) (aM:p.size<=n+1) (al:cX p) (ay:50<=p.k) (b:Nat) (h:ah) (aP w:V) (ws:List bq) (W:eK [] b h aP ws) (X:cj (dS b) h p.enc (bL p w))
 (aK:ws.length + (fQ p.k p.n p.s (a6 p.l)++[kw [59,59]]).length<=1000000000):b' Tryz.prog 26 [.ptr (aC b) 0,.agg (bL p w)] h (jn b h aP ws (fQ p.k p.n p.s (a6 p.l)++[kw [59,59]])):=by
 have cN:=jr X;have ol:=cN.one;have dF:∀q ∈ p.l,q.size<=n/\cX q:=fun q aq=>⟨by have:=h1 aq;omega,ja al aq⟩;obtain ⟨J,ag,an,aG⟩:=gb h (bL p w);have bu:=W.ext an;have eD:=X.ext an;have b6:=cN.ext an;have bK:=b6.len;have hle:=b6.le;rw [anc] at bK hle;have aY:eN [] b J aP J aP ws:=fE.refl bu;refine Xm.z rfl (cp ?_);unfold M';simp only [bL] at ag aG ⊢;rcases (show p.k=51\/p.k=52\/p.k=53\/p.k=50 by have:=rL al;omega) with e | e | e | e
 . have z:=And.intro ol (And.intro bK (BJ e));have hw:fQ p.k p.n p.s (a6 p.l)++[kw [59,59]]=[kw [101,120,99,101,112,116,105,111,110]]++(dD 4 p.s::eS iP (a6 p.l)++([kw [59,59]])):=by simp [fQ,eb,z,cB,cC,cA,dp]
   rw [hw] at aK ⊢
   try simp only [aT] at aK
   simp only [ag,aG.g,z,↓ab,ae,simprocAttr];refine bQ (eC [101,120,99,101,112,116,105,111,110] (by decide) _ _ _ _ aY.w (by first | omega | (simp only [aT];omega))) aY W aG fun ad b7 aH br=>?_;simp only [br.g,z,↓ab,ae,simprocAttr];refine bQ (Co bP p aM al (by omega) _ _ _ w _ aH.w (aH.cs bu eD) (by simp only [aT];omega)) aH W aG fun aD dj bM ch=>?_;simp only [ch.g,z,↓ab,ae,simprocAttr];refine bQ (eC [59,59] (by decide) _ _ _ _ bM.w (by simp only [aT];omega)) bM W aG fun bn fX cJ fz=>?_;simp only [fz.g,z,↓ab,ae,simprocAttr];exact ⟨rfl,_,cu (cJ.b9 an) (by simp)⟩
 . have z:=And.intro ol (And.intro bK (BJ e));have bS:0<p.l.length:=by have:=iN al (by omega);omega
   have da:1<p.l.length:=by have:=iN al (by omega);omega
   have ef:∀q ∈ p.l,q.k<45:=fun q aq=>(BF al (by omega) aq).2;have hw:fQ p.k p.n p.s (a6 p.l)++[kw [59,59]]=[kw [108,101,116]]++(p.l[0].words++([kw [61]]++(p.l[1].words++([kw [59,59]])))):=by simp [fQ,eb,z,cB,cC,cA,eO _ _ _ bS,eO _ _ _ da,dp]
   rw [hw] at aK ⊢
   try simp only [aT] at aK
   simp only [ag,aG.g,z,↓ab,ae,simprocAttr];refine bQ (eC [108,101,116] (by decide) _ _ _ _ aY.w (by first | omega | (simp only [aT];omega))) aY W aG fun ad b7 aH br=>?_;obtain ⟨hs,fu,v2,ga,fJ⟩:=eJ aH bu b6 0 0 rfl bS;simp only [br.g,z,fJ,↓ab,ae,simprocAttr];refine bQ (rV bP aM al bS (ef _ (am3 bS)) aH.w ga (by simp only [aT];omega)) aH W aG fun aD dj bM ch=>?_;simp only [ch.g,z,↓ab,ae,simprocAttr];refine bQ (eC [61] (by decide) _ _ _ _ bM.w (by simp only [aT];omega)) bM W aG fun bn fX cJ fz=>?_;obtain ⟨zG,y4,v4,oM,oO⟩:=eJ cJ bu b6 1 1 rfl da;simp only [fz.g,z,oO,↓ab,ae,simprocAttr];refine bQ (rV bP aM al da (ef _ (am3 da)) cJ.w oM (by simp only [aT];omega)) cJ W aG fun b0 gO cM fA=>?_;simp only [fA.g,z,↓ab,ae,simprocAttr];refine bQ (eC [59,59] (by decide) _ _ _ _ cM.w (by simp only [aT];omega)) cM W aG fun ep uw iV lM=>?_;simp only [lM.g,z,↓ab,ae,simprocAttr];exact ⟨rfl,_,cu (iV.b9 an) (by simp)⟩
 . have z:=And.intro ol (And.intro bK (BJ e));have hw:fQ p.k p.n p.s (a6 p.l)++[kw [59,59]]=kw [108,101,116]::kw [114,101,99]::eB Prod.snd [97,110,100] (a6 p.l)++([kw [59,59]]):=by simp [fQ,eb,z,cB,cC,cA,dp]
   rw [hw] at aK ⊢
   try simp only [aT] at aK
   simp only [ag,aG.g,z,↓ab,ae,simprocAttr];refine bQ (Tx bP p.l (fun q aq=>⟨by have:=(dF q aq).1;omega,(dF q aq).2,adT al e q aq⟩) _ _ _ w _ aY.w b6 (by first | omega | (simp only [aT];omega))) aY W aG fun ad b7 aH br=>?_;simp only [br.g,z,↓ab,ae,simprocAttr];refine bQ (eC [59,59] (by decide) _ _ _ _ aH.w (by simp only [aT];omega)) aH W aG fun aD dj bM ch=>?_;simp only [ch.g,z,↓ab,ae,simprocAttr];exact ⟨rfl,_,cu (bM.b9 an) (by simp)⟩
 . have D3:=EM al e;have oY:((p.n.toNat:Nat):Int)=p.n:=ao1 D3.1;have RA:∀q ∈ p.l.take p.n.toNat,q.k<45:=fun q aq=>by have:=(JA al e).1 q aq;omega
   by_cases aj:1<p.n
   . have z:=And.intro ol (And.intro bK (BJ e));have gS:(1<p.n)=True:=am_ aj;have hw:fQ p.k p.n p.s (a6 p.l)++[kw [59,59]]=[kw [116,121,112,101]]++([kw [40]]++(eB (cO 1) [44] (a6 (p.l.take (p.n.toNat)))++([kw [41]]++([dD 3 p.s]++([kw [61]]++(eB Prod.snd [124] (a6 (p.l.drop p.n.toNat))++([kw [59,59]]))))))):=by simp [fQ,eb,z,gS,L0,cB,cC,cA,dp,-List.drop_one]
     rw [hw] at aK ⊢
     try simp only [aT] at aK
     simp only [ag,aG.g,z,gS,↓ab,ae,simprocAttr];refine bQ (eC [116,121,112,101] (by decide) _ _ _ _ aY.w (by first | omega | (simp only [aT];omega))) aY W aG fun ad b7 aH br=>?_;simp only [br.g,z,gS,↓ab,ae,simprocAttr];refine bQ (eC [40] (by decide) _ _ _ _ aH.w (by simp only [aT];omega)) aH W aG fun aD dj bM ch=>?_;have GM:=bM.ek bu b6;obtain ⟨pP,ej,Ae⟩:=cq.take GM (k:=.i64) (i:=p.n.toNat) (by rw [anc];omega);rw [<-List.map_take] at Ae;have qz:gJ 5 w none (some (.int .i64 p.n)) none=some pP:=by have z:=ej;rw [oY] at z;exact z
     simp only [ch.g,z,gS,qz,↓ab,ae,simprocAttr];refine bQ (Cn bP (p.l.take (p.n.toNat)) (fun q aq=>⟨(dF _ (anU aq)).1,(dF _ (anU aq)).2,RA _ aq⟩) pP [44] (by decide) 1 (by omega) _ _ _ _ bM.w Ae (by simp only [aT];omega)) bM W aG fun bn fX cJ fz=>?_;simp only [fz.g,z,gS,↓ab,ae,simprocAttr];refine bQ (eC [41] (by decide) _ _ _ _ cJ.w (by simp only [aT];omega)) cJ W aG fun b0 gO cM fA=>?_;simp only [fA.g,z,gS,↓ab,ae,simprocAttr];refine bQ (nG 3 p.s _ _ _ _ cM.w (by simp only [aT];omega)) cM W aG fun ep uw iV lM=>?_;simp only [lM.g,z,gS,↓ab,ae,simprocAttr];refine bQ (eC [61] (by decide) _ _ _ _ iV.w (by simp only [aT];omega)) iV W aG fun fg wN mn oE=>?_;simp only [oE.g,z,gS,↓ab,ae,simprocAttr];refine fS (fun r g=>r 0=.ptr (aC b) 0/\r 3=.ptr (aC h.next) 0/\∃(i:Nat) (dh:V) (Z:List bq),r 4=.int .i64 i/\p.n.toNat<=i/\i<=p.l.length/\eN [] b J aP g dh (((((((ws++[kw [116,121,112,101]])++[kw [40]])++eB (cO 1) [44] (a6 (p.l.take (p.n.toNat))))++[kw [41]])++[dD 3 p.s])++[kw [61]])++Z)/\Z++qP Prod.snd [124] (p.l.drop p.n.toNat) (i-p.n.toNat)=eB Prod.snd [124] (a6 (p.l.drop p.n.toNat))) (fun r g=>p.l.length - (r 4).toN) ?_ ?_
     . refine ⟨by simp only [↓ab,cx,simprocAttr],by simp only [↓ab,cx,simprocAttr],p.n.toNat,wN,[],by simp only [oY,↓ab,cx,simprocAttr],by omega,by omega,by rw [anC];exact mn,by rw [aoG];rfl⟩
     rintro r g ⟨bb,bX,i,hS,Z,dN,da,au,fB,cQ⟩;have u4:=iZ W aG fB;unfold Hi;by_cases aL:i<p.l.length
     . have g0:((i:Int) < (p.l.length:Int))=True:=am_ (by omega);have dt:=jG aL (by unfold top at hle;omega);have A3:i-p.n.toNat < (p.l.drop p.n.toNat).length:=by rw [anu];omega
       have A7:(p.l.drop p.n.toNat)[i-p.n.toNat]=p.l[i]:=by rw [List.getElem_drop];congr 1;omega
       rw [zE Prod.snd [124] (p.l.drop p.n.toNat) (i-p.n.toNat) A3,A7] at cQ;obtain ⟨wo,nv⟩:=dF _ (am3 aL);have qs:=(JA al e).2 i aL da;have lZ:=OG qs;have hlen:=congrArg List.length cQ;rw [lZ] at cQ hlen;simp only [amZ,am0] at hlen;by_cases a1:i=p.n.toNat
       . have iq:(p.n < (i:Int))=False:=am2 (by omega);rw [anb (show i-p.n.toNat=0 by omega),anh] at cQ;rw [anb (show i-p.n.toNat=0 by omega),am8] at hlen;obtain ⟨mh,xo,hF,nb,lS⟩:=eJ fB bu b6 i _ rfl aL;have ao:=Co bP p.l[i] (by omega) nv (.inl qs) b g hS hF _ fB.w nb (by simp only [amZ,am0,am8];omega);simp only [bb,bX,dN,u4.g,ol.1,bK,g0,iq,lS,↓ab,ae,simprocAttr];refine bw ao ?_;rintro x HZ ⟨rfl,wR,u_⟩;have pZ:=fB.trans u_;simp only [ana] at pZ;simp only [bb,bX,dN,dt,↓ab,ae,simprocAttr];refine ⟨⟨i+1,wR,Z++(dD 4 p.l[i].s::eS iP (a6 p.l[i].l)),rfl,by omega,aL,?_,?_⟩,by omega⟩
         . simp only [ana];exact pZ
         . rw [show i+1-p.n.toNat=i-p.n.toNat+1 by omega,<-cQ];simp only [ana,ang,anh]
       . have iq:(p.n < (i:Int))=True:=am_ (by omega);rw [am7 (show ¬i-p.n.toNat=0 by omega)] at cQ;rw [am7 (show ¬i-p.n.toNat=0 by omega),am0,am8] at hlen;simp only [bb,bX,dN,u4.g,ol.1,bK,g0,iq,↓ab,ae,simprocAttr];refine bw (eC [124] (by decide) b g hS _ fB.w (by simp only [amZ,am0,am8];omega)) ?_;rintro x g5 ⟨rfl,gO,kI⟩;have cM:=fB.trans kI;have fA:=iZ W aG cM;obtain ⟨mh,xo,hF,nb,lS⟩:=eJ cM bu b6 i _ rfl aL;have ao:=Co bP p.l[i] (by omega) nv (.inl qs) b g5 gO hF _ cM.w nb (by simp only [amZ,am0,am8];omega);simp only [bb,bX,dN,fA.g,ol.1,bK,lS,↓ab,ae,simprocAttr];refine bw ao ?_;rintro x HZ ⟨rfl,wR,u_⟩;have pZ:=cM.trans u_;simp only [ana] at pZ;simp only [bb,bX,dN,dt,↓ab,ae,simprocAttr];refine ⟨⟨i+1,wR,Z++([kw [124]]++(dD 4 p.l[i].s::eS iP (a6 p.l[i].l))),rfl,by omega,aL,?_,?_⟩,by omega⟩
         . simp only [ana];exact pZ
         . rw [show i+1-p.n.toNat=i-p.n.toNat+1 by omega,<-cQ];simp only [ana,ang,anh]
     . have g0:((i:Int) < (p.l.length:Int))=False:=am2 (by omega);rw [zD Prod.snd [124] (p.l.drop p.n.toNat) (i-p.n.toNat) (by rw [anu];omega),anC] at cQ;rw [cQ] at fB;simp only [bb,bX,dN,u4.g,ol.1,bK,g0,↓ab,ae,simprocAttr];refine bw (eC [59,59] (by decide) b g hS _ fB.w (by simp only [amZ,am0,am8];omega)) ?_;rintro x g5 ⟨rfl,gO,kI⟩;simp only [↓ab,ae,simprocAttr];exact ⟨rfl,_,cu ((fB.trans kI).b9 an) (by simp)⟩
   . have z:=And.intro ol (And.intro bK (BJ e));have gS:(1<p.n)=False:=am2 aj;have hw:fQ p.k p.n p.s (a6 p.l)++[kw [59,59]]=[kw [116,121,112,101]]++(eB (cO 1) [44] (a6 (p.l.take (p.n.toNat)))++([dD 3 p.s]++([kw [61]]++(eB Prod.snd [124] (a6 (p.l.drop p.n.toNat))++([kw [59,59]]))))):=by simp [fQ,eb,z,gS,L0,cB,cC,cA,dp,-List.drop_one]
     rw [hw] at aK ⊢
     try simp only [aT] at aK
     simp only [ag,aG.g,z,gS,↓ab,ae,simprocAttr];refine bQ (eC [116,121,112,101] (by decide) _ _ _ _ aY.w (by first | omega | (simp only [aT];omega))) aY W aG fun ad b7 aH br=>?_;have h6:=aH.ek bu b6;obtain ⟨hs,b_,ts⟩:=cq.take h6 (k:=.i64) (i:=p.n.toNat) (by rw [anc];omega);rw [<-List.map_take] at ts;have BB:gJ 5 w none (some (.int .i64 p.n)) none=some hs:=by have z:=b_;rw [oY] at z;exact z
     simp only [br.g,z,gS,BB,↓ab,ae,simprocAttr];refine bQ (Cn bP (p.l.take (p.n.toNat)) (fun q aq=>⟨(dF _ (anU aq)).1,(dF _ (anU aq)).2,RA _ aq⟩) hs [44] (by decide) 1 (by omega) _ _ _ _ aH.w ts (by simp only [aT];omega)) aH W aG fun aD dj bM ch=>?_;simp only [ch.g,z,gS,↓ab,ae,simprocAttr];refine bQ (nG 3 p.s _ _ _ _ bM.w (by simp only [aT];omega)) bM W aG fun bn fX cJ fz=>?_;simp only [fz.g,z,gS,↓ab,ae,simprocAttr];refine bQ (eC [61] (by decide) _ _ _ _ cJ.w (by simp only [aT];omega)) cJ W aG fun b0 gO cM fA=>?_;simp only [fA.g,z,gS,↓ab,ae,simprocAttr];refine fS (fun r g=>r 0=.ptr (aC b) 0/\r 3=.ptr (aC h.next) 0/\∃(i:Nat) (dh:V) (Z:List bq),r 4=.int .i64 i/\p.n.toNat<=i/\i<=p.l.length/\eN [] b J aP g dh (((((ws++[kw [116,121,112,101]])++eB (cO 1) [44] (a6 (p.l.take (p.n.toNat))))++[dD 3 p.s])++[kw [61]])++Z)/\Z++qP Prod.snd [124] (p.l.drop p.n.toNat) (i-p.n.toNat)=eB Prod.snd [124] (a6 (p.l.drop p.n.toNat))) (fun r g=>p.l.length - (r 4).toN) ?_ ?_
     . refine ⟨by simp only [↓ab,cx,simprocAttr],by simp only [↓ab,cx,simprocAttr],p.n.toNat,gO,[],by simp only [oY,↓ab,cx,simprocAttr],by omega,by omega,by rw [anC];exact cM,by rw [aoG];rfl⟩
     rintro r g ⟨bb,bX,i,hS,Z,dN,da,au,fB,cQ⟩;have u4:=iZ W aG fB;unfold Hi;by_cases aL:i<p.l.length
     . have g0:((i:Int) < (p.l.length:Int))=True:=am_ (by omega);have dt:=jG aL (by unfold top at hle;omega);have A3:i-p.n.toNat < (p.l.drop p.n.toNat).length:=by rw [anu];omega
       have A7:(p.l.drop p.n.toNat)[i-p.n.toNat]=p.l[i]:=by rw [List.getElem_drop];congr 1;omega
       rw [zE Prod.snd [124] (p.l.drop p.n.toNat) (i-p.n.toNat) A3,A7] at cQ;obtain ⟨wo,nv⟩:=dF _ (am3 aL);have qs:=(JA al e).2 i aL da;have lZ:=OG qs;have hlen:=congrArg List.length cQ;rw [lZ] at cQ hlen;simp only [amZ,am0] at hlen;by_cases a1:i=p.n.toNat
       . have iq:(p.n < (i:Int))=False:=am2 (by omega);rw [anb (show i-p.n.toNat=0 by omega),anh] at cQ;rw [anb (show i-p.n.toNat=0 by omega),am8] at hlen;obtain ⟨mh,xo,hF,nb,lS⟩:=eJ fB bu b6 i _ rfl aL;have ao:=Co bP p.l[i] (by omega) nv (.inl qs) b g hS hF _ fB.w nb (by simp only [amZ,am0,am8];omega);simp only [bb,bX,dN,u4.g,ol.1,bK,g0,iq,lS,↓ab,ae,simprocAttr];refine bw ao ?_;rintro x HZ ⟨rfl,wR,u_⟩;have pZ:=fB.trans u_;simp only [ana] at pZ;simp only [bb,bX,dN,dt,↓ab,ae,simprocAttr];refine ⟨⟨i+1,wR,Z++(dD 4 p.l[i].s::eS iP (a6 p.l[i].l)),rfl,by omega,aL,?_,?_⟩,by omega⟩
         . simp only [ana];exact pZ
         . rw [show i+1-p.n.toNat=i-p.n.toNat+1 by omega,<-cQ];simp only [ana,ang,anh]
       . have iq:(p.n < (i:Int))=True:=am_ (by omega);rw [am7 (show ¬i-p.n.toNat=0 by omega)] at cQ;rw [am7 (show ¬i-p.n.toNat=0 by omega),am0,am8] at hlen;simp only [bb,bX,dN,u4.g,ol.1,bK,g0,iq,↓ab,ae,simprocAttr];refine bw (eC [124] (by decide) b g hS _ fB.w (by simp only [amZ,am0,am8];omega)) ?_;rintro x g5 ⟨rfl,gO,kI⟩;have cM:=fB.trans kI;have fA:=iZ W aG cM;obtain ⟨mh,xo,hF,nb,lS⟩:=eJ cM bu b6 i _ rfl aL;have ao:=Co bP p.l[i] (by omega) nv (.inl qs) b g5 gO hF _ cM.w nb (by simp only [amZ,am0,am8];omega);simp only [bb,bX,dN,fA.g,ol.1,bK,lS,↓ab,ae,simprocAttr];refine bw ao ?_;rintro x HZ ⟨rfl,wR,u_⟩;have pZ:=cM.trans u_;simp only [ana] at pZ;simp only [bb,bX,dN,dt,↓ab,ae,simprocAttr];refine ⟨⟨i+1,wR,Z++([kw [124]]++(dD 4 p.l[i].s::eS iP (a6 p.l[i].l))),rfl,by omega,aL,?_,?_⟩,by omega⟩
         . simp only [ana];exact pZ
         . rw [show i+1-p.n.toNat=i-p.n.toNat+1 by omega,<-cQ];simp only [ana,ang,anh]
     . have g0:((i:Int) < (p.l.length:Int))=False:=am2 (by omega);rw [zD Prod.snd [124] (p.l.drop p.n.toNat) (i-p.n.toNat) (by rw [anu];omega),anC] at cQ;rw [cQ] at fB;simp only [bb,bX,dN,u4.g,ol.1,bK,g0,↓ab,ae,simprocAttr];refine bw (eC [59,59] (by decide) b g hS _ fB.w (by simp only [amZ,am0,am8];omega)) ?_;rintro x g5 ⟨rfl,gO,kI⟩;simp only [↓ab,ae,simprocAttr];exact ⟨rfl,_,cu ((fB.trans kI).b9 an) (by simp)⟩
theorem g7 {k:Int} (h:fo k=7):50<=k:=by
 unfold fo at h
 repeat' split at h
 all_goals omega
theorem Zp {q:aS} (h:50<=q.k):q.words=fQ q.k q.n q.s (a6 q.l):=by rw [tg];unfold oS;rw [am7 (by omega),am7 (by omega),am7 (by omega)]
theorem ajG (l:List aS) (aM:gg l<=100000000) (v:V) (h:ah) (L:cq Any h 5 (l.map aS.enc) v):
 b' Tryz.prog 11 [v] h fun x aa=>∃aP,x=.tuple [aP,.int .i64 (iG l)]/\c_ h.next aa 4 aP (oC l).length (kY (oC l))/\Ext h aa:=by
 have ax:=L.len;have hle:=L.le;rw [anc] at ax hle;have wA:=K9 l;refine W1.z rfl (cp ?_);unfold Mt;simp only [↓ab,ae,simprocAttr];refine bw (ai1 l (by omega) v h L) ?_;rintro x J ⟨rfl,an⟩;rw [YO l (by omega)];by_cases ao:iG l=0
 rotate_left
 . have jw:=am2 ao;simp only [jw,↓ab,ae,simprocAttr];exact ⟨_,rfl,by unfold oC;rw [am7 ao];exact ⟨rfl,rfl⟩,an⟩
 have wz:oC l=ev l:=by unfold oC;rw [anb ao]
 rw [wz,ao];have ql:=BP (by omega) ao;obtain ⟨aD,aI,cv,k0⟩:=gb J [.cc];have zR:=an.trans cv;have hold:∀q,Old h q->dS J.next q:=fun q z=>by unfold dS;unfold Old at z;have:=an.next;omega
 have GD:cq (dS J.next) aD 5 (l.map aS.enc) v:=(L.Fa.ext zR).nH hold;have xJ:eK [] J.next aD .cc []:=⟨k0.g,⟨rfl,rfl⟩,k0.lt⟩
 simp only [aI,↓ab,ae,simprocAttr];refine fS (fun r g=>r 0=v/\r 5=.ptr (aC J.next) 0/\∃(i:Nat) (dh:V) (A:List bq),r 6=.int .i64 i/\i<=l.length/\eN [] J.next aD .cc g dh A/\A++ev (l.drop i)=ev l) (fun r g=>l.length - (r 6).toN) ?_ ?_
 . exact ⟨by simp only [↓ab,cx,simprocAttr],by simp only [↓ab,cx,simprocAttr],0,.cc,[],by simp only [↓ab,cx,simprocAttr]<;>rfl,by omega,fE.refl xJ,rfl⟩
 rintro r g ⟨bb,dC,i,hS,A,gI,au,E,dK⟩;unfold My;by_cases aL:i<l.length
 . have g0:((i:Int) < (l.length:Int))=True:=am_ (by omega);have dt:=jG aL (by unfold top at hle;omega);rw [ant aL,ev] at dK;have ll:=congrArg List.length dK;simp only [amZ,am0] at ll;have fa:l[i] ∈ l:=am3 aL;have cy:=rT fa;obtain ⟨bi,zc,hF,dG,X,cN,ld,_,_,_⟩:=aS.mH (E.ek xJ GD) (k:=.i64) aL;have rJ:=ld g (Ext.refl g);have Ca:=cN.one;have Ej:=ql _ fa;generalize l[i]=q at *;have ay:=g7 Ej.2;rw [Zp ay] at ll dK;have ak:=ai2 (TX q.size) q (by omega) Ej.1 ay J.next g hS hF A E.w X (by rw [amZ,am0,am8];omega)
   simp only [bL] at ak;simp only [bb,dC,gI,ax,g0,dt,dG,rJ,Ca,↓ab,ae,simprocAttr];refine bw ak ?_;rintro x g3 ⟨rfl,dj,F⟩;have cJ:=E.trans F;simp only [bb,dC,gI,dt,↓ab,ae,simprocAttr];refine ⟨⟨i+1,dj,_,rfl,aL,cJ,?_⟩,by omega⟩;rw [<-dK];simp only [ana,ang,anh]
 . have g0:((i:Int) < (l.length:Int))=False:=am2 (by omega);rw [anD (by omega),ev,anC] at dK;subst dK;have kP:g.get (aC J.next)=.a_ [hS] 0 false:=E.w.g;have jf:=E.w.lone;simp only [bb,dC,gI,ax,g0,kP,jf,↓ab,ae,simprocAttr];have aX:=an.next
   exact ⟨hS,rfl,E.w.o.mono (by omega),zR.lz E.m fun q z=>by
    rcases z with rfl | z
    . rw [dX];exact aX
    . exact z.elim⟩
theorem ajt (l:List aS) (aM:gg l<=100000000) (hw:iG l=0->(ev l).length<=10000) (v:V) (h:ah) (L:cq Any h 5 (l.map aS.enc) v):
 b' Tryz.prog 9 [v] h fun x aa=>x=.tuple [.str (ox l).1,.int .i64 (ox l).2]/\Ext h aa:=by
 refine Yk.z rfl (cp ?_);unfold Oe;simp only [↓ab,ae,simprocAttr];refine bw (ajG l aM v h L) ?_;rintro x J ⟨aP,rfl,S,an⟩;by_cases ao:iG l=0
 rotate_left
 . have jw:=am2 ao;have ak:ox l=([],iG l):=by unfold ox;rw [am7 ao]
   rw [ak];simp only [jw,↓ab,ae,simprocAttr];exact an
 have wz:oC l=ev l:=by unfold oC;rw [anb ao]
 rw [wz] at S;have ql:∀q ∈ l,cX q:=fun q aq=>(BP (by omega) ao q aq).1;have Er:=Lb ql;have rq:=Ga l ql;rw [ao];simp only [↓ab,ae,simprocAttr];refine bw (ai8 aP (ev l) J S.v (hw ao) fun w sI=>by have:=Sp (anr.1 rq w sI);omega) ?_;rintro x ad ⟨rfl,aN⟩;have aH:=an.trans aN;have ak:ox l=if 65536 < (hT (ev l)).1.length then ([],3) else ((hT (ev l)).1,0):=by unfold ox;rw [anb ao,anb (by rw [Er])]
 rw [ak];by_cases aj:65536 < (hT (ev l)).1.length
 . have gl:((65536:Int) < ((hT (ev l)).1.length:Int))=True:=am_ (by omega);rw [anb aj];simp only [gl,↓ab,ae,simprocAttr];exact aH
 . have gl:((65536:Int) < ((hT (ev l)).1.length:Int))=False:=am2 (by omega);rw [am7 aj];simp only [gl,↓ab,ae,simprocAttr];exact aH
end
section
open Go bd Go.RowKit
set_option maxRecDepth 100000 in
theorem Wm:K1 ctx 100000 6 []=true:=by kernel_rfl
theorem Wl (h:ah):ff Tryz.prog 6 [] h (.bool true) h:=
 YQ (by kernel_rfl) (fun E x q=>by subst q;simp [Rel]) ⟨_,Tryz.func6,by kernel_rfl⟩ (fun w hw=>akH (C:=ctx) follows uA hw Ft (by kernel_rfl) (by kernel_rfl) Wm) h
theorem L2 (h:ah):b' Tryz.prog 6 [] h fun x aa=>x=.bool true/\aa=h:=⟨_,_,Wl h,rfl,rfl⟩
end
end Go.Proofs.YtefceblncmdkhaaGreatDoor
