/- The chapter's functions, walked by the abstract machine: plain lemmas, no condition. Printed by a program from longer texts: names made short. -/
import Derived.Test.YtefceblncmdkhaaGreatDoorM12
import Derived.Test.YtefceblncmdkhaaGreatDoorM13
import Derived.Test.YtefceblncmdkhaaGreatDoorM8
import Derived.Test.YtefceblncmdkhaaGreatDoorM4
set_option linter.unusedSectionVars false
set_option linter.unusedSimpArgs false
set_option linter.unusedVariables false
set_option maxHeartbeats 64000000
noncomputable section
namespace Go.Proofs.YtefceblncmdkhaaGreatDoor
section
open Go bb
def mD (n:Nat):Prop:=∀(p:aQ),p.size<=n->c6 p->∀(b:Nat) (bk:V) (h:ah) (aP w:V) (ws:List bt),eO [bk] b h aP ws->hK (dU b) h bk->cg (dU b) h p.enc (bN p w)->ws.length+p.words.length<=1000000000->
 b8 Tryz.prog 23 [.ptr (aD b) 0,.agg (bN p w)] h (ix [bk] b h aP ws p.words)
theorem hK.lone {F:aU->Prop} {h:ah} {v:V} (M:hK F h v):Lone v:=kN.lone M.i
theorem W_ {pre:List V} {b:Nat} {h J bI:ah} {aP jN:V} {ws h8:List bt} {cells:List V} (W:eO pre b h aP ws) (ag:h.new (.a_ cells 0 false)=J) (E:eT pre b J aP bI jN h8):Has bI h.next cells:=by
 subst ag;have A:Has (h.new (.a_ cells 0 false)) h.next cells:=⟨by rw [gI];omega,jD _⟩
 refine ⟨ao3 A.lt E.m.next,?_⟩;rw [E.get (hE A.lt) (fun e=>by have:=congrArg cY e;rw [ee,ee] at this;have:=W.lt;omega) (fun z=>by have:=W.o.v.cJ z;unfold Old at this;rw [ee] at this;omega)];exact A.g
theorem jd {pre:List V} {b:Nat} {h J bI:ah} {aP jN:V} {ws h8:List bt} {cells:List V} (W:eO pre b h aP ws) (A:Has J h.next cells) (E:eT pre b J aP bI jN h8):Has bI h.next cells:=by refine ⟨ao3 A.lt E.m.next,?_⟩;rw [E.get (hE A.lt) (fun e=>by have:=congrArg cY e;rw [ee,ee] at this;have:=W.lt;omega) (fun z=>by have:=W.o.v.cJ z;unfold Old at this;rw [ee] at this;omega)];exact A.g
theorem jA {F:aU->Prop} {p:aQ} {h:ah} {w:V} (X:cg F h p.enc (bN p w)):ch F h 5 (p.l.map aQ.enc) w:=by
 obtain ⟨eS,e,cz,_⟩:=aQ.open X;obtain rfl:w=eS:=by simp only [bN,List.cons.injEq] at e;exact e.2.2.2.2.1
 exact cz
theorem Cj (t:Nat):bA.a_ [] t=.bad:=rfl
theorem V.B':V.bad.list=[]:=rfl
theorem V.aha (l:List V):(V.tuple l).list=l:=rfl
theorem Gi {P:Program} {u:Option V} {h:ah} {K:Option V->ah->Prop}:mY P [] u h K=K u h:=rfl
theorem alx {P:Program} {f:FuncId} {args ds:List V} {u:Option V} {h:ah} {K:Option V->ah->Prop}:mY P (.func f args::ds) u h K=u9 P f args u h fun e1 ab=>mY P ds e1 ab K:=rfl
theorem ZT {P:Program} {f:FuncId} {args:List V} {u:Option V} {h:ah} {K mB:Option V->ah->Prop} (H:u9 P f args u h K) (k:∀u h,K u h->mB u h):u9 P f args u h mB:=by obtain ⟨e1,ab,a,b⟩:=H;exact ⟨e1,ab,a,k _ _ b⟩
theorem Vi {n:Nat} (bR:mD n) (p:aQ) (aL:p.size<=n) (an:c6 p) (t:Bool) (b:Nat) (bk:V) (h:ah) (aP w:V) (ws:List bt) (W:eO [bk] b h aP ws) (M:hK (dU b) h bk) (X:cg (dU b) h p.enc (bN p w))
 (aM:ws.length + (jI (t=true) (p,p.words)).length<=1000000000):b8 Tryz.prog 76 [.ptr (aD b) 0,.bool t,.agg (bN p w)] h (ix [bk] b h aP ws (jI (t=true) (p,p.words))):=by
 have ol:=(jA X).one;have hm:=M.lone;obtain ⟨J,ag,al,aG⟩:=f' h (bN p w);have bx:=W.ext al;refine YB.z rfl (ck ?_);unfold Oq;by_cases c:t=true/\p.k≠32/\p.k≠33
 . have hw:jI (t=true) (p,p.words)=kw [40]::(p.words++[kw [41]]):=by unfold jI;rw [anL c]
   rw [hw] at aM ⊢;simp only [anz,anw,anH] at aM;obtain ⟨rfl,n32,n33⟩:=c;have tC:=anA n32;have xY:=anA n33;have aN:=(Ext.refl J).new (.a_ (ed [[40]]) 0 false);have ay:=uk [[40]] (by decide) (by decide) J.next b bk (J.new (.a_ (ed [[40]]) 0 false)) aP ws (bx.ext aN) (by simp only [anz,anH];omega) hm (lT.mk' bx _)
   simp only [bN] at ag aG ⊢;simp only [ag,aG.g,ol,tC,xY,↓aa,ae,simprocAttr];refine bq ay ?_;rintro x ad ⟨rfl,b7,aI⟩;have LF:eT [bk] b J aP ad b7 (ws++[kw [40]]):=aI.b' aN;have cj:=(Ext.refl ad).new (.a_ (ed [[41]]) 0 false);have k2:=lT.mk' LF.w [[41]];have bL:=LF.ext cj;have cl:=W_ W ag bL;have ak:=bR p aL an b bk (ad.new (.a_ (ed [[41]]) 0 false)) b7 w (ws++[kw [40]]) bL.w (((M.ext al).hB bL bx)) (bL.cs bx (X.ext al)) (by rw [anw,anz,anH];omega);have Ir:(ad.new (.a_ [.str [41]] 0 false)).get (aD h.next)=.a_ [.int .i64 p.k,.int .i64 p.n,.int .i64 p.a,.str p.s,w] 0 false:=cl.g;simp only [bN] at ak;simp only [Ir,ol,aeG,Z5 (show Nat.beq 24 dy=false by decide),ej,Cj,V.B',an_,↓aa,ae,simprocAttr];refine bq ak ?_;rintro x bn ⟨rfl,gd,kK⟩;have cG:=bL.trans kK;have u5:=k2.hB kK;simp only [ej,Cj,V.B',V.aha,alx,Gi,↓aa,ae,simprocAttr];have aZ:=aft [[41]] (by decide) (by decide) ad.next b bk bn gd (ws++[kw [40]]++p.words) kK.w (by rw [anw,anw,anz,anH,anz,anH];omega) hm u5
   refine ZT aZ ?_;rintro u b0 ⟨rfl,_,gT,kL⟩;refine ⟨rfl,rfl,gT,?_⟩;have cL:=(cG.trans kL).b' al;simp only [anG,aow,apH,anO,anP] at cL;exact cL
 . have hw:jI (t=true) (p,p.words)=p.words:=by unfold jI;rw [anE c]
   rw [hw] at aM ⊢;have ak:=bR p aL an b bk J aP w ws bx (M.ext al) (X.ext al) aM;have yw:∀(ad:ah),ix [bk] b J aP ws p.words (.tuple []) ad->ix [bk] b h aP ws p.words (.tuple []) ad:=fun ad ⟨_,b7,E⟩=>⟨rfl,b7,E.b' al⟩;simp only [bN] at ag aG ak ⊢;cases t with
   | false=>
     simp only [ag,aG.g,ol,↓aa,ae,simprocAttr];refine bq ak ?_;rintro x ad ⟨rfl,kb⟩;simp only [ej,Cj,V.B',Gi,↓aa,ae,simprocAttr];exact yw _ ⟨rfl,kb⟩
   | true=>
     by_cases JM:p.k=32
     . have tC:=anJ JM;simp only [ag,aG.g,ol,tC,↓aa,ae,simprocAttr];refine bq ak ?_;rintro x ad ⟨rfl,kb⟩;simp only [ej,Cj,V.B',Gi,↓aa,ae,simprocAttr];exact yw _ ⟨rfl,kb⟩
     . have tC:=anA JM;have xY:=anJ (show p.k=33 from Classical.byContradiction fun z=>c ⟨rfl,JM,z⟩);simp only [ag,aG.g,ol,tC,xY,↓aa,ae,simprocAttr];refine bq ak ?_;rintro x ad ⟨rfl,kb⟩;simp only [ej,Cj,V.B',Gi,↓aa,ae,simprocAttr];exact yw _ ⟨rfl,kb⟩
theorem Mm {n:Nat} (bR:mD n) (p:aQ) (aL:p.size<=n) (an:c6 p) (least:Int) (b:Nat) (bk:V) (h:ah) (aP w:V) (ws:List bt) (W:eO [bk] b h aP ws) (M:hK (dU b) h bk) (X:cg (dU b) h p.enc (bN p w))
 (aM:ws.length + (cO least (p,p.words)).length<=1000000000):b8 Tryz.prog 70 [.ptr (aD b) 0,.int .i64 least,.agg (bN p w)] h (ix [bk] b h aP ws (cO least (p,p.words))):=by
 have ol:=(jA X).one;have hm:=M.lone;obtain ⟨J,ag,al,aG⟩:=f' h (bN p w);have bx:=W.ext al;have g1:J.get (aD b)=.a_ [bk,aP] 0 false:=bx.g;have fo:cO least (p,p.words)=jI (decide (p.kC<least)=true) (p,p.words):=by unfold cO jI;simp only [anM]
 rw [fo] at aM ⊢;refine Yv.z rfl (ck ?_);unfold Oi;have aw:=B6 p bk w J (M.ext al) (X.ext al);simp only [bN] at ag aG aw ⊢;simp only [ag,aG.g,g1,ol,hm,↓aa,ae,simprocAttr];refine bq aw ?_;rintro x ad ⟨rfl,aN⟩;have e':=aG.ext aN;have g2:ad.get (aD b)=.a_ [bk,aP] 0 false:=(bx.ext aN).g;have rF:=Vi bR p aL an (decide (p.kC<least)) b bk ad aP w ws (bx.ext aN) ((M.ext al).ext aN) ((X.ext al).ext aN) aM;simp only [bN] at rF;simp only [e'.g,g2,ol,hm,↓aa,ae,simprocAttr];refine bq rF ?_;rintro x aC ⟨rfl,dk,E⟩;simp only [aG.g,e'.g,g1,g2,ol,hm,↓aa,ae,simprocAttr];exact ⟨rfl,dk,(E.b' aN).b' al⟩
theorem Wt {n:Nat} (bR:mD n) (p:aQ) (aL:p.size<=n) (an:c6 p) (b:Nat) (bk:V) (h:ah) (aP w:V) (ws:List bt) (W:eO [bk] b h aP ws) (M:hK (dU b) h bk) (X:cg (dU b) h p.enc (bN p w))
 (aM:ws.length + (cO 1 (p,p.words)).length<=1000000000):b8 Tryz.prog 72 [.ptr (aD b) 0,.agg (bN p w)] h (ix [bk] b h aP ws (cO 1 (p,p.words))):=by
 have ol:=(jA X).one;obtain ⟨J,ag,al,aG⟩:=f' h (bN p w);have bF:=Mm bR p aL an 1 b bk J aP w ws (W.ext al) (M.ext al) (X.ext al) aM;refine Yx.z rfl (ck ?_);unfold Ol;simp only [bN] at ag aG bF ⊢;simp only [ag,aG.g,ol,↓aa,ae,simprocAttr];refine bq bF ?_;rintro x ad ⟨rfl,b7,E⟩;simp only [↓aa,ae,simprocAttr];exact ⟨rfl,b7,E.b' al⟩
def qU (f:dN->List bt) (sep:List UInt8) (l:List aQ) (i:Nat):List bt:=if i=0 then eD f sep (a' l) else qP f sep (a' (l.drop i))
theorem zL (f:dN->List bt) (sep:List UInt8) (l:List aQ) (i:Nat) (au:i<l.length):qU f sep l i=(if i=0 then [] else [kw sep])++(f (l[i],l[i].words)++qU f sep l (i+1)):=by
 unfold qU;rw [anE (show ¬i+1=0 by omega)];by_cases a6:i=0
 . subst a6;rw [anL rfl,anL rfl];cases l with
   | nil=>simp at au
   | cons t l=>simp [a',eD]
 . rw [anE a6,anE a6,anZ au,a',qP];rfl
theorem zK (f:dN->List bt) (sep:List UInt8) (l:List aQ) (i:Nat) (au:l.length<=i):qU f sep l i=[]:=by
 unfold qU;rw [an5 au]
 split
 . rename_i a6;have:l=[]:=aog (by omega);rw [this];rfl
 . rfl
theorem sU (g:Nat) (sy:(g=4294967296)=False) (f:dN->List bt) (l:List aQ) (v:V) (sep:List UInt8) (yO:sep≠[]) (b:Nat) (bk:V) (h:ah) (aP:V) (ws:List bt) (W:eO [bk] b h aP ws) (M:hK (dU b) h bk) (L:ch (dU b) h 5 (l.map aQ.enc) v)
 (aM:ws.length + (eD f sep (a' l)).length<=1000000000)
 (aA:∀(i:Nat) (au:i<l.length) (ab:ah) (di w:V) (i':List bt),eO [bk] b ab di i'->hK (dU b) ab bk->cg (dU b) ab l[i].enc (bN l[i] w)->i'.length + (f (l[i],l[i].words)).length<=1000000000->b8 Tryz.prog g [.ptr (aD b) 0,.agg (bN l[i] w)] ab (ix [bk] b ab di i' (f (l[i],l[i].words)))):
 b8 Tryz.prog 71 [.ptr (aD b) 0,v,.str sep,.kW g [.ptr (aD b) 0]] h (ix [bk] b h aP ws (eD f sep (a' l))):=by
 have aw:=L.len;have hle:=L.le;rw [anK] at aw hle;have hm:=M.lone;refine Yw.z rfl (ck ?_);unfold Oj;simp only [aw,↓aa,ae,simprocAttr];refine fE (fun r ab=>r 0=.ptr (aD b) 0/\r 2=.str sep/\r 3=.kW g [.ptr (aD b) 0]/\r 10=v/\r 11=.int .i64 l.length/\∃(i:Nat) (di:V) (A:List bt),r 12=.int .i64 i/\i<=l.length/\eT [bk] b h aP ab di (ws++A)/\A++qU f sep l i=eD f sep (a' l)) (fun r ab=>l.length - (r 12).toN) ?_ ?_
 . exact ⟨by simp only [↓aa,cm,simprocAttr],by simp only [↓aa,cm,simprocAttr],by simp only [↓aa,cm,simprocAttr],by simp only [↓aa,cm,simprocAttr],by simp only [↓aa,cm,simprocAttr],0,aP,[],by simp only [↓aa,cm,simprocAttr]<;>rfl,by omega,by rw [an_];exact fM.refl W,rfl⟩
 rintro r J ⟨ba,dw,bY,hv,o5,i,jk,A,s4,au,E,dJ⟩;unfold Ok;by_cases aH:i<l.length
 . have g0:((i:Int) < (l.length:Int))=True:=anJ (by omega);have dm:=iI aH (by unfold top at hle;omega);rw [zL f sep l i aH] at dJ;obtain ⟨bi,zl,hH,dj,X,cz,ld,_,_,_⟩:=aQ.lx (E.dZ W L) (k:=.i64) aH;have rM:=ld J (Ext.refl J);have w2:=cz.one;have v8:=aA i aH;generalize l[i]=q at *;obtain ⟨ad,av,aN,e'⟩:=je J [.int .i64 0,.int .i64 0,.int .i64 0,.str [],.cr] (bN q hH);have aI:eT [bk] b h aP ad jk (ws++A):=E.ext aN;simp only [bN] at av e' v8;by_cases a6:i=0
   . have iy:((0:Int) < (i:Int))=False:=anA (by omega);rw [anL a6,anP,<-anG] at dJ;have hlen:=congrArg List.length dJ;simp only [anw] at hlen;have ao:=v8 ad jk hH (ws++A) aI.w (M.hB aI W) (X.ext aN) (by rw [anw];omega);simp only [ba,dw,bY,hv,o5,s4,g0,dm,dj,rM,av,e'.g,w2,iy,sy,an4,Hz,anO,anP,↓aa,ae,simprocAttr];refine bq ao ?_;rintro x aC ⟨rfl,dk,F⟩;have bL:=aI.trans F;rw [anG] at bL;simp only [ba,dw,bY,hv,o5,s4,dm,↓aa,ae,simprocAttr];exact ⟨⟨i+1,dk,_,rfl,aH,bL,dJ⟩,by omega⟩
   . have iy:((0:Int) < (i:Int))=True:=anJ (by omega);rw [anE a6,<-anG,<-anG] at dJ;have hlen:=congrArg List.length dJ;simp only [anw,anz,anH] at hlen;have cj:=(Ext.refl ad).new (.a_ (ed [sep]) 0 false);have ay:=uk [sep] (by intro s aL;rw [apc] at aL;rw [aL];exact yO) (by simp) ad.next b bk (ad.new (.a_ (ed [sep]) 0 false)) jk (ws++A) (aI.w.ext cj) (by rw [anw,anz,anH];omega) hm (lT.mk' aI.w _)
     simp only [ba,dw,bY,hv,o5,s4,g0,dm,dj,rM,av,e'.g,w2,iy,sy,an4,Hz,anO,anP,↓aa,ae,simprocAttr];refine bq ay ?_;rintro x aC ⟨rfl,dk,F⟩;have dn:eT [bk] b ad jk aC dk (ws++A++[sep].map kw):=F.b' cj;have bL:=aI.trans dn;have k2:=jd E.w e' dn;have ao:=v8 aC dk hH _ bL.w (M.hB bL W) (dn.cs aI.w (X.ext aN)) (by rw [anw,anw,anK,anz,anH];omega);simp only [ba,dw,bY,hv,o5,s4,k2.g,w2,sy,an4,Hz,anO,anP,↓aa,ae,simprocAttr];refine bq ao ?_;rintro x bn ⟨rfl,gd,kK⟩;have cG:=bL.trans kK;rw [anG,anG] at cG;simp only [ba,dw,bY,hv,o5,s4,dm,↓aa,ae,simprocAttr];exact ⟨⟨i+1,gd,_,rfl,aH,cG,by rw [<-dJ];simp only [aow,apH,anG]⟩,by omega⟩
 . have g0:((i:Int) < (l.length:Int))=False:=anA (by omega);rw [zK f sep l i (by omega),an_] at dJ;rw [dJ] at E;simp only [ba,dw,bY,hv,o5,s4,g0,↓aa,ae,simprocAttr];exact ⟨rfl,jk,E⟩
theorem aT:(∀a b:List bt,(a++b).length=a.length+b.length)/\(∀(a:bt) (l:List bt),(a::l).length=l.length+1)/\([]:List bt).length=0/\(∀L:List (List UInt8),(L.map kw).length=L.length)/\(∀(a:List UInt8) (L:List (List UInt8)),(a::L).length=L.length+1)/\([]:List (List UInt8)).length=0:=
 ⟨fun _ _=>anw,fun _ _=>rfl,rfl,fun _=>anK _,fun _ _=>rfl,rfl⟩
section
variable {pre:List V} {b:Nat} {h a6 J bI:ah} {aP jN:V} {ws h8 A:List bt} {cells:List V} {f:FuncId} {args:List V} {d:Option Nat} {os:List bs} {D:Option jv} {aR:List iL} {r:bA} {Q:en->bA->ah->Prop}
theorem cw {B:List bt} (E:eT pre b h aP bI jN A) (e:A=B):eT pre b h aP bI jN B:=e ▸ E
theorem OO {ay:ah} (c:b8 Tryz.prog f args ay (ix pre b ay jN h8 A)) (e:Ext bI ay) (E:eT pre b J aP bI jN h8) (W:eO pre b a6 aP ws) (B:Has J a6.next cells)
 (H:∀ab di,eT pre b J aP ab di (h8++A)->Has ab a6.next cells->bG Tryz.prog (.os (jq D r ay (.tuple [])) os::aR) .normal (r.set d (.tuple [])) ab Q):nW Tryz.prog f args d D os aR r ay Q:=by
 refine bq c ?_;rintro x ab ⟨rfl,di,F⟩;have ax:=E.trans (F.b' e);exact H ab di ax (jd W B ax)
theorem bS (c:b8 Tryz.prog f args bI (ix pre b bI jN h8 A)) (E:eT pre b J aP bI jN h8) (W:eO pre b a6 aP ws) (B:Has J a6.next cells)
 (H:∀ab di,eT pre b J aP ab di (h8++A)->Has ab a6.next cells->bG Tryz.prog (.os (jq D r bI (.tuple [])) os::aR) .normal (r.set d (.tuple [])) ab Q):nW Tryz.prog f args d D os aR r bI Q:=
 OO c (Ext.refl _) E W B H
theorem gG {bk:V} (L:List (List UInt8)) (cB:∀s ∈ L,s≠[]) (aX:L.length<=100000) (hlen:h8.length+L.length<=1000000000) (hm:bk.one=true/\bk.cells=[bk]/\bk.fR=true) (E:eT [bk] b J aP bI jN h8) (W:eO [bk] b a6 aP ws) (B:Has J a6.next cells)
 (H:∀ab di,eT [bk] b J aP ab di (h8++List.map kw L)->Has ab a6.next cells->bG Tryz.prog (.os (jq D r (bI.new (.a_ (ed L) 0 false)) (.tuple [])) os::aR) .normal (r.set d (.tuple [])) ab Q):nW Tryz.prog 24 [.ptr (aD b) 0,.slice (aD bI.next) 0 L.length L.length] d D os aR r (bI.new (.a_ (ed L) 0 false)) Q:=
 have f:=(Ext.refl bI).new (.a_ (ed L) 0 false)
 OO (uk L cB aX bI.next b bk _ _ _ (E.w.ext f) hlen hm (lT.mk' E.w _)) f E W B H
theorem eM {l:List aQ} {w:V} (E:eT pre b J aP bI jN h8) (W:eO pre b J aP ws) (L:ch (dU b) J 5 (l.map aQ.enc) w) (i:Nat) (I:Int) (qj:(i:Int)=I) (au:i<l.length):
 ∃q y v,cg (dU b) bI l[i].enc (bN l[i] v)/\iD 5 w (.int .i64 I)=some (.ptr q y)/\o0 5 (bI.get q) y=some (.agg [.int .i64 l[i].k,.int .i64 l[i].n,.int .i64 l[i].a,.str l[i].s,v])/\v.one=true/\v.cells=[v]/\v.fR=true:=by
 subst qj;obtain ⟨b9,dc,v1,i1,eG,V8,d1,_⟩:=aQ.lx (E.dZ W L) (k:=.i64) au;exact ⟨b9,_,v1,eG,i1,d1 bI (Ext.refl _),V8.one⟩
theorem jT {n:Nat} (bR:mD n) {p:aQ} (aL:p.size<=n+1) (an:c6 p) {i:Nat} (au:i<p.l.length) (least:Int) {bk v:V} (E:eT [bk] b J aP bI jN h8) (W:eO [bk] b J aP ws) (M:hK (dU b) J bk) (X:cg (dU b) bI p.l[i].enc (bN p.l[i] v))
 (aM:h8.length + (cO least (p.l[i],p.l[i].words)).length<=1000000000):b8 Tryz.prog 70 [.ptr (aD b) 0,.int .i64 least,.agg (bN p.l[i] v)] bI (ix [bk] b bI jN h8 (cO least (p.l[i],p.l[i].words))):=
 Mm bR _ (by have:=h4 (anB au);omega) (jj an (anB au)) least b bk bI jN v h8 E.w (M.hB E W) X aM
end
theorem cF (l:List aQ) (n:Nat):a' (l.take n)=(a' l).take n:=by rw [rU,rU,aps]
theorem cD (l:List aQ) (n:Nat):a' (l.drop n)=(a' l).drop n:=by rw [rU,rU,apL]
theorem pU {n:Nat} (bR:mD n) (p:aQ) (aL:p.size<=n+1) (an:c6 p) (e6:2<=p.l.length) (left:Int) (s:List UInt8) (rB:s≠[]) (right:Int) (b:Nat) (bk:V) (h:ah) (aP w:V) (ws:List bt) (W:eO [bk] b h aP ws) (M:hK (dU b) h bk) (X:cg (dU b) h p.enc (bN p w))
 (aM:ws.length + (ek (a' p.l) left s right).length<=1000000000):b8 Tryz.prog 69 [.ptr (aD b) 0,.agg (bN p w),.int .i64 left,.str s,.int .i64 right] h (ix [bk] b h aP ws (ek (a' p.l) left s right)):=by
 have cz:=jA X;have ol:=cz.one;have hm:=M.lone;have dF:∀q ∈ p.l,q.size<=n/\c6 q:=fun q aq=>⟨by have:=h4 aq;omega,jj an aq⟩;obtain ⟨J,ag,al,aG⟩:=f' h (bN p w);have bx:=W.ext al;have d_:=M.ext al;have eG:=X.ext al;have b6:=cz.ext al;have bK:=b6.len;have hle:=b6.le;rw [anK] at bK hle;have aY:eT [bk] b J aP J aP ws:=fM.refl bx;refine Yu.z rfl (ck ?_);unfold Oh;simp only [bN] at ag aG ⊢;have z:=And.intro ol bK;have bT:0<p.l.length:=by omega
 have dd:1<p.l.length:=by omega
 have hw:ek (a' p.l) left s right=cO left (p.l[0],p.l[0].words)++(List.map kw [s]++(cO right (p.l[1],p.l[1].words))):=by unfold ek;rw [eU _ _ _ bT,eU _ _ _ dd];rfl
 rw [hw] at aM ⊢;simp only [aT] at aM;obtain ⟨ko,fc,v1,jy,hn⟩:=eM aY bx b6 0 0 rfl bT;simp only [ag,aG.g,z,hn,↓aa,ae,simprocAttr];refine bS (jT bR aL an bT left aY bx d_ jy (by first | omega | (simp only [aT];omega))) aY W aG fun ad b7 aI br=>?_;simp only [br.g,z,↓aa,ae,simprocAttr];refine gG [s] (by intro x ar;rw [apc] at ar;rw [ar];exact rB) (by simp) (by simp only [aT];omega) hm aI W aG fun aC dk bL cl=>?_;obtain ⟨pV,y3,v3,oM,nf⟩:=eM bL bx b6 1 1 rfl dd;simp only [cl.g,z,nf,↓aa,ae,simprocAttr];refine bS (jT bR aL an dd right bL bx d_ oM (by simp only [aT];omega)) bL W aG fun bn gd cG fI=>?_;simp only [fI.g,z,↓aa,ae,simprocAttr];exact ⟨rfl,_,cw (cG.b' al) (by simp)⟩
theorem y1 {k c:Int} (e:k=c):(k=1)=(c=1)/\(k=4)=(c=4)/\(k=3)=(c=3):=by simp only [e,apl]
theorem wN {k c:Int} (e:k=c):(k=10)=(c=10)/\(k=11)=(c=11)/\(k=12)=(c=12)/\(k=13)=(c=13)/\(k=14)=(c=14)/\(k=15)=(c=15):=by simp only [e,apl]
theorem ak' {n:Nat} (bR:mD n) (p:aQ) (aL:p.size<=n+1) (an:c6 p) (ay:p.k<10) (b:Nat) (bk:V) (h:ah) (aP w:V) (ws:List bt) (W:eO [bk] b h aP ws) (M:hK (dU b) h bk) (X:cg (dU b) h p.enc (bN p w))
 (aM:ws.length + (hh p.k p.s (a' p.l)).length<=1000000000):b8 Tryz.prog 38 [.ptr (aD b) 0,.agg (bN p w)] h (ix [bk] b h aP ws (hh p.k p.s (a' p.l))):=by
 have cz:=jA X;have ol:=cz.one;have hm:=M.lone;have dF:∀q ∈ p.l,q.size<=n/\c6 q:=fun q aq=>⟨by have:=h4 aq;omega,jj an aq⟩;obtain ⟨J,ag,al,aG⟩:=f' h (bN p w);have bx:=W.ext al;have d_:=M.ext al;have eG:=X.ext al;have b6:=cz.ext al;have bK:=b6.len;have hle:=b6.le;rw [anK] at bK hle;have aY:eT [bk] b J aP J aP ws:=fM.refl bx;refine X4.z rfl (ck ?_);unfold NK;simp only [bN] at ag aG ⊢;rcases (show p.k=1\/p.k=4\/p.k=3\/p.k=2 by have:=rN an;omega) with e | e | e | e
 . have z:=And.intro ol (And.intro bK (y1 e));have hw:hh p.k p.s (a' p.l)=[dK 5 p.s]:=by simp [hh,z,cE,cF,cD]
   rw [hw] at aM ⊢
   try simp only [aT] at aM
   simp only [ag,aG.g,z,↓aa,ae,simprocAttr];refine bS (oC 5 p.s _ _ _ _ _ aY.w (by first | omega | (simp only [aT];omega)) hm) aY W aG fun ad b7 aI br=>?_;simp only [br.g,z,↓aa,ae,simprocAttr];exact ⟨rfl,_,cw (aI.b' al) (by simp)⟩
 . have z:=And.intro ol (And.intro bK (y1 e));have e6:2<=p.l.length:=by have:=iS an (by omega);omega
   have hw:hh p.k p.s (a' p.l)=ek (a' p.l) 2 [45,62] 1:=by simp [hh,z,cE,cF,cD]
   rw [hw] at aM ⊢
   try simp only [aT] at aM
   simp only [ag,aG.g,z,↓aa,ae,simprocAttr];refine bS (pU bR p aL an e6 2 [45,62] (by decide) 1 _ _ _ _ w _ aY.w (d_.hB aY bx) (aY.cs bx eG) (by first | omega | (simp only [aT];omega))) aY W aG fun ad b7 aI br=>?_;simp only [br.g,z,↓aa,ae,simprocAttr];exact ⟨rfl,_,cw (aI.b' al) (by simp)⟩
 . have z:=And.intro ol (And.intro bK (y1 e));have e6:2<=p.l.length:=by have:=iS an (by omega);omega
   have hw:hh p.k p.s (a' p.l)=ek (a' p.l) 3 [42] 2:=by simp [hh,z,cE,cF,cD]
   rw [hw] at aM ⊢
   try simp only [aT] at aM
   simp only [ag,aG.g,z,↓aa,ae,simprocAttr];refine bS (pU bR p aL an e6 3 [42] (by decide) 2 _ _ _ _ w _ aY.w (d_.hB aY bx) (aY.cs bx eG) (by first | omega | (simp only [aT];omega))) aY W aG fun ad b7 aI br=>?_;simp only [br.g,z,↓aa,ae,simprocAttr];exact ⟨rfl,_,cw (aI.b' al) (by simp)⟩
 . by_cases cR:p.l.length=0
   . have z:=And.intro ol (And.intro bK (y1 e));have hi:(p.l.length=1)=False:=anA (by omega);have hj:(1<p.l.length)=False:=anA (by omega);have bf:((p.l.length:Int)=1)=False:=anA (by omega);have du:((1:Int) < (p.l.length:Int))=False:=anA (by omega);have hw:hh p.k p.s (a' p.l)=[dK 3 p.s]:=by simp [hh,z,hi,hj,bf,du,cE,cF,cD]
     rw [hw] at aM ⊢
     try simp only [aT] at aM
     simp only [ag,aG.g,z,hi,hj,bf,du,↓aa,ae,simprocAttr];refine bS (oC 3 p.s _ _ _ _ _ aY.w (by first | omega | (simp only [aT];omega)) hm) aY W aG fun ad b7 aI br=>?_;simp only [br.g,z,hi,hj,bf,du,↓aa,ae,simprocAttr];exact ⟨rfl,_,cw (aI.b' al) (by simp)⟩
   by_cases de:p.l.length=1
   . have z:=And.intro ol (And.intro bK (y1 e));have hi:(p.l.length=1)=True:=anJ (by omega);have hj:(1<p.l.length)=False:=anA (by omega);have bf:((p.l.length:Int)=1)=True:=anJ (by omega);have du:((1:Int) < (p.l.length:Int))=False:=anA (by omega);have bT:0<p.l.length:=by omega
     have hw:hh p.k p.s (a' p.l)=cO 3 (p.l[0],p.l[0].words)++([dK 3 p.s]):=by simp [hh,z,hi,hj,bf,du,cE,cF,cD,eU _ _ _ bT]
     rw [hw] at aM ⊢
     try simp only [aT] at aM
     obtain ⟨ko,fc,v1,jy,hn⟩:=eM aY bx b6 0 0 rfl bT;simp only [ag,aG.g,z,hi,hj,bf,du,hn,↓aa,ae,simprocAttr];refine bS (jT bR aL an bT 3 aY bx d_ jy (by first | omega | (simp only [aT];omega))) aY W aG fun ad b7 aI br=>?_;simp only [br.g,z,hi,hj,bf,du,↓aa,ae,simprocAttr];refine bS (oC 3 p.s _ _ _ _ _ aI.w (by simp only [aT];omega) hm) aI W aG fun aC dk bL cl=>?_;simp only [cl.g,z,hi,hj,bf,du,↓aa,ae,simprocAttr];exact ⟨rfl,_,cw (bL.b' al) (by simp)⟩
   . have z:=And.intro ol (And.intro bK (y1 e));have hi:(p.l.length=1)=False:=anA (by omega);have hj:(1<p.l.length)=True:=anJ (by omega);have bf:((p.l.length:Int)=1)=False:=anA (by omega);have du:((1:Int) < (p.l.length:Int))=True:=anJ (by omega);have hw:hh p.k p.s (a' p.l)=List.map kw [[40]]++(eD (cO 1) [44] (a' p.l)++(List.map kw [[41]]++([dK 3 p.s]))):=by simp [hh,z,hi,hj,bf,du,cE,cF,cD]
     rw [hw] at aM ⊢
     try simp only [aT] at aM
     simp only [ag,aG.g,z,hi,hj,bf,du,↓aa,ae,simprocAttr];refine gG [[40]] (by decide) (by simp) (by first | omega | (simp only [aT];omega)) hm aY W aG fun ad b7 aI br=>?_;have h':=aI.dZ bx b6;simp only [br.g,z,hi,hj,bf,du,sS,↓aa,ae,simprocAttr];refine bS (sU 72 (anA (by decide)) (cO 1) p.l w [44] (by decide) _ _ _ _ _ aI.w (d_.hB aI bx) h' (by simp only [aT];omega) (fun i au ab di w' i'=>Wt bR _ (dF _ (id (anB au))).1 (dF _ (id (anB au))).2 b bk ab di w' i')) aI W aG fun aC dk bL cl=>?_;simp only [cl.g,z,hi,hj,bf,du,↓aa,ae,simprocAttr];refine gG [[41]] (by decide) (by simp) (by simp only [aT];omega) hm bL W aG fun bn gd cG fI=>?_;simp only [fI.g,z,hi,hj,bf,du,↓aa,ae,simprocAttr];refine bS (oC 3 p.s _ _ _ _ _ cG.w (by simp only [aT];omega) hm) cG W aG fun b0 gT cL fJ=>?_;simp only [fJ.g,z,hi,hj,bf,du,↓aa,ae,simprocAttr];exact ⟨rfl,_,cw (cL.b' al) (by simp)⟩
theorem aiZ {n:Nat} (bR:mD n) (p:aQ) (aL:p.size<=n+1) (an:c6 p) (ay:10<=p.k/\p.k<20) (b:Nat) (bk:V) (h:ah) (aP w:V) (ws:List bt) (W:eO [bk] b h aP ws) (M:hK (dU b) h bk) (X:cg (dU b) h p.enc (bN p w))
 (aM:ws.length + (gy p.k p.n p.s (a' p.l)).length<=1000000000):b8 Tryz.prog 39 [.ptr (aD b) 0,.agg (bN p w)] h (ix [bk] b h aP ws (gy p.k p.n p.s (a' p.l))):=by
 have cz:=jA X;have ol:=cz.one;have hm:=M.lone;have dF:∀q ∈ p.l,q.size<=n/\c6 q:=fun q aq=>⟨by have:=h4 aq;omega,jj an aq⟩;obtain ⟨J,ag,al,aG⟩:=f' h (bN p w);have bx:=W.ext al;have d_:=M.ext al;have eG:=X.ext al;have b6:=cz.ext al;have bK:=b6.len;have hle:=b6.le;rw [anK] at bK hle;have aY:eT [bk] b J aP J aP ws:=fM.refl bx;refine X5.z rfl (ck ?_);unfold NL;simp only [bN] at ag aG ⊢;rcases (show p.k=10\/p.k=11\/p.k=12\/p.k=13\/p.k=14\/p.k=15\/p.k=16 by have:=rN an;omega) with e | e | e | e | e | e | e
 . have z:=And.intro ol (And.intro bK (wN e));have hw:gy p.k p.n p.s (a' p.l)=List.map kw [[95]]:=by simp [gy,z,cE,cF,cD]
   rw [hw] at aM ⊢
   try simp only [aT] at aM
   simp only [ag,aG.g,z,↓aa,ae,simprocAttr];refine gG [[95]] (by decide) (by simp) (by first | omega | (simp only [aT];omega)) hm aY W aG fun ad b7 aI br=>?_;simp only [br.g,z,↓aa,ae,simprocAttr];exact ⟨rfl,_,cw (aI.b' al) (by simp)⟩
 . have z:=And.intro ol (And.intro bK (wN e));have hw:gy p.k p.n p.s (a' p.l)=[dK 3 p.s]:=by simp [gy,z,cE,cF,cD]
   rw [hw] at aM ⊢
   try simp only [aT] at aM
   simp only [ag,aG.g,z,↓aa,ae,simprocAttr];refine bS (oC 3 p.s _ _ _ _ _ aY.w (by first | omega | (simp only [aT];omega)) hm) aY W aG fun ad b7 aI br=>?_;simp only [br.g,z,↓aa,ae,simprocAttr];exact ⟨rfl,_,cw (aI.b' al) (by simp)⟩
 . have z:=And.intro ol (And.intro bK (wN e));have hw:gy p.k p.n p.s (a' p.l)=[ox p.n]:=by simp [gy,z,cE,cF,cD]
   rw [hw] at aM ⊢
   try simp only [aT] at aM
   simp only [ag,aG.g,z,↓aa,ae,simprocAttr];refine bS (Tz p.n _ _ _ _ _ aY.w (by first | omega | (simp only [aT];omega)) hm) aY W aG fun ad b7 aI br=>?_;simp only [br.g,z,↓aa,ae,simprocAttr];exact ⟨rfl,_,cw (aI.b' al) (by simp)⟩
 . have z:=And.intro ol (And.intro bK (wN e));have hw:gy p.k p.n p.s (a' p.l)=List.map kw [[40],[41]]:=by simp [gy,z,cE,cF,cD]
   rw [hw] at aM ⊢
   try simp only [aT] at aM
   simp only [ag,aG.g,z,↓aa,ae,simprocAttr];refine gG [[40],[41]] (by decide) (by simp) (by first | omega | (simp only [aT];omega)) hm aY W aG fun ad b7 aI br=>?_;simp only [br.g,z,↓aa,ae,simprocAttr];exact ⟨rfl,_,cw (aI.b' al) (by simp)⟩
 . have z:=And.intro ol (And.intro bK (wN e));have hw:gy p.k p.n p.s (a' p.l)=[oD p.n]:=by simp [gy,z,cE,cF,cD]
   rw [hw] at aM ⊢
   try simp only [aT] at aM
   simp only [ag,aG.g,z,↓aa,ae,simprocAttr];refine bS (U1 p.n _ _ _ _ _ aY.w (by first | omega | (simp only [aT];omega)) hm) aY W aG fun ad b7 aI br=>?_;simp only [br.g,z,↓aa,ae,simprocAttr];exact ⟨rfl,_,cw (aI.b' al) (by simp)⟩
 . have z:=And.intro ol (And.intro bK (wN e));have e6:2<=p.l.length:=by have:=iS an (by omega);omega
   have hw:gy p.k p.n p.s (a' p.l)=ek (a' p.l) 2 [44] 1:=by simp [gy,z,cE,cF,cD]
   rw [hw] at aM ⊢
   try simp only [aT] at aM
   simp only [ag,aG.g,z,↓aa,ae,simprocAttr];refine bS (pU bR p aL an e6 2 [44] (by decide) 1 _ _ _ _ w _ aY.w (d_.hB aY bx) (aY.cs bx eG) (by first | omega | (simp only [aT];omega))) aY W aG fun ad b7 aI br=>?_;simp only [br.g,z,↓aa,ae,simprocAttr];exact ⟨rfl,_,cw (aI.b' al) (by simp)⟩
 . have z:=And.intro ol (And.intro bK (wN e));have hw:gy p.k p.n p.s (a' p.l)=[dK 4 p.s]++(eY (cO 3) (a' p.l)):=by simp [gy,z,cE,cF,cD]
   rw [hw] at aM ⊢
   try simp only [aT] at aM
   simp only [ag,aG.g,z,↓aa,ae,simprocAttr];refine bS (oC 4 p.s _ _ _ _ _ aY.w (by first | omega | (simp only [aT];omega)) hm) aY W aG fun ad b7 aI br=>?_;simp only [br.g,z,↓aa,ae,simprocAttr];refine fE (fun r g=>r 0=.ptr (aD b) 0/\r 13=w/\r 14=.int .i64 p.l.length/\∃(i:Nat) (di:V) (Z:List bt),r 15=.int .i64 i/\i<=p.l.length/\eT [bk] b J aP g di ((ws++[dK 4 p.s])++Z)/\Z++eY (cO 3) (a' (p.l.drop i))=eY (cO 3) (a' p.l)) (fun r g=>p.l.length - (r 15).toN) ?_ ?_
   . exact ⟨by simp only [↓aa,cm,simprocAttr],by simp only [↓aa,cm,simprocAttr],by simp only [↓aa,cm,simprocAttr],0,b7,[],by simp only [↓aa,cm,simprocAttr]<;>rfl,by omega,by rw [an_];exact aI,by rw [aok,anP]⟩
   rintro r g ⟨ba,rs,iu,i,hU,Z,mo,au,fK,cS⟩;unfold NM;by_cases aH:i<p.l.length
   . have g0:((i:Int) < (p.l.length:Int))=True:=anJ (by omega);have dm:=iI aH (by unfold top at hle;omega);rw [anZ aH,a',eY,<-anG] at cS;have ll:=congrArg List.length cS;simp only [anw] at ll;obtain ⟨mq,xr,hH,nd,lV⟩:=eM fK bx b6 i _ rfl aH;obtain ⟨g2,av,aN,e'⟩:=je g [.int .i64 0,.int .i64 0,.int .i64 0,.str [],.cr] (bN p.l[i] hH);have nb:=fK.ext aN;simp only [bN] at av e';have c:=jT bR aL an aH 3 nb bx d_ (nd.ext aN) (by simp only [aT] at ll ⊢;omega);simp only [ba,rs,iu,mo,g0,dm,lV,av,e'.g,↓aa,ae,simprocAttr];refine bq c ?_;rintro x g3 ⟨rfl,dk,F⟩;have p4:=nb.trans F;rw [anG] at p4;simp only [ba,rs,iu,mo,dm,↓aa,ae,simprocAttr];exact ⟨⟨i+1,dk,_,rfl,aH,p4,cS⟩,by omega⟩
   . have g0:((i:Int) < (p.l.length:Int))=False:=anA (by omega);rw [an5 (by omega)] at cS;simp only [a',eY,an_] at cS;rw [cS] at fK;simp only [ba,rs,iu,mo,g0,↓aa,ae,simprocAttr];exact ⟨rfl,_,cw (fK.b' al) (by simp)⟩
theorem y2 {k c:Int} (e:k=c):(k=27)=(c=27)/\(k=29)=(c=29)/\(k=30)=(c=30)/\(k=31)=(c=31)/\(k=32)=(c=32):=by simp only [e,apl]
theorem ahj {n:Nat} (bR:mD n) (p:aQ) (aL:p.size<=n+1) (an:c6 p) (ay:p.k=27\/p.k=29\/p.k=30\/p.k=31\/p.k=32\/p.k=33) (b:Nat) (bk:V) (h:ah) (aP w:V) (ws:List bt) (W:eO [bk] b h aP ws) (M:hK (dU b) h bk) (X:cg (dU b) h p.enc (bN p w))
 (aM:ws.length + (ht p.k (a' p.l)).length<=1000000000):b8 Tryz.prog 78 [.ptr (aD b) 0,.agg (bN p w)] h (ix [bk] b h aP ws (ht p.k (a' p.l))):=by
 have cz:=jA X;have ol:=cz.one;have hm:=M.lone;have dF:∀q ∈ p.l,q.size<=n/\c6 q:=fun q aq=>⟨by have:=h4 aq;omega,jj an aq⟩;obtain ⟨J,ag,al,aG⟩:=f' h (bN p w);have bx:=W.ext al;have d_:=M.ext al;have eG:=X.ext al;have b6:=cz.ext al;have bK:=b6.len;have hle:=b6.le;rw [anK] at bK hle;have aY:eT [bk] b J aP J aP ws:=fM.refl bx;refine YD.z rfl (ck ?_);unfold Ou;simp only [bN] at ag aG ⊢;rcases ay with e | e | e | e | e | e
 . have z:=And.intro ol (And.intro bK (y2 e));have e6:2<=p.l.length:=by have:=iS an (by omega);omega
   have hw:ht p.k (a' p.l)=List.map kw [[102,117,110]]++(ek (a' p.l) 1 [45,62] 1):=by simp [ht,z,cE,cF,cD]
   rw [hw] at aM ⊢
   try simp only [aT] at aM
   simp only [ag,aG.g,z,↓aa,ae,simprocAttr];refine gG [[102,117,110]] (by decide) (by simp) (by first | omega | (simp only [aT];omega)) hm aY W aG fun ad b7 aI br=>?_;simp only [br.g,z,↓aa,ae,simprocAttr];refine bS (pU bR p aL an e6 1 [45,62] (by decide) 1 _ _ _ _ w _ aI.w (d_.hB aI bx) (aI.cs bx eG) (by simp only [aT];omega)) aI W aG fun aC dk bL cl=>?_;simp only [cl.g,z,↓aa,ae,simprocAttr];exact ⟨rfl,_,cw (bL.b' al) (by simp)⟩
 . have z:=And.intro ol (And.intro bK (y2 e));have e6:2<=p.l.length:=by have:=qG an (by omega);omega
   have gR:2<p.l.length:=by have:=qG an (by omega);omega
   have hw:ht p.k (a' p.l)=List.map kw [[108,101,116]]++(ek (a' p.l) 1 [61] 1++(List.map kw [[105,110]]++(cO 1 (p.l[2],p.l[2].words)))):=by simp [ht,z,cE,cF,cD,eU _ _ _ gR]
   rw [hw] at aM ⊢
   try simp only [aT] at aM
   simp only [ag,aG.g,z,↓aa,ae,simprocAttr];refine gG [[108,101,116]] (by decide) (by simp) (by first | omega | (simp only [aT];omega)) hm aY W aG fun ad b7 aI br=>?_;simp only [br.g,z,↓aa,ae,simprocAttr];refine bS (pU bR p aL an e6 1 [61] (by decide) 1 _ _ _ _ w _ aI.w (d_.hB aI bx) (aI.cs bx eG) (by simp only [aT];omega)) aI W aG fun aC dk bL cl=>?_;simp only [cl.g,z,↓aa,ae,simprocAttr];refine gG [[105,110]] (by decide) (by simp) (by simp only [aT];omega) hm bL W aG fun bn gd cG fI=>?_;obtain ⟨zN,y4,v4,oN,oO⟩:=eM cG bx b6 2 2 rfl gR;simp only [fI.g,z,oO,↓aa,ae,simprocAttr];refine bS (jT bR aL an gR 1 cG bx d_ oN (by simp only [aT];omega)) cG W aG fun b0 gT cL fJ=>?_;simp only [fJ.g,z,↓aa,ae,simprocAttr];exact ⟨rfl,_,cw (cL.b' al) (by simp)⟩
 . have z:=And.intro ol (And.intro bK (y2 e));have wl:IntKind.i64.wrap ((p.l.length:Int)-1)=((p.l.length-1:Nat):Int):=by have:=ur an (by omega);rw [wrap_i64 (by omega) (by unfold top at hle;omega)];omega
   have tS:p.l.length-1<p.l.length:=by have:=ur an (by omega);omega
   have hw:ht p.k (a' p.l)=List.map kw [[108,101,116],[114,101,99]]++(eD Prod.snd [97,110,100] (a' (p.l.take (p.l.length-1)))++(List.map kw [[105,110]]++(cO 1 (p.l[p.l.length-1],p.l[p.l.length-1].words)))):=by simp [ht,z,wl,cE,cF,cD,eU _ _ _ tS]
   rw [hw] at aM ⊢
   try simp only [aT] at aM
   simp only [ag,aG.g,z,wl,↓aa,ae,simprocAttr];refine gG [[108,101,116],[114,101,99]] (by decide) (by simp) (by first | omega | (simp only [aT];omega)) hm aY W aG fun ad b7 aI br=>?_;have h':=aI.dZ bx b6;obtain ⟨hz,b_,tt⟩:=ch.take h' (k:=.i64) (i:=p.l.length-1) (by rw [anK];omega);rw [<-aps] at tt;have BQ:=b_;simp only [br.g,z,wl,BQ,sS,↓aa,ae,simprocAttr];refine bS (sU 23 (anA (by decide)) Prod.snd (p.l.take (p.l.length-1)) hz [97,110,100] (by decide) _ _ _ _ _ aI.w (d_.hB aI bx) tt (by simp only [aT];omega) (fun i au ab di w' i'=>bR _ (dF _ (aoq (anB au))).1 (dF _ (aoq (anB au))).2 b bk ab di w' i')) aI W aG fun aC dk bL cl=>?_;simp only [cl.g,z,wl,↓aa,ae,simprocAttr];refine gG [[105,110]] (by decide) (by simp) (by simp only [aT];omega) hm bL W aG fun bn gd cG fI=>?_;obtain ⟨zN,y4,v4,oN,oO⟩:=eM cG bx b6 (p.l.length-1) _ rfl tS;simp only [fI.g,z,wl,oO,↓aa,ae,simprocAttr];refine bS (jT bR aL an tS 1 cG bx d_ oN (by simp only [aT];omega)) cG W aG fun b0 gT cL fJ=>?_;simp only [fJ.g,z,wl,↓aa,ae,simprocAttr];exact ⟨rfl,_,cw (cL.b' al) (by simp)⟩
 . have z:=And.intro ol (And.intro bK (y2 e));have bT:0<p.l.length:=by have:=qG an (by omega);omega
   have dd:1<p.l.length:=by have:=qG an (by omega);omega
   have gR:2<p.l.length:=by have:=qG an (by omega);omega
   have hw:ht p.k (a' p.l)=List.map kw [[105,102]]++(cO 1 (p.l[0],p.l[0].words)++(List.map kw [[116,104,101,110]]++(cO 3 (p.l[1],p.l[1].words)++(List.map kw [[101,108,115,101]]++(cO 3 (p.l[2],p.l[2].words)))))):=by simp [ht,z,cE,cF,cD,eU _ _ _ bT,eU _ _ _ dd,eU _ _ _ gR]
   rw [hw] at aM ⊢
   try simp only [aT] at aM
   simp only [ag,aG.g,z,↓aa,ae,simprocAttr];refine gG [[105,102]] (by decide) (by simp) (by first | omega | (simp only [aT];omega)) hm aY W aG fun ad b7 aI br=>?_;obtain ⟨hz,fA,v2,gk,fv⟩:=eM aI bx b6 0 0 rfl bT;simp only [br.g,z,fv,↓aa,ae,simprocAttr];refine bS (jT bR aL an bT 1 aI bx d_ gk (by simp only [aT];omega)) aI W aG fun aC dk bL cl=>?_;simp only [cl.g,z,↓aa,ae,simprocAttr];refine gG [[116,104,101,110]] (by decide) (by simp) (by simp only [aT];omega) hm bL W aG fun bn gd cG fI=>?_;obtain ⟨zN,y4,v4,oN,oO⟩:=eM cG bx b6 1 1 rfl dd;simp only [fI.g,z,oO,↓aa,ae,simprocAttr];refine bS (jT bR aL an dd 3 cG bx d_ oN (by simp only [aT];omega)) cG W aG fun b0 gT cL fJ=>?_;simp only [fJ.g,z,↓aa,ae,simprocAttr];refine gG [[101,108,115,101]] (by decide) (by simp) (by simp only [aT];omega) hm cL W aG fun eo ux ja lN=>?_;obtain ⟨U3,y6,v6,Aq,Ar⟩:=eM ja bx b6 2 2 rfl gR;simp only [lN.g,z,Ar,↓aa,ae,simprocAttr];refine bS (jT bR aL an gR 3 ja bx d_ Aq (by simp only [aT];omega)) ja W aG fun fl wS mx oG=>?_;simp only [oG.g,z,↓aa,ae,simprocAttr];exact ⟨rfl,_,cw (mx.b' al) (by simp)⟩
 . have z:=And.intro ol (And.intro bK (y2 e));have e6:=ur an (by omega);have bT:0<p.l.length:=by omega
   have hw:ht p.k (a' p.l)=List.map kw [[40]]++(List.map kw [[109,97,116,99,104]]++(cO 1 (p.l[0],p.l[0].words)++(List.map kw [[119,105,116,104]]++(eD Prod.snd [124] (a' (p.l.drop (1)))++(List.map kw [[41]]))))):=by simp [ht,z,cE,cF,cD,eU _ _ _ bT,-List.drop_one]
   rw [hw] at aM ⊢
   try simp only [aT] at aM
   simp only [ag,aG.g,z,↓aa,ae,simprocAttr];refine gG [[40]] (by decide) (by simp) (by first | omega | (simp only [aT];omega)) hm aY W aG fun ad b7 aI br=>?_;simp only [br.g,z,↓aa,ae,simprocAttr];refine gG [[109,97,116,99,104]] (by decide) (by simp) (by simp only [aT];omega) hm aI W aG fun aC dk bL cl=>?_;obtain ⟨pV,y3,v3,oM,nf⟩:=eM bL bx b6 0 0 rfl bT;simp only [cl.g,z,nf,↓aa,ae,simprocAttr];refine bS (jT bR aL an bT 1 bL bx d_ oM (by simp only [aT];omega)) bL W aG fun bn gd cG fI=>?_;simp only [fI.g,z,↓aa,ae,simprocAttr];refine gG [[119,105,116,104]] (by decide) (by simp) (by simp only [aT];omega) hm cG W aG fun b0 gT cL fJ=>?_;have An:=cL.dZ bx b6;obtain ⟨uZ,fz,tu⟩:=ch.drop An (k:=.i64) (i:=1) (by rw [anK];omega);rw [<-apL] at tu;have BR:gN 5 w (some (.int .i64 1)) none none=some uZ:=fz;simp only [fJ.g,z,BR,sS,↓aa,ae,simprocAttr];refine bS (sU 23 (anA (by decide)) Prod.snd (p.l.drop (1)) uZ [124] (by decide) _ _ _ _ _ cL.w (d_.hB cL bx) tu (by simp only [aT];omega) (fun i au ab di w' i'=>bR _ (dF _ (aoD (anB au))).1 (dF _ (aoD (anB au))).2 b bk ab di w' i')) cL W aG fun eo ux ja lN=>?_;simp only [lN.g,z,↓aa,ae,simprocAttr];refine gG [[41]] (by decide) (by simp) (by simp only [aT];omega) hm ja W aG fun fl wS mx oG=>?_;simp only [oG.g,z,↓aa,ae,simprocAttr];exact ⟨rfl,_,cw (mx.b' al) (by simp)⟩
 . have z:=And.intro ol (And.intro bK (y2 e));have e6:=ur an (by omega);have bT:0<p.l.length:=by omega
   have hw:ht p.k (a' p.l)=List.map kw [[40]]++(List.map kw [[116,114,121]]++(cO 1 (p.l[0],p.l[0].words)++(List.map kw [[119,105,116,104]]++(eD Prod.snd [124] (a' (p.l.drop (1)))++(List.map kw [[41]]))))):=by simp [ht,z,cE,cF,cD,eU _ _ _ bT,-List.drop_one]
   rw [hw] at aM ⊢
   try simp only [aT] at aM
   simp only [ag,aG.g,z,↓aa,ae,simprocAttr];refine gG [[40]] (by decide) (by simp) (by first | omega | (simp only [aT];omega)) hm aY W aG fun ad b7 aI br=>?_;simp only [br.g,z,↓aa,ae,simprocAttr];refine gG [[116,114,121]] (by decide) (by simp) (by simp only [aT];omega) hm aI W aG fun aC dk bL cl=>?_;obtain ⟨pV,y3,v3,oM,nf⟩:=eM bL bx b6 0 0 rfl bT;simp only [cl.g,z,nf,↓aa,ae,simprocAttr];refine bS (jT bR aL an bT 1 bL bx d_ oM (by simp only [aT];omega)) bL W aG fun bn gd cG fI=>?_;simp only [fI.g,z,↓aa,ae,simprocAttr];refine gG [[119,105,116,104]] (by decide) (by simp) (by simp only [aT];omega) hm cG W aG fun b0 gT cL fJ=>?_;have An:=cL.dZ bx b6;obtain ⟨uZ,fz,tu⟩:=ch.drop An (k:=.i64) (i:=1) (by rw [anK];omega);rw [<-apL] at tu;have BR:gN 5 w (some (.int .i64 1)) none none=some uZ:=fz;simp only [fJ.g,z,BR,sS,↓aa,ae,simprocAttr];refine bS (sU 23 (anA (by decide)) Prod.snd (p.l.drop (1)) uZ [124] (by decide) _ _ _ _ _ cL.w (d_.hB cL bx) tu (by simp only [aT];omega) (fun i au ab di w' i'=>bR _ (dF _ (aoD (anB au))).1 (dF _ (aoD (anB au))).2 b bk ab di w' i')) cL W aG fun eo ux ja lN=>?_;simp only [lN.g,z,↓aa,ae,simprocAttr];refine gG [[41]] (by decide) (by simp) (by simp only [aT];omega) hm ja W aG fun fl wS mx oG=>?_;simp only [oG.g,z,↓aa,ae,simprocAttr];exact ⟨rfl,_,cw (mx.b' al) (by simp)⟩
theorem lv {k c:Int} (e:k=c):(k=20)=(c=20)/\(k=21)=(c=21)/\(k=22)=(c=22)/\(k=23)=(c=23)/\(k=24)=(c=24)/\(k=25)=(c=25)/\(k=26)=(c=26)/\(k=35)=(c=35)/\(k=37)=(c=37)/\(k=38)=(c=38)/\(k=28)=(c=28)/\(k=34)=(c=34)/\(k=36)=(c=36)/\(k=39)=(c=39):=by simp only [e,apl]
theorem Tj (s:List UInt8):IntKind.i64.wrap (dQ s+1)=dQ s+1:=by
 have h:dQ s<=7/\5<=dQ s:=by
  unfold dQ
  repeat' split
  all_goals omega
 exact wrap_i64 (by omega) (by omega)
def oh (t:Bool) (c:dN):List bt:=jI (t=true) c
theorem Gg {n:Nat} (bR:mD n) (p:aQ) (aL:p.size<=n) (an:c6 p) (t:Bool) (b:Nat) (bk:V) (h:ah) (aP w:V) (ws:List bt) (W:eO [bk] b h aP ws) (M:hK (dU b) h bk) (X:cg (dU b) h p.enc (bN p w))
 (aM:ws.length + (oh t (p,p.words)).length<=1000000000):b8 Tryz.prog 76 [.ptr (aD b) 0,.bool t,.agg (bN p w)] h (ix [bk] b h aP ws (oh t (p,p.words))):=Vi bR p aL an t b bk h aP w ws W M X aM
theorem aaB {n:Nat} (bR:mD n) (p:aQ) (aL:p.size<=n+1) (an:c6 p) (ay:20<=p.k/\p.k<45) (b:Nat) (bk:V) (h:ah) (aP w:V) (ws:List bt) (W:eO [bk] b h aP ws) (M:hK (dU b) h bk) (X:cg (dU b) h p.enc (bN p w))
 (aM:ws.length + (cK p.k p.n p.s (a' p.l)).length<=1000000000):b8 Tryz.prog 40 [.ptr (aD b) 0,.agg (bN p w)] h (ix [bk] b h aP ws (cK p.k p.n p.s (a' p.l))):=by
 have cz:=jA X;have ol:=cz.one;have hm:=M.lone;have dF:∀q ∈ p.l,q.size<=n/\c6 q:=fun q aq=>⟨by have:=h4 aq;omega,jj an aq⟩;obtain ⟨J,ag,al,aG⟩:=f' h (bN p w);have bx:=W.ext al;have d_:=M.ext al;have eG:=X.ext al;have b6:=cz.ext al;have bK:=b6.len;have hle:=b6.le;rw [anK] at bK hle;have aY:eT [bk] b J aP J aP ws:=fM.refl bx;refine X7.z rfl (ck ?_);unfold NO;simp only [bN] at ag aG ⊢;rcases (show p.k=20\/p.k=21\/p.k=22\/p.k=23\/p.k=24\/p.k=25\/p.k=26\/p.k=35\/p.k=37\/p.k=38\/p.k=28\/p.k=34\/p.k=36\/p.k=39\/(p.k=27\/p.k=29\/p.k=30\/p.k=31\/p.k=32\/p.k=33) by have:=rN an;omega) with e | e | e | e | e | e | e | e | e | e | e | e | e | e | e
 . have z:=And.intro ol (And.intro bK (lv e));have hw:cK p.k p.n p.s (a' p.l)=[ox p.n]:=by simp [cK,z,cE,cF,cD]
   rw [hw] at aM ⊢
   try simp only [aT] at aM
   simp only [ag,aG.g,z,↓aa,ae,simprocAttr];refine bS (Tz p.n _ _ _ _ _ aY.w (by first | omega | (simp only [aT];omega)) hm) aY W aG fun ad b7 aI br=>?_;simp only [br.g,z,↓aa,ae,simprocAttr];exact ⟨rfl,_,cw (aI.b' al) (by simp)⟩
 . have z:=And.intro ol (And.intro bK (lv e));have hw:cK p.k p.n p.s (a' p.l)=[dK 2 p.s]:=by simp [cK,z,cE,cF,cD]
   rw [hw] at aM ⊢
   try simp only [aT] at aM
   simp only [ag,aG.g,z,↓aa,ae,simprocAttr];refine bS (oC 2 p.s _ _ _ _ _ aY.w (by first | omega | (simp only [aT];omega)) hm) aY W aG fun ad b7 aI br=>?_;simp only [br.g,z,↓aa,ae,simprocAttr];exact ⟨rfl,_,cw (aI.b' al) (by simp)⟩
 . have z:=And.intro ol (And.intro bK (lv e));have hw:cK p.k p.n p.s (a' p.l)=List.map kw [[40],[41]]:=by simp [cK,z,cE,cF,cD]
   rw [hw] at aM ⊢
   try simp only [aT] at aM
   simp only [ag,aG.g,z,↓aa,ae,simprocAttr];refine gG [[40],[41]] (by decide) (by simp) (by first | omega | (simp only [aT];omega)) hm aY W aG fun ad b7 aI br=>?_;simp only [br.g,z,↓aa,ae,simprocAttr];exact ⟨rfl,_,cw (aI.b' al) (by simp)⟩
 . have z:=And.intro ol (And.intro bK (lv e));have hw:cK p.k p.n p.s (a' p.l)=[oD p.n]:=by simp [cK,z,cE,cF,cD]
   rw [hw] at aM ⊢
   try simp only [aT] at aM
   simp only [ag,aG.g,z,↓aa,ae,simprocAttr];refine bS (U1 p.n _ _ _ _ _ aY.w (by first | omega | (simp only [aT];omega)) hm) aY W aG fun ad b7 aI br=>?_;simp only [br.g,z,↓aa,ae,simprocAttr];exact ⟨rfl,_,cw (aI.b' al) (by simp)⟩
 . have z:=And.intro ol (And.intro bK (lv e));have hw:cK p.k p.n p.s (a' p.l)=[dK 3 p.s]:=by simp [cK,z,cE,cF,cD]
   rw [hw] at aM ⊢
   try simp only [aT] at aM
   simp only [ag,aG.g,z,↓aa,ae,simprocAttr];refine bS (oC 3 p.s _ _ _ _ _ aY.w (by first | omega | (simp only [aT];omega)) hm) aY W aG fun ad b7 aI br=>?_;simp only [br.g,z,↓aa,ae,simprocAttr];exact ⟨rfl,_,cw (aI.b' al) (by simp)⟩
 . have z:=And.intro ol (And.intro bK (lv e));have hw:cK p.k p.n p.s (a' p.l)=[dK 4 p.s]++(eY (cO 10) (a' p.l)):=by simp [cK,z,cE,cF,cD]
   rw [hw] at aM ⊢
   try simp only [aT] at aM
   simp only [ag,aG.g,z,↓aa,ae,simprocAttr];refine bS (oC 4 p.s _ _ _ _ _ aY.w (by first | omega | (simp only [aT];omega)) hm) aY W aG fun ad b7 aI br=>?_;simp only [br.g,z,↓aa,ae,simprocAttr];refine fE (fun r g=>r 0=.ptr (aD b) 0/\r 50=w/\r 51=.int .i64 p.l.length/\∃(i:Nat) (di:V) (Z:List bt),r 52=.int .i64 i/\i<=p.l.length/\eT [bk] b J aP g di ((ws++[dK 4 p.s])++Z)/\Z++eY (cO 10) (a' (p.l.drop i))=eY (cO 10) (a' p.l)) (fun r g=>p.l.length - (r 52).toN) ?_ ?_
   . exact ⟨by simp only [↓aa,cm,simprocAttr],by simp only [↓aa,cm,simprocAttr],by simp only [↓aa,cm,simprocAttr],0,b7,[],by simp only [↓aa,cm,simprocAttr]<;>rfl,by omega,by rw [an_];exact aI,by rw [aok,anP]⟩
   rintro r g ⟨ba,rs,iu,i,hU,Z,mo,au,fK,cS⟩;unfold NP;by_cases aH:i<p.l.length
   . have g0:((i:Int) < (p.l.length:Int))=True:=anJ (by omega);have dm:=iI aH (by unfold top at hle;omega);rw [anZ aH,a',eY,<-anG] at cS;have ll:=congrArg List.length cS;simp only [anw] at ll;obtain ⟨mq,xr,hH,nd,lV⟩:=eM fK bx b6 i _ rfl aH;obtain ⟨g2,av,aN,e'⟩:=je g [.int .i64 0,.int .i64 0,.int .i64 0,.str [],.cr] (bN p.l[i] hH);have nb:=fK.ext aN;simp only [bN] at av e';have c:=jT bR aL an aH 10 nb bx d_ (nd.ext aN) (by simp only [aT] at ll ⊢;omega);simp only [ba,rs,iu,mo,g0,dm,lV,av,e'.g,↓aa,ae,simprocAttr];refine bq c ?_;rintro x g3 ⟨rfl,dk,F⟩;have p4:=nb.trans F;rw [anG] at p4;simp only [ba,rs,iu,mo,dm,↓aa,ae,simprocAttr];exact ⟨⟨i+1,dk,_,rfl,aH,p4,cS⟩,by omega⟩
   . have g0:((i:Int) < (p.l.length:Int))=False:=anA (by omega);rw [an5 (by omega)] at cS;simp only [a',eY,an_] at cS;rw [cS] at fK;simp only [ba,rs,iu,mo,g0,↓aa,ae,simprocAttr];exact ⟨rfl,_,cw (fK.b' al) (by simp)⟩
 . have z:=And.intro ol (And.intro bK (lv e));have e6:2<=p.l.length:=by have:=iS an (by omega);omega
   have hw:cK p.k p.n p.s (a' p.l)=ek (a' p.l) 5 [44] 4:=by simp [cK,z,cE,cF,cD]
   rw [hw] at aM ⊢
   try simp only [aT] at aM
   simp only [ag,aG.g,z,↓aa,ae,simprocAttr];refine bS (pU bR p aL an e6 5 [44] (by decide) 4 _ _ _ _ w _ aY.w (d_.hB aY bx) (aY.cs bx eG) (by first | omega | (simp only [aT];omega))) aY W aG fun ad b7 aI br=>?_;simp only [br.g,z,↓aa,ae,simprocAttr];exact ⟨rfl,_,cw (aI.b' al) (by simp)⟩
 . have z:=And.intro ol (And.intro bK (lv e));have e6:2<=p.l.length:=by have:=iS an (by omega);omega
   have hw:cK p.k p.n p.s (a' p.l)=ek (a' p.l) 2 [59] 1:=by simp [cK,z,cE,cF,cD]
   rw [hw] at aM ⊢
   try simp only [aT] at aM
   simp only [ag,aG.g,z,↓aa,ae,simprocAttr];refine bS (pU bR p aL an e6 2 [59] (by decide) 1 _ _ _ _ w _ aY.w (d_.hB aY bx) (aY.cs bx eG) (by first | omega | (simp only [aT];omega))) aY W aG fun ad b7 aI br=>?_;simp only [br.g,z,↓aa,ae,simprocAttr];exact ⟨rfl,_,cw (aI.b' al) (by simp)⟩
 . have z:=And.intro ol (And.intro bK (lv e));have e6:2<=p.l.length:=by have:=iS an (by omega);omega
   have hw:cK p.k p.n p.s (a' p.l)=ek (a' p.l) 4 [58,61] 2:=by simp [cK,z,cE,cF,cD]
   rw [hw] at aM ⊢
   try simp only [aT] at aM
   simp only [ag,aG.g,z,↓aa,ae,simprocAttr];refine bS (pU bR p aL an e6 4 [58,61] (by decide) 2 _ _ _ _ w _ aY.w (d_.hB aY bx) (aY.cs bx eG) (by first | omega | (simp only [aT];omega))) aY W aG fun ad b7 aI br=>?_;simp only [br.g,z,↓aa,ae,simprocAttr];exact ⟨rfl,_,cw (aI.b' al) (by simp)⟩
 . have CS:=Tj p.s;by_cases b0:dQ p.s=5
   . have z:=And.intro ol (And.intro bK (lv e));have k1:(dQ p.s=5)=True:=anJ b0;have ez:IntKind.i64.wrap (dQ p.s+1)=dQ p.s+1:=CS;have rB:p.s≠[]:=by have:=(pG an).Gf;rw [e] at this;intro z;rw [z] at this;exact absurd this (by decide)
     have e6:2<=p.l.length:=by have:=iS an (by omega);omega
     have hw:cK p.k p.n p.s (a' p.l)=ek (a' p.l) 6 p.s (dQ p.s+1):=by simp [cK,z,k1,ez,cE,cF,cD]
     rw [hw] at aM ⊢
     try simp only [aT] at aM
     simp only [ag,aG.g,z,k1,ez,↓aa,ae,simprocAttr];refine bq (Kt p.s J) ?_;rintro x ar ⟨rfl,dL⟩;rw [dL];simp only [ag,aG.g,z,k1,ez,↓aa,ae,simprocAttr];refine bS (pU bR p aL an e6 6 p.s rB (dQ p.s+1) _ _ _ _ w _ aY.w (d_.hB aY bx) (aY.cs bx eG) (by first | omega | (simp only [aT];omega))) aY W aG fun ad b7 aI br=>?_;simp only [br.g,z,k1,ez,↓aa,ae,simprocAttr];exact ⟨rfl,_,cw (aI.b' al) (by simp)⟩
   . have z:=And.intro ol (And.intro bK (lv e));have k1:(dQ p.s=5)=False:=anA b0;have ez:IntKind.i64.wrap (dQ p.s+1)=dQ p.s+1:=CS;have rB:p.s≠[]:=by have:=(pG an).Gf;rw [e] at this;intro z;rw [z] at this;exact absurd this (by decide)
     have e6:2<=p.l.length:=by have:=iS an (by omega);omega
     have hw:cK p.k p.n p.s (a' p.l)=ek (a' p.l) (dQ p.s) p.s (dQ p.s+1):=by simp [cK,z,k1,ez,cE,cF,cD]
     rw [hw] at aM ⊢
     try simp only [aT] at aM
     simp only [ag,aG.g,z,k1,ez,↓aa,ae,simprocAttr];refine bq (Kt p.s J) ?_;rintro x ar ⟨rfl,dL⟩;rw [dL];simp only [ag,aG.g,z,k1,ez,↓aa,ae,simprocAttr];refine bS (pU bR p aL an e6 (dQ p.s) p.s rB (dQ p.s+1) _ _ _ _ w _ aY.w (d_.hB aY bx) (aY.cs bx eG) (by first | omega | (simp only [aT];omega))) aY W aG fun ad b7 aI br=>?_;simp only [br.g,z,k1,ez,↓aa,ae,simprocAttr];exact ⟨rfl,_,cw (aI.b' al) (by simp)⟩
 . have e6:=iS an (by omega);have bT:0<p.l.length:=by omega
   have dd:1<p.l.length:=by omega
   have l1:j9 (a' p.l)=jI (p.l[0].kC<9\/p.l[0].k=25\/p.l[0].k=34) (p.l[0],p.l[0].words):=by unfold j9;rw [KF p.l 0 bT]
   have yo:(p.l[0].kC<9\/p.l[0].k=25\/p.l[0].k=34)->j9 (a' p.l)=oh true (p.l[0],p.l[0].words):=fun z=>by rw [l1];unfold oh jI;simp only [z,api]
   have Iv:¬(p.l[0].kC<9\/p.l[0].k=25\/p.l[0].k=34)->j9 (a' p.l)=oh false (p.l[0],p.l[0].words):=fun z=>by rw [l1];unfold oh jI;simp only [z,apK,anV]
   by_cases bP:p.l[0].kC<9
   . have z:=And.intro ol (And.intro bK (lv e));have ez:j9 (a' p.l)=oh true (p.l[0],p.l[0].words):=yo (.inl bP);have jP:(p.l[0].kC<9)=True:=anJ bP;have bT:0<p.l.length:=by omega
     have dd:1<p.l.length:=by omega
     have hw:cK p.k p.n p.s (a' p.l)=oh true (p.l[0],p.l[0].words)++(cO 10 (p.l[1],p.l[1].words)):=by simp [cK,z,ez,jP,cE,cF,cD,eU _ _ _ bT,eU _ _ _ dd]
     rw [hw] at aM ⊢
     try simp only [aT] at aM
     obtain ⟨ko,fc,v1,jy,hn⟩:=eM aY bx b6 0 0 rfl bT;obtain ⟨g1,j3,g',gY⟩:=je J [.int .i64 0,.int .i64 0,.int .i64 0,.str [],.cr] (bN p.l[0] v1);simp only [bN] at j3 gY;have h9:=aY.ext g';have lO:=jd W aG h9;have kR:g1.get (aD b)=.a_ [bk,aP] 0 false:=h9.w.g;have aw:=B6 p.l[0] bk v1 g1 (d_.ext g') (jy.ext g');simp only [ag,aG.g,z,ez,jP,hn,j3,gY.g,lO.g,kR,hm,↓aa,ae,simprocAttr];refine bq aw ?_;rintro x g2 ⟨rfl,jB⟩;have mZ:=gY.ext jB;have u6:=lO.ext jB;have m_:=h9.ext jB;have nn:g2.get (aD b)=.a_ [bk,aP] 0 false:=m_.w.g;have rF:=Gg bR p.l[0] (dF _ (anB bT)).1 (dF _ (anB bT)).2 true b bk g2 aP v1 ws m_.w ((d_.ext g').ext jB) ((jy.ext g').ext jB) (by first | omega | (simp only [aT];omega));simp only [mZ.g,u6.g,nn,z,ez,jP,hn,hm,↓aa,ae,simprocAttr];refine bq rF ?_;rintro x ad ⟨rfl,b7,r5⟩;have aI:=m_.trans r5;have br:=jd W aG aI;obtain ⟨hz,fA,v2,gk,fv⟩:=eM aI bx b6 1 1 rfl dd;simp only [br.g,z,ez,jP,gY.g,mZ.g,kR,nn,hm,hn,fv,↓aa,ae,simprocAttr];refine bS (jT bR aL an dd 10 aI bx d_ gk (by simp only [aT];omega)) aI W aG fun aC dk bL cl=>?_;simp only [cl.g,z,ez,jP,gY.g,mZ.g,kR,nn,hm,hn,↓aa,ae,simprocAttr];exact ⟨rfl,_,cw (bL.b' al) (by simp)⟩
   by_cases a2:p.l[0].k=25
   . have z:=And.intro ol (And.intro bK (lv e));have ez:j9 (a' p.l)=oh true (p.l[0],p.l[0].words):=yo (.inr (.inl a2));have jP:(p.l[0].kC<9)=False:=anA bP;have hk:(p.l[0].k=25)=True:=anJ a2;have bT:0<p.l.length:=by omega
     have dd:1<p.l.length:=by omega
     have hw:cK p.k p.n p.s (a' p.l)=oh true (p.l[0],p.l[0].words)++(cO 10 (p.l[1],p.l[1].words)):=by simp [cK,z,ez,jP,hk,cE,cF,cD,eU _ _ _ bT,eU _ _ _ dd]
     rw [hw] at aM ⊢
     try simp only [aT] at aM
     obtain ⟨ko,fc,v1,jy,hn⟩:=eM aY bx b6 0 0 rfl bT;obtain ⟨g1,j3,g',gY⟩:=je J [.int .i64 0,.int .i64 0,.int .i64 0,.str [],.cr] (bN p.l[0] v1);simp only [bN] at j3 gY;have h9:=aY.ext g';have lO:=jd W aG h9;have kR:g1.get (aD b)=.a_ [bk,aP] 0 false:=h9.w.g;have aw:=B6 p.l[0] bk v1 g1 (d_.ext g') (jy.ext g');simp only [ag,aG.g,z,ez,jP,hk,hn,j3,gY.g,lO.g,kR,hm,↓aa,ae,simprocAttr];refine bq aw ?_;rintro x g2 ⟨rfl,jB⟩;have mZ:=gY.ext jB;have u6:=lO.ext jB;have m_:=h9.ext jB;have nn:g2.get (aD b)=.a_ [bk,aP] 0 false:=m_.w.g;have rF:=Gg bR p.l[0] (dF _ (anB bT)).1 (dF _ (anB bT)).2 true b bk g2 aP v1 ws m_.w ((d_.ext g').ext jB) ((jy.ext g').ext jB) (by first | omega | (simp only [aT];omega));simp only [mZ.g,u6.g,nn,z,ez,jP,hk,hn,hm,↓aa,ae,simprocAttr];refine bq rF ?_;rintro x ad ⟨rfl,b7,r5⟩;have aI:=m_.trans r5;have br:=jd W aG aI;obtain ⟨hz,fA,v2,gk,fv⟩:=eM aI bx b6 1 1 rfl dd;simp only [br.g,z,ez,jP,hk,gY.g,mZ.g,kR,nn,hm,hn,fv,↓aa,ae,simprocAttr];refine bS (jT bR aL an dd 10 aI bx d_ gk (by simp only [aT];omega)) aI W aG fun aC dk bL cl=>?_;simp only [cl.g,z,ez,jP,hk,gY.g,mZ.g,kR,nn,hm,hn,↓aa,ae,simprocAttr];exact ⟨rfl,_,cw (bL.b' al) (by simp)⟩
   by_cases a3:p.l[0].k=34
   . have z:=And.intro ol (And.intro bK (lv e));have ez:j9 (a' p.l)=oh true (p.l[0],p.l[0].words):=yo (.inr (.inr a3));have jP:(p.l[0].kC<9)=False:=anA bP;have hk:(p.l[0].k=25)=False:=anA a2;have jQ:(p.l[0].k=34)=True:=anJ a3;have bT:0<p.l.length:=by omega
     have dd:1<p.l.length:=by omega
     have hw:cK p.k p.n p.s (a' p.l)=oh true (p.l[0],p.l[0].words)++(cO 10 (p.l[1],p.l[1].words)):=by simp [cK,z,ez,jP,hk,jQ,cE,cF,cD,eU _ _ _ bT,eU _ _ _ dd]
     rw [hw] at aM ⊢
     try simp only [aT] at aM
     obtain ⟨ko,fc,v1,jy,hn⟩:=eM aY bx b6 0 0 rfl bT;obtain ⟨g1,j3,g',gY⟩:=je J [.int .i64 0,.int .i64 0,.int .i64 0,.str [],.cr] (bN p.l[0] v1);simp only [bN] at j3 gY;have h9:=aY.ext g';have lO:=jd W aG h9;have kR:g1.get (aD b)=.a_ [bk,aP] 0 false:=h9.w.g;have aw:=B6 p.l[0] bk v1 g1 (d_.ext g') (jy.ext g');simp only [ag,aG.g,z,ez,jP,hk,jQ,hn,j3,gY.g,lO.g,kR,hm,↓aa,ae,simprocAttr];refine bq aw ?_;rintro x g2 ⟨rfl,jB⟩;have mZ:=gY.ext jB;have u6:=lO.ext jB;have m_:=h9.ext jB;have nn:g2.get (aD b)=.a_ [bk,aP] 0 false:=m_.w.g;have rF:=Gg bR p.l[0] (dF _ (anB bT)).1 (dF _ (anB bT)).2 true b bk g2 aP v1 ws m_.w ((d_.ext g').ext jB) ((jy.ext g').ext jB) (by first | omega | (simp only [aT];omega));simp only [mZ.g,u6.g,nn,z,ez,jP,hk,jQ,hn,hm,↓aa,ae,simprocAttr];refine bq rF ?_;rintro x ad ⟨rfl,b7,r5⟩;have aI:=m_.trans r5;have br:=jd W aG aI;obtain ⟨hz,fA,v2,gk,fv⟩:=eM aI bx b6 1 1 rfl dd;simp only [br.g,z,ez,jP,hk,jQ,gY.g,mZ.g,kR,nn,hm,hn,fv,↓aa,ae,simprocAttr];refine bS (jT bR aL an dd 10 aI bx d_ gk (by simp only [aT];omega)) aI W aG fun aC dk bL cl=>?_;simp only [cl.g,z,ez,jP,hk,jQ,gY.g,mZ.g,kR,nn,hm,hn,↓aa,ae,simprocAttr];exact ⟨rfl,_,cw (bL.b' al) (by simp)⟩
   . have z:=And.intro ol (And.intro bK (lv e));have ez:j9 (a' p.l)=oh false (p.l[0],p.l[0].words):=Iv (by rintro (z | z | z);exact bP z;exact a2 z;exact a3 z);have jP:(p.l[0].kC<9)=False:=anA bP;have hk:(p.l[0].k=25)=False:=anA a2;have jQ:(p.l[0].k=34)=False:=anA a3;have bT:0<p.l.length:=by omega
     have dd:1<p.l.length:=by omega
     have hw:cK p.k p.n p.s (a' p.l)=oh false (p.l[0],p.l[0].words)++(cO 10 (p.l[1],p.l[1].words)):=by simp [cK,z,ez,jP,hk,jQ,cE,cF,cD,eU _ _ _ bT,eU _ _ _ dd]
     rw [hw] at aM ⊢
     try simp only [aT] at aM
     obtain ⟨ko,fc,v1,jy,hn⟩:=eM aY bx b6 0 0 rfl bT;obtain ⟨g1,j3,g',gY⟩:=je J [.int .i64 0,.int .i64 0,.int .i64 0,.str [],.cr] (bN p.l[0] v1);simp only [bN] at j3 gY;have h9:=aY.ext g';have lO:=jd W aG h9;have kR:g1.get (aD b)=.a_ [bk,aP] 0 false:=h9.w.g;have aw:=B6 p.l[0] bk v1 g1 (d_.ext g') (jy.ext g');simp only [ag,aG.g,z,ez,jP,hk,jQ,hn,j3,gY.g,lO.g,kR,hm,↓aa,ae,simprocAttr];refine bq aw ?_;rintro x g2 ⟨rfl,jB⟩;have mZ:=gY.ext jB;have u6:=lO.ext jB;have m_:=h9.ext jB;have nn:g2.get (aD b)=.a_ [bk,aP] 0 false:=m_.w.g;have rF:=Gg bR p.l[0] (dF _ (anB bT)).1 (dF _ (anB bT)).2 false b bk g2 aP v1 ws m_.w ((d_.ext g').ext jB) ((jy.ext g').ext jB) (by first | omega | (simp only [aT];omega));simp only [mZ.g,u6.g,nn,z,ez,jP,hk,jQ,hn,hm,↓aa,ae,simprocAttr];refine bq rF ?_;rintro x ad ⟨rfl,b7,r5⟩;have aI:=m_.trans r5;have br:=jd W aG aI;obtain ⟨hz,fA,v2,gk,fv⟩:=eM aI bx b6 1 1 rfl dd;simp only [br.g,z,ez,jP,hk,jQ,gY.g,mZ.g,kR,nn,hm,hn,fv,↓aa,ae,simprocAttr];refine bS (jT bR aL an dd 10 aI bx d_ gk (by simp only [aT];omega)) aI W aG fun aC dk bL cl=>?_;simp only [cl.g,z,ez,jP,hk,jQ,gY.g,mZ.g,kR,nn,hm,hn,↓aa,ae,simprocAttr];exact ⟨rfl,_,cw (bL.b' al) (by simp)⟩
 . have z:=And.intro ol (And.intro bK (lv e));have bT:0<p.l.length:=by have:=uq an (by omega);omega
   have hw:cK p.k p.n p.s (a' p.l)=List.map kw [[114,97,105,115,101]]++(cO 10 (p.l[0],p.l[0].words)):=by simp [cK,z,cE,cF,cD,eU _ _ _ bT]
   rw [hw] at aM ⊢
   try simp only [aT] at aM
   simp only [ag,aG.g,z,↓aa,ae,simprocAttr];refine gG [[114,97,105,115,101]] (by decide) (by simp) (by first | omega | (simp only [aT];omega)) hm aY W aG fun ad b7 aI br=>?_;obtain ⟨hz,fA,v2,gk,fv⟩:=eM aI bx b6 0 0 rfl bT;simp only [br.g,z,fv,↓aa,ae,simprocAttr];refine bS (jT bR aL an bT 10 aI bx d_ gk (by simp only [aT];omega)) aI W aG fun aC dk bL cl=>?_;simp only [cl.g,z,↓aa,ae,simprocAttr];exact ⟨rfl,_,cw (bL.b' al) (by simp)⟩
 . have z:=And.intro ol (And.intro bK (lv e));have bT:0<p.l.length:=by have:=uq an (by omega);omega
   have hw:cK p.k p.n p.s (a' p.l)=List.map kw [[33]]++(cO 8 (p.l[0],p.l[0].words)):=by simp [cK,z,cE,cF,cD,eU _ _ _ bT]
   rw [hw] at aM ⊢
   try simp only [aT] at aM
   simp only [ag,aG.g,z,↓aa,ae,simprocAttr];refine gG [[33]] (by decide) (by simp) (by first | omega | (simp only [aT];omega)) hm aY W aG fun ad b7 aI br=>?_;obtain ⟨hz,fA,v2,gk,fv⟩:=eM aI bx b6 0 0 rfl bT;simp only [br.g,z,fv,↓aa,ae,simprocAttr];refine bS (jT bR aL an bT 8 aI bx d_ gk (by simp only [aT];omega)) aI W aG fun aC dk bL cl=>?_;simp only [cl.g,z,↓aa,ae,simprocAttr];exact ⟨rfl,_,cw (bL.b' al) (by simp)⟩
 . have z:=And.intro ol (And.intro bK (lv e));have bT:0<p.l.length:=by have:=uq an (by omega);omega
   have hw:cK p.k p.n p.s (a' p.l)=List.map kw [[45]]++(cO 8 (p.l[0],p.l[0].words)):=by simp [cK,z,cE,cF,cD,eU _ _ _ bT]
   rw [hw] at aM ⊢
   try simp only [aT] at aM
   simp only [ag,aG.g,z,↓aa,ae,simprocAttr];refine gG [[45]] (by decide) (by simp) (by first | omega | (simp only [aT];omega)) hm aY W aG fun ad b7 aI br=>?_;obtain ⟨hz,fA,v2,gk,fv⟩:=eM aI bx b6 0 0 rfl bT;simp only [br.g,z,fv,↓aa,ae,simprocAttr];refine bS (jT bR aL an bT 8 aI bx d_ gk (by simp only [aT];omega)) aI W aG fun aC dk bL cl=>?_;simp only [cl.g,z,↓aa,ae,simprocAttr];exact ⟨rfl,_,cw (bL.b' al) (by simp)⟩
 . have z20:=anA (show ¬p.k=20 by omega);have z21:=anA (show ¬p.k=21 by omega);have z22:=anA (show ¬p.k=22 by omega);have z23:=anA (show ¬p.k=23 by omega);have z24:=anA (show ¬p.k=24 by omega);have z25:=anA (show ¬p.k=25 by omega);have z26:=anA (show ¬p.k=26 by omega);have nJ:=anA (show ¬p.k=35 by omega);have z37:=anA (show ¬p.k=37 by omega);have pZ:=anA (show ¬p.k=38 by omega);have z28:=anA (show ¬p.k=28 by omega);have z34:=anA (show ¬p.k=34 by omega);have z36:=anA (show ¬p.k=36 by omega);have z39:=anA (show ¬p.k=39 by omega);have z:=And.intro ol bK;have hw:cK p.k p.n p.s (a' p.l)=ht p.k (a' p.l):=by simp [cK,z,z20,z21,z22,z23,z24,z25,z26,nJ,z37,pZ,z28,z34,z36,z39,cE,cF,cD]
   rw [hw] at aM ⊢
   try simp only [aT] at aM
   simp only [ag,aG.g,z,z20,z21,z22,z23,z24,z25,z26,nJ,z37,pZ,z28,z34,z36,z39,↓aa,ae,simprocAttr];refine bS (ahj bR p aL an (by omega) _ _ _ _ w _ aY.w (d_.hB aY bx) (aY.cs bx eG) (by first | omega | (simp only [aT];omega))) aY W aG fun ad b7 aI br=>?_;simp only [br.g,z,z20,z21,z22,z23,z24,z25,z26,nJ,z37,pZ,z28,z34,z36,z39,↓aa,ae,simprocAttr];exact ⟨rfl,_,cw (aI.b' al) (by simp)⟩
theorem um {k c:Int} (e:k=c):(k=45)=(c=45)/\(k=46)=(c=46)/\(k=47)=(c=47)/\(k=51)=(c=51)/\(k=52)=(c=52)/\(k=53)=(c=53)/\(k=50)=(c=50):=by simp only [e,apl]
theorem ZV {n:Nat} (bR:mD n) (p:aQ) (aL:p.size<=n+1) (an:c6 p) (ay:45<=p.k) (b:Nat) (bk:V) (h:ah) (aP w:V) (ws:List bt) (W:eO [bk] b h aP ws) (M:hK (dU b) h bk) (X:cg (dU b) h p.enc (bN p w))
 (aM:ws.length + (f_ p.k p.n p.s (a' p.l)).length<=1000000000):b8 Tryz.prog 41 [.ptr (aD b) 0,.agg (bN p w)] h (ix [bk] b h aP ws (f_ p.k p.n p.s (a' p.l))):=by
 have cz:=jA X;have ol:=cz.one;have hm:=M.lone;have dF:∀q ∈ p.l,q.size<=n/\c6 q:=fun q aq=>⟨by have:=h4 aq;omega,jj an aq⟩;obtain ⟨J,ag,al,aG⟩:=f' h (bN p w);have bx:=W.ext al;have d_:=M.ext al;have eG:=X.ext al;have b6:=cz.ext al;have bK:=b6.len;have hle:=b6.le;rw [anK] at bK hle;have aY:eT [bk] b J aP J aP ws:=fM.refl bx;refine X8.z rfl (ck ?_);unfold NQ;simp only [bN] at ag aG ⊢;rcases (show p.k=45\/p.k=46\/p.k=47\/p.k=51\/p.k=52\/p.k=53\/p.k=50 by have:=rN an;omega) with e | e | e | e | e | e | e
 . have z:=And.intro ol (And.intro bK (um e));have e6:2<=p.l.length:=by have:=iS an (by omega);omega
   have hw:f_ p.k p.n p.s (a' p.l)=ek (a' p.l) 1 [45,62] 1:=by simp [f_,z,cE,cF,cD]
   rw [hw] at aM ⊢
   try simp only [aT] at aM
   simp only [ag,aG.g,z,↓aa,ae,simprocAttr];refine bS (pU bR p aL an e6 1 [45,62] (by decide) 1 _ _ _ _ w _ aY.w (d_.hB aY bx) (aY.cs bx eG) (by first | omega | (simp only [aT];omega))) aY W aG fun ad b7 aI br=>?_;simp only [br.g,z,↓aa,ae,simprocAttr];exact ⟨rfl,_,cw (aI.b' al) (by simp)⟩
 . have z:=And.intro ol (And.intro bK (um e));have bT:0<p.l.length:=by have:=uq an (by omega);omega
   have hw:f_ p.k p.n p.s (a' p.l)=[dK 3 p.s]++(List.map kw [[61]]++(cO 1 (p.l[0],p.l[0].words))):=by simp [f_,z,cE,cF,cD,eU _ _ _ bT]
   rw [hw] at aM ⊢
   try simp only [aT] at aM
   simp only [ag,aG.g,z,↓aa,ae,simprocAttr];refine bS (oC 3 p.s _ _ _ _ _ aY.w (by first | omega | (simp only [aT];omega)) hm) aY W aG fun ad b7 aI br=>?_;simp only [br.g,z,↓aa,ae,simprocAttr];refine gG [[61]] (by decide) (by simp) (by simp only [aT];omega) hm aI W aG fun aC dk bL cl=>?_;obtain ⟨pV,y3,v3,oM,nf⟩:=eM bL bx b6 0 0 rfl bT;simp only [cl.g,z,nf,↓aa,ae,simprocAttr];refine bS (jT bR aL an bT 1 bL bx d_ oM (by simp only [aT];omega)) bL W aG fun bn gd cG fI=>?_;simp only [fI.g,z,↓aa,ae,simprocAttr];exact ⟨rfl,_,cw (cG.b' al) (by simp)⟩
 . have z:=And.intro ol (And.intro bK (um e));have hw:f_ p.k p.n p.s (a' p.l)=[dK 4 p.s]++(eY iU (a' p.l)):=by simp [f_,z,cE,cF,cD]
   rw [hw] at aM ⊢
   try simp only [aT] at aM
   simp only [ag,aG.g,z,↓aa,ae,simprocAttr];refine bS (oC 4 p.s _ _ _ _ _ aY.w (by first | omega | (simp only [aT];omega)) hm) aY W aG fun ad b7 aI br=>?_;simp only [br.g,z,↓aa,ae,simprocAttr];refine fE (fun r g=>r 0=.ptr (aD b) 0/\r 42=w/\r 43=.int .i64 p.l.length/\∃(i:Nat) (di:V) (Z:List bt),r 44=.int .i64 i/\i<=p.l.length/\eT [bk] b J aP g di ((ws++[dK 4 p.s])++Z)/\Z++eY iU (a' (p.l.drop i))=eY iU (a' p.l)) (fun r g=>p.l.length - (r 44).toN) ?_ ?_
   . exact ⟨by simp only [↓aa,cm,simprocAttr],by simp only [↓aa,cm,simprocAttr],by simp only [↓aa,cm,simprocAttr],0,b7,[],by simp only [↓aa,cm,simprocAttr]<;>rfl,by omega,by rw [an_];exact aI,by rw [aok,anP]⟩
   rintro r g ⟨ba,rs,iu,i,hU,Z,mo,au,fK,cS⟩;unfold Hw;by_cases aH:i<p.l.length
   . have g0:((i:Int) < (p.l.length:Int))=True:=anJ (by omega);have dm:=iI aH (by unfold top at hle;omega);rw [anZ aH,a',eY,<-anG] at cS;have ll:=congrArg List.length cS;simp only [anw] at ll;obtain ⟨mq,xr,hH,nd,lV⟩:=eM fK bx b6 i _ rfl aH;obtain ⟨g2,av,aN,e'⟩:=je g [.int .i64 0,.int .i64 0,.int .i64 0,.str [],.cr] (bN p.l[i] hH);have nb:=fK.ext aN;simp only [bN] at av e';have eB:(iU (p.l[i],p.l[i].words)).length=(cO 1 (p.l[i],p.l[i].words)).length+1:=rfl;have f2:=(Ext.refl g2).new (.a_ (ed [[111,102]]) 0 false);have k7:=uk [[111,102]] (by decide) (by simp) g2.next b bk (g2.new (.a_ (ed [[111,102]]) 0 false)) hU _ (nb.w.ext f2) (by simp only [aT] at ll ⊢;omega) hm (lT.mk' nb.w _)
     simp only [ba,rs,iu,mo,g0,dm,lV,av,e'.g,↓aa,ae,simprocAttr];refine bq k7 ?_;rintro x g3 ⟨rfl,dk,F⟩;have dn:=F.b' f2;have k2:=jd fK.w e' dn;have p4:=nb.trans dn;have c:=jT bR aL an aH 1 p4 bx d_ (dn.cs nb.w (nd.ext aN)) (by simp only [aT] at ll ⊢;omega);simp only [ba,rs,iu,mo,k2.g,lV,↓aa,ae,simprocAttr];refine bq c ?_;rintro x g4 ⟨rfl,gd,kK⟩;have z8:=p4.trans kK
     try simp only [anG] at z8
     simp only [ba,rs,iu,mo,dm,↓aa,ae,simprocAttr];refine ⟨⟨i+1,gd,_,rfl,aH,?_,cS⟩,by omega⟩
     try simp only [anG]
     exact z8
   . have g0:((i:Int) < (p.l.length:Int))=False:=anA (by omega);rw [an5 (by omega)] at cS;simp only [a',eY,an_] at cS;rw [cS] at fK;simp only [ba,rs,iu,mo,g0,↓aa,ae,simprocAttr];exact ⟨rfl,_,cw (fK.b' al) (by simp)⟩
 . have z:=And.intro ol (And.intro bK (um e));have hw:f_ p.k p.n p.s (a' p.l)=List.map kw [[101,120,99,101,112,116,105,111,110]]++([dK 4 p.s]++(eY iU (a' p.l))):=by simp [f_,z,cE,cF,cD]
   rw [hw] at aM ⊢
   try simp only [aT] at aM
   simp only [ag,aG.g,z,↓aa,ae,simprocAttr];refine gG [[101,120,99,101,112,116,105,111,110]] (by decide) (by simp) (by first | omega | (simp only [aT];omega)) hm aY W aG fun ad b7 aI br=>?_;simp only [br.g,z,↓aa,ae,simprocAttr];refine bS (oC 4 p.s _ _ _ _ _ aI.w (by simp only [aT];omega) hm) aI W aG fun aC dk bL cl=>?_;simp only [cl.g,z,↓aa,ae,simprocAttr];refine fE (fun r g=>r 0=.ptr (aD b) 0/\r 42=w/\r 43=.int .i64 p.l.length/\∃(i:Nat) (di:V) (Z:List bt),r 44=.int .i64 i/\i<=p.l.length/\eT [bk] b J aP g di (((ws++List.map kw [[101,120,99,101,112,116,105,111,110]])++[dK 4 p.s])++Z)/\Z++eY iU (a' (p.l.drop i))=eY iU (a' p.l)) (fun r g=>p.l.length - (r 44).toN) ?_ ?_
   . exact ⟨by simp only [↓aa,cm,simprocAttr],by simp only [↓aa,cm,simprocAttr],by simp only [↓aa,cm,simprocAttr],0,dk,[],by simp only [↓aa,cm,simprocAttr]<;>rfl,by omega,by rw [an_];exact bL,by rw [aok,anP]⟩
   rintro r g ⟨ba,rs,iu,i,hU,Z,mo,au,fK,cS⟩;unfold Hw;by_cases aH:i<p.l.length
   . have g0:((i:Int) < (p.l.length:Int))=True:=anJ (by omega);have dm:=iI aH (by unfold top at hle;omega);rw [anZ aH,a',eY,<-anG] at cS;have ll:=congrArg List.length cS;simp only [anw] at ll;obtain ⟨mq,xr,hH,nd,lV⟩:=eM fK bx b6 i _ rfl aH;obtain ⟨g2,av,aN,e'⟩:=je g [.int .i64 0,.int .i64 0,.int .i64 0,.str [],.cr] (bN p.l[i] hH);have nb:=fK.ext aN;simp only [bN] at av e';have eB:(iU (p.l[i],p.l[i].words)).length=(cO 1 (p.l[i],p.l[i].words)).length+1:=rfl;have f2:=(Ext.refl g2).new (.a_ (ed [[111,102]]) 0 false);have k7:=uk [[111,102]] (by decide) (by simp) g2.next b bk (g2.new (.a_ (ed [[111,102]]) 0 false)) hU _ (nb.w.ext f2) (by simp only [aT] at ll ⊢;omega) hm (lT.mk' nb.w _)
     simp only [ba,rs,iu,mo,g0,dm,lV,av,e'.g,↓aa,ae,simprocAttr];refine bq k7 ?_;rintro x g3 ⟨rfl,dk,F⟩;have dn:=F.b' f2;have k2:=jd fK.w e' dn;have p4:=nb.trans dn;have c:=jT bR aL an aH 1 p4 bx d_ (dn.cs nb.w (nd.ext aN)) (by simp only [aT] at ll ⊢;omega);simp only [ba,rs,iu,mo,k2.g,lV,↓aa,ae,simprocAttr];refine bq c ?_;rintro x g4 ⟨rfl,gd,kK⟩;have z8:=p4.trans kK
     try simp only [anG] at z8
     simp only [ba,rs,iu,mo,dm,↓aa,ae,simprocAttr];refine ⟨⟨i+1,gd,_,rfl,aH,?_,cS⟩,by omega⟩
     try simp only [anG]
     exact z8
   . have g0:((i:Int) < (p.l.length:Int))=False:=anA (by omega);rw [an5 (by omega)] at cS;simp only [a',eY,an_] at cS;rw [cS] at fK;simp only [ba,rs,iu,mo,g0,↓aa,ae,simprocAttr];exact ⟨rfl,_,cw (fK.b' al) (by simp)⟩
 . have z:=And.intro ol (And.intro bK (um e));have e6:2<=p.l.length:=by have:=iS an (by omega);omega
   have hw:f_ p.k p.n p.s (a' p.l)=List.map kw [[108,101,116]]++(ek (a' p.l) 1 [61] 1):=by simp [f_,z,cE,cF,cD]
   rw [hw] at aM ⊢
   try simp only [aT] at aM
   simp only [ag,aG.g,z,↓aa,ae,simprocAttr];refine gG [[108,101,116]] (by decide) (by simp) (by first | omega | (simp only [aT];omega)) hm aY W aG fun ad b7 aI br=>?_;simp only [br.g,z,↓aa,ae,simprocAttr];refine bS (pU bR p aL an e6 1 [61] (by decide) 1 _ _ _ _ w _ aI.w (d_.hB aI bx) (aI.cs bx eG) (by simp only [aT];omega)) aI W aG fun aC dk bL cl=>?_;simp only [cl.g,z,↓aa,ae,simprocAttr];exact ⟨rfl,_,cw (bL.b' al) (by simp)⟩
 . have z:=And.intro ol (And.intro bK (um e));have hw:f_ p.k p.n p.s (a' p.l)=List.map kw [[108,101,116],[114,101,99]]++(eD Prod.snd [97,110,100] (a' p.l)):=by simp [f_,z,cE,cF,cD]
   rw [hw] at aM ⊢
   try simp only [aT] at aM
   simp only [ag,aG.g,z,↓aa,ae,simprocAttr];refine gG [[108,101,116],[114,101,99]] (by decide) (by simp) (by first | omega | (simp only [aT];omega)) hm aY W aG fun ad b7 aI br=>?_;have h':=aI.dZ bx b6;simp only [br.g,z,sS,↓aa,ae,simprocAttr];refine bS (sU 23 (anA (by decide)) Prod.snd p.l w [97,110,100] (by decide) _ _ _ _ _ aI.w (d_.hB aI bx) h' (by simp only [aT];omega) (fun i au ab di w' i'=>bR _ (dF _ (id (anB au))).1 (dF _ (id (anB au))).2 b bk ab di w' i')) aI W aG fun aC dk bL cl=>?_;simp only [cl.g,z,↓aa,ae,simprocAttr];exact ⟨rfl,_,cw (bL.b' al) (by simp)⟩
 . have Eg:=EZ an e;have oW:((p.n.toNat:Nat):Int)=p.n:=Int.toNat_of_nonneg Eg.1;by_cases aj:1<p.n
   . have z:=And.intro ol (And.intro bK (um e));have gX:(1<p.n)=True:=anJ aj;have hw:f_ p.k p.n p.s (a' p.l)=List.map kw [[116,121,112,101]]++(List.map kw [[40]]++(eD Prod.snd [44] (a' (p.l.take (p.n.toNat)))++(List.map kw [[41]]++([dK 3 p.s]++(List.map kw [[61]]++(eD Prod.snd [124] (a' (p.l.drop (p.n.toNat))))))))):=by simp [f_,z,gX,cE,cF,cD,-List.drop_one]
     rw [hw] at aM ⊢
     try simp only [aT] at aM
     simp only [ag,aG.g,z,gX,↓aa,ae,simprocAttr];refine gG [[116,121,112,101]] (by decide) (by simp) (by first | omega | (simp only [aT];omega)) hm aY W aG fun ad b7 aI br=>?_;simp only [br.g,z,gX,↓aa,ae,simprocAttr];refine gG [[40]] (by decide) (by simp) (by simp only [aT];omega) hm aI W aG fun aC dk bL cl=>?_;have GV:=bL.dZ bx b6;obtain ⟨pV,dY,Ao⟩:=ch.take GV (k:=.i64) (i:=p.n.toNat) (by rw [anK];omega);rw [<-aps] at Ao;have qE:gN 5 w none (some (.int .i64 p.n)) none=some pV:=by have z:=dY;rw [oW] at z;exact z
     simp only [cl.g,z,gX,qE,sS,↓aa,ae,simprocAttr];refine bS (sU 23 (anA (by decide)) Prod.snd (p.l.take (p.n.toNat)) pV [44] (by decide) _ _ _ _ _ bL.w (d_.hB bL bx) Ao (by simp only [aT];omega) (fun i au ab di w' i'=>bR _ (dF _ (aoq (anB au))).1 (dF _ (aoq (anB au))).2 b bk ab di w' i')) bL W aG fun bn gd cG fI=>?_;simp only [fI.g,z,gX,↓aa,ae,simprocAttr];refine gG [[41]] (by decide) (by simp) (by simp only [aT];omega) hm cG W aG fun b0 gT cL fJ=>?_;simp only [fJ.g,z,gX,↓aa,ae,simprocAttr];refine bS (oC 3 p.s _ _ _ _ _ cL.w (by simp only [aT];omega) hm) cL W aG fun eo ux ja lN=>?_;simp only [lN.g,z,gX,↓aa,ae,simprocAttr];refine gG [[61]] (by decide) (by simp) (by simp only [aT];omega) hm ja W aG fun fl wS mx oG=>?_;have VZ:=mx.dZ bx b6;obtain ⟨U4,hS,L1⟩:=ch.drop VZ (k:=.i64) (i:=p.n.toNat) (by rw [anK];omega);rw [<-apL] at L1;have aej:gN 5 w (some (.int .i64 p.n)) none none=some U4:=by have z:=hS;rw [oW] at z;exact z
     simp only [oG.g,z,gX,aej,sS,↓aa,ae,simprocAttr];refine bS (sU 23 (anA (by decide)) Prod.snd (p.l.drop (p.n.toNat)) U4 [124] (by decide) _ _ _ _ _ mx.w (d_.hB mx bx) L1 (by simp only [aT];omega) (fun i au ab di w' i'=>bR _ (dF _ (aoD (anB au))).1 (dF _ (aoD (anB au))).2 b bk ab di w' i')) mx W aG fun qi amM VE VA=>?_;simp only [VA.g,z,gX,↓aa,ae,simprocAttr];exact ⟨rfl,_,cw (VE.b' al) (by simp)⟩
   . have z:=And.intro ol (And.intro bK (um e));have gX:(1<p.n)=False:=anA aj;have hw:f_ p.k p.n p.s (a' p.l)=List.map kw [[116,121,112,101]]++(eD Prod.snd [44] (a' (p.l.take (p.n.toNat)))++([dK 3 p.s]++(List.map kw [[61]]++(eD Prod.snd [124] (a' (p.l.drop (p.n.toNat))))))):=by simp [f_,z,gX,cE,cF,cD,-List.drop_one]
     rw [hw] at aM ⊢
     try simp only [aT] at aM
     simp only [ag,aG.g,z,gX,↓aa,ae,simprocAttr];refine gG [[116,121,112,101]] (by decide) (by simp) (by first | omega | (simp only [aT];omega)) hm aY W aG fun ad b7 aI br=>?_;have h':=aI.dZ bx b6;obtain ⟨hz,b_,tt⟩:=ch.take h' (k:=.i64) (i:=p.n.toNat) (by rw [anK];omega);rw [<-aps] at tt;have BQ:gN 5 w none (some (.int .i64 p.n)) none=some hz:=by have z:=b_;rw [oW] at z;exact z
     simp only [br.g,z,gX,BQ,sS,↓aa,ae,simprocAttr];refine bS (sU 23 (anA (by decide)) Prod.snd (p.l.take (p.n.toNat)) hz [44] (by decide) _ _ _ _ _ aI.w (d_.hB aI bx) tt (by simp only [aT];omega) (fun i au ab di w' i'=>bR _ (dF _ (aoq (anB au))).1 (dF _ (aoq (anB au))).2 b bk ab di w' i')) aI W aG fun aC dk bL cl=>?_;simp only [cl.g,z,gX,↓aa,ae,simprocAttr];refine bS (oC 3 p.s _ _ _ _ _ bL.w (by simp only [aT];omega) hm) bL W aG fun bn gd cG fI=>?_;simp only [fI.g,z,gX,↓aa,ae,simprocAttr];refine gG [[61]] (by decide) (by simp) (by simp only [aT];omega) hm cG W aG fun b0 gT cL fJ=>?_;have An:=cL.dZ bx b6;obtain ⟨uZ,fz,tu⟩:=ch.drop An (k:=.i64) (i:=p.n.toNat) (by rw [anK];omega);rw [<-apL] at tu;have BR:gN 5 w (some (.int .i64 p.n)) none none=some uZ:=by have z:=fz;rw [oW] at z;exact z
     simp only [fJ.g,z,gX,BR,sS,↓aa,ae,simprocAttr];refine bS (sU 23 (anA (by decide)) Prod.snd (p.l.drop (p.n.toNat)) uZ [124] (by decide) _ _ _ _ _ cL.w (d_.hB cL bx) tu (by simp only [aT];omega) (fun i au ab di w' i'=>bR _ (dF _ (aoD (anB au))).1 (dF _ (aoD (anB au))).2 b bk ab di w' i')) cL W aG fun eo ux ja lN=>?_;simp only [lN.g,z,gX,↓aa,ae,simprocAttr];exact ⟨rfl,_,cw (ja.b' al) (by simp)⟩
theorem aiY {n:Nat} (bR:mD n):mD (n+1):=by
 intro p aL an b bk h aP w ws W M X aM;have cz:=jA X;have ol:=cz.one;obtain ⟨J,ag,al,aG⟩:=f' h (bN p w);have bx:=W.ext al;have d_:=M.ext al;have eG:=X.ext al;have hw:=zR p;unfold pe at hw;rw [hw] at aM ⊢;refine XT.z rfl (ck ?_);unfold Nt;by_cases bX:p.k<10
 . rw [anL bX] at aM ⊢;have c:=ak' bR p aL an bX b bk J aP w ws bx d_ eG aM;simp only [bN] at ag aG c ⊢;simp only [ag,aG.g,ol,anJ bX,↓aa,ae,simprocAttr];refine bq c ?_;rintro x ad ⟨rfl,b7,E⟩;simp only [↓aa,ae,simprocAttr];exact ⟨rfl,b7,E.b' al⟩
 rw [anE bX] at aM ⊢;by_cases b_:p.k<20
 . rw [anL b_] at aM ⊢;have c:=aiZ bR p aL an ⟨by omega,b_⟩ b bk J aP w ws bx d_ eG aM;simp only [bN] at ag aG c ⊢;simp only [ag,aG.g,ol,anA bX,anJ b_,↓aa,ae,simprocAttr];refine bq c ?_;rintro x ad ⟨rfl,b7,E⟩;simp only [↓aa,ae,simprocAttr];exact ⟨rfl,b7,E.b' al⟩
 rw [anE b_] at aM ⊢;by_cases dY:p.k<45
 . rw [anL dY] at aM ⊢;have c:=aaB bR p aL an ⟨by omega,dY⟩ b bk J aP w ws bx d_ eG aM;simp only [bN] at ag aG c ⊢;simp only [ag,aG.g,ol,anA bX,anA b_,anJ dY,↓aa,ae,simprocAttr];refine bq c ?_;rintro x ad ⟨rfl,b7,E⟩;simp only [↓aa,ae,simprocAttr];exact ⟨rfl,b7,E.b' al⟩
 . rw [anE dY] at aM ⊢;have c:=ZV bR p aL an (by omega) b bk J aP w ws bx d_ eG aM;simp only [bN] at ag aG c ⊢;simp only [ag,aG.g,ol,anA bX,anA b_,anA dY,↓aa,ae,simprocAttr];refine bq c ?_;rintro x ad ⟨rfl,b7,E⟩;simp only [↓aa,ae,simprocAttr];exact ⟨rfl,b7,E.b' al⟩
theorem Tp:∀n,mD n
 | 0=>fun p aL=>absurd (w6 p) (by omega)
 | n+1=>aiY (Tp n)
theorem Z6 {u:Nat} (h:u<10):(([48,49,50,51,52,53,54,55,56,57]:List UInt8).drop u).take 1=[UInt8.ofNat (48+u)]:=by revert u;decide
theorem Pa (u:Nat) (hu:u<=4294967296) (h:ah):ff Tryz.prog 63 [.int .i64 u] h (.str (Lib.decDigits u)) h:=by
 induction u using Nat.strongRecOn with
 | _ u bC=>
   refine mm (Yo.z rfl (ck ?_));unfold N_;rw [Lib.decDigits];by_cases Ee:u<10
   . have g0:((u:Int)<10)=True:=anJ (by omega);have g1:(0<=(u:Int))=True:=anJ (by omega);have w:IntKind.i64.wrap ((u:Int)+1)=((u+1:Nat):Int):=by rw [wrap_i64 (by omega) (by omega)];rfl
     have g2:((u:Int)<=((u+1:Nat):Int))=True:=anJ (by omega);have g3:(((u+1:Nat):Int)<=((10:Nat):Int))=True:=anJ (by omega);have aL:mV (.str [48,49,50,51,52,53,54,55,56,57]) (some (.int .i64 (u:Int))) (some (.int .i64 ((u+1:Nat):Int))) none=some (.str [UInt8.ofNat (48+u)]):=by rw [UD,anL ⟨by omega,by omega,by simp only [anz,anH];omega⟩,anI,anI,show u+1-u=1 by omega,Z6 Ee]
     rw [dif_pos Ee];simp only [g0,w,aL,↓aa,ae,simprocAttr]
   . have g0:((u:Int)<10)=False:=anA (by omega);rw [dif_neg Ee];have aq:(dV.int .quo).run Tryz.prog (.int .i64 (u:Int)) (.int .i64 10)=some (.int .i64 ((u / 10:Nat):Int)):=by
      rw [RT .i64 _ _ (by decide),show (10:Int)=((10:Nat):Int) from rfl,<-Int.ofNat_tdiv,wrap_i64 (by omega) (by omega)]
     have aK:(dV.int .rem).run Tryz.prog (.int .i64 (u:Int)) (.int .i64 10)=some (.int .i64 ((u % 10:Nat):Int)):=by rw [RU .i64 _ _ (by decide),show (10:Int)=((10:Nat):Int) from rfl,<-Int.ofNat_tmod]
     simp only [g0,aq,↓aa,ae,simprocAttr];refine ey (bC (u / 10) (by omega) (by omega)) ?_;simp only [g0,aK,↓aa,ae,simprocAttr];refine ey (bC (u % 10) (by omega) (by omega)) ?_;have ad:Lib.decDigits (u % 10)=[UInt8.ofNat (48+u % 10)]:=by rw [Lib.decDigits,dif_pos (by omega)]
     have aw:(Lib.decDigits (u / 10)).length<=20:=by rw [Lib.decDigits_length];exact Lib.nDigits_le20 _ (by omega)
     rw [ad];have pr:((Lib.decDigits (u / 10)).length+1<=17179869184)=True:=anJ (by omega);simp only [pr,↓aa,ae,simprocAttr]
theorem ajx (s:List UInt8) (aL:s.length<=90000) (h:ah):b8 Tryz.prog 64 [.str s] h fun x ab=>x=.str (qN s)/\Ext h ab:=by
 refine Yp.z rfl (ck ?_);unfold Oa;simp only [↓aa,ae,simprocAttr];have qC:Ext h (h.new (.a_ [.int .u8 34] 0 false)):=(Ext.refl h).new _;have Jo:cZ h.next (h.new (.a_ [.int .u8 34] 0 false)) 1 (.slice (aD h.next) 0 1 1) 1 (ea [34]):=⟨rfl,rfl,by rw [ee];exact anD _,hE (by rw [gI];omega),anD _,by unfold top;omega,_,0,false,jD _,by simp,rfl⟩
 generalize h.new (.a_ [.int .u8 34] 0 false)=J at *;have on:∀(ab:ah) (v:V) (n m:Nat) (pre piece:List UInt8) (cs:List V),cZ h.next ab 1 v n (ea pre)->Ext h ab->n<=400000->m<=4->cs=ea piece->cs.length=m * 1->
  ∃c_ aC,jz 1 v (.slice (aD ab.next) 0 m m) (ab.new (.a_ cs 0 false))=.val c_ aC/\cZ h.next aC 1 c_ (n+m) (ea (pre++piece))/\Ext h aC:=by
  intro ab v n m pre piece cs bB ar aX hm hc aw;obtain ⟨c_,aC,ag,av,aJ,bU,cX⟩:=At (m:=m) (cs:=cs) (by omega) bB ar.next (by unfold top;omega) aw (by rw [hc];exact DI _)
  refine ⟨c_,aC,ag,?_,ar.me aJ (fun b aj=>bB.base aj)⟩;rw [vw,<-hc];exact av
 refine fE (fun r ab=>∃(i:Nat) (v:V) (n:Nat),r 3=v/\r 0=.str s/\r 4=.int .i64 i/\i<=s.length/\n<=1+4 * i/\
  cZ h.next ab 1 v n (ea (34::(s.take i).flatMap h5))/\Ext h ab) (fun r ab=>s.length - (r 4).toN) ?_ ?_
 . exact ⟨0,_,1,by simp only [↓aa,ae,simprocAttr]<;>rfl,by simp only [↓aa,ae,simprocAttr],by simp only [↓aa,ae,simprocAttr]<;>rfl,by omega,by omega,Jo,qC⟩
 . rintro r ab ⟨i,v,n,bY,ba,dR,au,aX,bB,ar⟩;unfold Ob;by_cases aH:i<s.length
   . have g0:((i:Int) < (s.length:Int))=True:=anJ (by omega);have g1:(0<=(i:Int))=True:=anJ (by omega);have Bd:=(s[i]).toNat_lt;have w:IntKind.i64.wrap ((i:Int)+1)=((i+1:Nat):Int):=by rw [wrap_i64 (by omega) (by omega)];rfl
     have hO:(((s[i]).toNat:Int)=34)=(s[i]=34):=pW _ 34 (by omega);have nj:(((s[i]).toNat:Int)=92)=(s[i]=92):=pW _ 92 (by omega);have sK:=anv aH;have rD:∀piece,h5 s[i]=piece->(34::(s.take i).flatMap h5)++piece=34::(s.take (i+1)).flatMap h5:=by intro piece ak;rw [UU aH,ak];rfl
     by_cases J:s[i]=34\/s[i]=92
     . have aq:h5 s[i]=[92,s[i]]:=by unfold h5;rw [anL J]
       obtain ⟨v1,ad,ag,av,aJ⟩:=on ab v n 1 _ [92] [.int .u8 92] bB ar (by omega) (by omega) rfl rfl;obtain ⟨v2,aC,bU,cX,ev⟩:=on ad v1 (n+1) 1 _ [s[i]] [.int .u8 ((s[i]).toNat:Int)] av aJ (by omega) (by omega) rfl rfl;rw [anG] at cX;rw [rD ([92]++[s[i]]) aq] at cX;have bW:(s[i]).toNat=34\/(s[i]).toNat=92:=J.imp (fun q=>by rw [q];rfl) (fun q=>by rw [q];rfl);have t1:(((s[i]).toNat:Int)<32)=False:=anA (by omega);have t2:((126:Int) < ((s[i]).toNat:Int))=False:=anA (by omega);by_cases sq:s[i]=34
       . have t3:=anJ sq;simp only [bY,ba,dR,g0,g1,sK,anI,hO,nj,t1,t2,t3,ag,bU,w,↓aa,ae,simprocAttr];exact ⟨⟨i+1,v2,n+1+1,rfl,rfl,aH,by omega,cX,ev⟩,by omega⟩
       . have t3:=anA sq;have t4:=anJ (J.resolve_left sq);simp only [bY,ba,dR,g0,g1,sK,anI,hO,nj,t1,t2,t3,t4,ag,bU,w,↓aa,ae,simprocAttr];exact ⟨⟨i+1,v2,n+1+1,rfl,rfl,aH,by omega,cX,ev⟩,by omega⟩
     . have n34:=anA (fun q=>J (.inl q):¬s[i]=34);have wX:=anA (fun q=>J (.inr q):¬s[i]=92);by_cases ad:(s[i]).toNat<32\/127<=(s[i]).toNat
       . have aq:h5 s[i]=[92,(48 + (s[i]).toNat / 100).toUInt8,(48 + (s[i]).toNat / 10 % 10).toUInt8,(48 + (s[i]).toNat % 10).toUInt8]:=by unfold h5;rw [anE J,anL ad]
         obtain ⟨c_,aC,ag,av,aJ⟩:=on ab v n 4 _ _ [.int .u8 92,.int .u8 ((48 + (s[i]).toNat / 100:Nat):Int),.int .u8 ((48 + (s[i]).toNat / 10 % 10:Nat):Int),.int .u8 ((48 + (s[i]).toNat % 10:Nat):Int)] bB ar (by omega) (by omega) (MA _).symm rfl;rw [rD _ aq] at av;have bf:(dV.int .quo).run Tryz.prog (.int .u8 ((s[i]).toNat:Int)) (.int .u8 100)=some (.int .u8 (((s[i]).toNat / 100:Nat):Int)):=FG (s[i]).toNat 100 Bd (by omega);have du:(dV.int .quo).run Tryz.prog (.int .u8 ((s[i]).toNat:Int)) (.int .u8 10)=some (.int .u8 (((s[i]).toNat / 10:Nat):Int)):=FG (s[i]).toNat 10 Bd (by omega);have u1:(dV.int .rem).run Tryz.prog (.int .u8 (((s[i]).toNat / 10:Nat):Int)) (.int .u8 10)=some (.int .u8 (((s[i]).toNat / 10 % 10:Nat):Int)):=FU ((s[i]).toNat / 10) 10 (by omega);have CU:(dV.int .rem).run Tryz.prog (.int .u8 ((s[i]).toNat:Int)) (.int .u8 10)=some (.int .u8 (((s[i]).toNat % 10:Nat):Int)):=FU (s[i]).toNat 10 (by omega);have b4:=zT ((s[i]).toNat / 100) (by omega);have b1:=zT ((s[i]).toNat / 10 % 10) (by omega);have jt:=zT ((s[i]).toNat % 10) (by omega);by_cases Ie:(s[i]).toNat<32
         . have t1:(((s[i]).toNat:Int)<32)=True:=anJ (by omega);simp only [bY,ba,dR,g0,g1,sK,anI,hO,nj,n34,wX,t1,bf,du,u1,CU,b4,b1,jt,ag,w,↓aa,ae,simprocAttr];exact ⟨⟨i+1,c_,n+4,rfl,rfl,aH,by omega,av,aJ⟩,by omega⟩
         . have t1:(((s[i]).toNat:Int)<32)=False:=anA (by omega);have t2:((126:Int) < ((s[i]).toNat:Int))=True:=anJ (by omega);simp only [bY,ba,dR,g0,g1,sK,anI,hO,nj,n34,wX,t1,t2,bf,du,u1,CU,b4,b1,jt,ag,w,↓aa,ae,simprocAttr];exact ⟨⟨i+1,c_,n+4,rfl,rfl,aH,by omega,av,aJ⟩,by omega⟩
       . have aq:h5 s[i]=[s[i]]:=by unfold h5;rw [anE J,anE ad]
         obtain ⟨c_,aC,ag,av,aJ⟩:=on ab v n 1 _ [s[i]] [.int .u8 ((s[i]).toNat:Int)] bB ar (by omega) (by omega) rfl rfl;rw [rD _ aq] at av;have t1:(((s[i]).toNat:Int)<32)=False:=anA (by omega);have t2:((126:Int) < ((s[i]).toNat:Int))=False:=anA (by omega);simp only [bY,ba,dR,g0,g1,sK,anI,hO,nj,n34,wX,t1,t2,ag,w,↓aa,ae,simprocAttr];exact ⟨⟨i+1,c_,n+1,rfl,rfl,aH,by omega,av,aJ⟩,by omega⟩
   . have kf:i=s.length:=by omega
     have g0:((i:Int) < (s.length:Int))=False:=anA (by omega);rw [kf,ao8] at bB;obtain ⟨c_,aC,ag,av,aJ⟩:=on ab v n 1 _ [34] [.int .u8 34] bB ar (by omega) (by omega) rfl rfl;have aj:(34::s.flatMap h5)++[34]=qN s:=rfl;rw [aj] at av;have hlen:n+1=(qN s).length:=by have:=av.1;rw [oQ,ao4] at this;omega
     rw [hlen] at av;simp only [bY,ba,dR,g0,ag,AS av,↓aa,ae,simprocAttr];exact aJ
theorem T5 (k n p:Int) (s:List UInt8) (aL:s.length<=90000) (aX:k=1->-1073741824<=n/\n<=1073741823) (h:ah):b8 Tryz.prog 33 [.agg [.int .i64 k,.int .i64 n,.int .i64 p,.str s]] h fun x ab=>x=.str (ju k n s)/\Ext h ab:=by
 refine X0.z rfl (ck ?_);unfold xY;have ar:Ext h (h.new (.a_ [.int .i64 k,.int .i64 n,.int .i64 p,.str s] 0 false)):=(Ext.refl h).new _;by_cases J:k=1
 . subst J;obtain ⟨gH,jK⟩:=aX rfl;by_cases sE:n<0
   . have g0:=anJ sE;obtain ⟨u,hu⟩:∃u:Nat,n+2147483648=u:=⟨(n+2147483648).toNat,by omega⟩;have w:IntKind.i64.wrap (n+2147483648)=(u:Int):=by rw [wrap_i64 (by omega) (by omega),hu]
     have hw:ju 1 n s=Lib.decDigits u:=by show Lib.itoa (if n<0 then n+2147483648 else n)=_;rw [anL sE,hu,Lib.itoa_nonneg]
     simp only [g0,w,↓aa,ae,simprocAttr];refine ey (Pa u (by omega) _) ?_;rw [hw];simp only [↓aa,ae,simprocAttr];exact ar
   . have g0:=anA sE;obtain ⟨u,rfl⟩:∃u:Nat,n=u:=⟨n.toNat,by omega⟩;have hw:ju 1 u s=Lib.decDigits u:=by
      show Lib.itoa (if (u:Int)<0 then _ else (u:Int))=_;rw [anE sE,Lib.itoa_nonneg]
     simp only [g0,↓aa,ae,simprocAttr];refine ey (Pa u (by omega) _) ?_;rw [hw];simp only [↓aa,ae,simprocAttr];exact ar
 have bX:=anA J;by_cases ad:k=2
 . subst ad;rw [show ju 2 n s=qN s from rfl];simp only [↓aa,ae,simprocAttr];refine bq (ajx s aL _) ?_;rintro x ad ⟨rfl,fP⟩;simp only [↓aa,ae,simprocAttr];exact ar.trans fP
 have b_:=anA ad;by_cases b0:k=5
 . subst b0;have pr:(1+s.length<=17179869184)=True:=anJ (by omega);rw [show ju 5 n s=39::s from rfl];simp only [pr,anO,anP,↓aa,ae,simprocAttr];exact ar
 . have fz:=anA b0;rw [show ju k n s=s by unfold ju;rw [anE J,anE ad,anE b0]];simp only [bX,b_,fz,↓aa,ae,simprocAttr];exact ar
theorem RO (x:List UInt8):∀L:List (List UInt8),Lib.join (L++[x]) [32]=if L=[] then x else Lib.join L [32]++([32]++x)
 | []=>by rw [anL rfl];exact Lib.join_one x [32]
 | y::L=>by rw [anE (by simp),anO,Lib.join_cons,Lib.join_cons,anG];congr 1;unfold Lib.joinTail;rw [apb,List.flatten_append];simp
theorem ajz (v0:V) (ws:List bt) (h:ah) (H:e3 h 4 v0 ws.length (j7 ws)) (aw:ws.length<=10000) (aE:∀w ∈ ws,w.text.length<=50000):
 b8 Tryz.prog 20 [v0] h fun x ab=>x=.tuple [.str (hX ws).1,.int .i64 (hX ws).2]/\Ext h ab:=by
 refine XR.z rfl (ck ?_);unfold Np;simp only [↓aa,ae,simprocAttr]
 refine fE (fun r ab=>∃(i:Nat) (v:V) (n:Nat),r 4=v/\r 0=v0/\r 5=.int .i64 i/\i<=ws.length/\n<=i * 200003/\((ws.take i).all bt.may=true)/\
  cZ h.next ab 1 v n (ea (Lib.join ((ws.take i).map bt.out) [32]))/\Ext h ab) (fun r ab=>ws.length - (r 5).toN) ?_ ?_
 . exact ⟨0,.cr,0,by simp only [↓aa,ae,simprocAttr],by simp only [↓aa,ae,simprocAttr],by simp only [↓aa,ae,simprocAttr]<;>rfl,by omega,by omega,rfl,⟨by simp [ea,Lib.join_nil],by simp⟩,Ext.refl _⟩
 . rintro r ab ⟨i,v,n,dR,ba,cW,au,aX,dx,bB,ar⟩;unfold Nq;by_cases aH:i<ws.length
   . have g0:((i:Int) < (ws.length:Int))=True:=anJ (by omega);obtain ⟨b9,dc,hd,dp⟩:=(H.ext ar).dj (k:=.i64) aH;have ep:=dp.jM (i:=i * 4) (n:=4) (by rw [zP];omega);rw [zO ws i aH] at ep;have hlen:=(H.ext ar).len;have w:IntKind.i64.wrap ((i:Int)+1)=((i+1:Nat):Int):=by rw [wrap_i64 (by omega) (by omega)];rfl
     have Ro:=aE ws[i] (anB aH);have ry:ws[i].may=jl ws[i].kind ws[i].num ws[i].text:=rfl;have ky:ws[i].out=ju ws[i].kind ws[i].num ws[i].text:=rfl;have ac3:ws[i].may=true->ws[i].out.length<=200002:=fun q=>Tm q Ro;have I6:ws[i].may=false->hX ws=([],2):=by intro q;unfold hX;rw [anE];rw [an0];intro av;rw [av _ (anB aH)] at q;cases q
     have rC:ws.take (i+1)=ws.take i++[ws[i]]:=(apn aH).symm;have QA:=zO ws i aH;unfold bt.enc at ep QA;generalize ws[i]=wd at *;obtain ⟨k,eN,p,s⟩:=wd;simp only at *;simp only [dR,ba,cW,g0,hlen,H.len,hd,ep,w,↓aa,ae,simprocAttr];refine bq (ajw k eN p s (by omega) ab) ?_;rintro x ad ⟨rfl,fP⟩;have oZ:Ext h ad:=ar.trans fP;have tW:=bB.ext fP;cases hm:jl k eN s with
     | false=>
       simp only [↓aa,ae,simprocAttr];rw [I6 (ry.trans hm)];exact ⟨rfl,oZ⟩
     | true=>
       have qv:=ac3 (ry.trans hm);rw [ky] at qv;have vR:(ws.take (i+1)).all bt.may=true:=by rw [rC,aoI,dx];simp [ry,hm]
       have Ra:k=1->-1073741824<=eN/\eN<=1073741823:=by rintro rfl;rw [E'] at hm;simp only [anu,anM] at hm;exact ⟨hm.1.2,hm.2⟩
       have tail:∀(aC:ah) (v3:V) (n3:Nat) (pre:List UInt8),Ext h aC->cZ h.next aC 1 v3 n3 (ea pre)->n3<=n+1->pre++ju k eN s=Lib.join ((ws.take (i+1)).map bt.out) [32]->
        ∀bn,Ext aC bn->∃v5 b0,jz 1 v3 (.str (ju k eN s)) bn=.val v5 b0/\cZ h.next b0 1 v5 (n3 + (ju k eN s).length) (ea (Lib.join ((ws.take (i+1)).map bt.out) [32]))/\Ext h b0:=by
        intro aC v3 n3 pre oY tX amx mK bn oe;have BG:=oY.trans oe;obtain ⟨v5,b0,ag,av,aJ,bU⟩:=WB (ju k eN s) (tX.ext oe) BG.next (by unfold top;omega)
        refine ⟨v5,b0,ag,?_,BG.me aJ (fun b aj=>tX.base aj)⟩;rw [<-mK,vw];exact av
       have QG:∀aC,Ext h aC->o0 4 (aC.get b9) (dc+i * 4)=some (.agg [.int .i64 k,.int .i64 eN,.int .i64 p,.str s]):=by intro aC oY;obtain ⟨cA,c0,kV,Hb⟩:=(H.ext oY).dj (k:=.i64) aH;rw [hd] at kV;have al:=V.ptr.inj (aoN kV);have nD:=Hb.jM (i:=i * 4) (n:=4) (by rw [zP];omega);rw [QA] at nD;rw [al.1,al.2];exact nD
       by_cases bT:0<i
       . have t1:((0:Int) < (i:Int))=True:=anJ (by omega);obtain ⟨v3,aC,ag,av,aJ,bU,cX⟩:=At (m:=1) (cs:=[.int .u8 32]) (by omega) tW oZ.next (by unfold top;omega) rfl rfl
         have oY:Ext h aC:=oZ.me aJ (fun b aj=>tW.base aj);have mK:(Lib.join ((ws.take i).map bt.out) [32]++[32])++ju k eN s=Lib.join ((ws.take (i+1)).map bt.out) [32]:=by rw [rC,apb,aow,apH,RO,ky,anE (by intro e;have:=congrArg List.length e;rw [anK,aod] at this;simp only [anH] at this;omega),anG]
         have FF:cZ h.next aC 1 v3 (n+1) (ea (Lib.join ((ws.take i).map bt.out) [32]++[32])):=by rw [vw];exact av
         simp only [dR,ba,cW,t1,ag,hd,QG aC oY,↓aa,ae,simprocAttr];refine bq (T5 k eN p s (by omega) Ra aC) ?_;rintro x bn ⟨rfl,oe⟩;obtain ⟨v5,b0,ev,hV,iW⟩:=tail aC v3 (n+1) _ oY FF (by omega) mK bn oe;simp only [dR,ba,cW,ev,w,↓aa,ae,simprocAttr];exact ⟨⟨i+1,v5,_,rfl,rfl,aH,by omega,vR,hV,iW⟩,by omega⟩
       . have t1:((0:Int) < (i:Int))=False:=anA (by omega);have mK:Lib.join ((ws.take i).map bt.out) [32]++ju k eN s=Lib.join ((ws.take (i+1)).map bt.out) [32]:=by
          rw [rC,apb,aow,apH,RO,ky];have:i=0:=by omega
          subst this;rfl
         simp only [dR,ba,cW,t1,hd,QG ad oZ,↓aa,ae,simprocAttr];refine bq (T5 k eN p s (by omega) Ra ad) ?_;rintro x bn ⟨rfl,oe⟩;obtain ⟨v5,b0,ev,hV,iW⟩:=tail ad v n _ oZ tW (by omega) mK bn oe;simp only [dR,ba,cW,ev,w,↓aa,ae,simprocAttr];exact ⟨⟨i+1,v5,_,rfl,rfl,aH,by omega,vR,hV,iW⟩,by omega⟩
   . have kf:i=ws.length:=by omega
     have g0:((i:Int) < (ws.length:Int))=False:=anA (by omega);rw [kf,ao8] at bB dx;have hw:hX ws=(Lib.join (ws.map bt.out) [32],0):=by unfold hX;rw [anL dx]
     have hlen:n=(Lib.join (ws.map bt.out) [32]).length:=by have:=bB.1;rw [oQ,ao4] at this;omega
     rw [hlen] at bB;simp only [dR,ba,cW,g0,(H.ext ar).len,AS bB,↓aa,ae,simprocAttr];rw [hw];exact ⟨rfl,ar⟩
theorem EX {l:List aQ} (aL:e9 l<=1000000000) (h:jU l=0):∀q ∈ l,c6 q/\fx q.k=7:=by
 intro q aq;unfold jU at h
 split at h
 . rename_i c;have:=an0.1 c q aq;simp only [anu,anM] at this;exact ⟨by rw [c6,J_ _ q (anD _) (by have:=pO aq;omega)];exact this.2,this.1⟩
 . cases h
def h7 (l:List aQ):List bt:=if jU l=0 then fT l else []
theorem alu (l:List aQ):(h7 l).length<=10 * e9 l:=by
 have:=CT l;unfold h7
 split
 . exact this
 . simp
theorem Lr (l:List aQ) (aL:e9 l<=100000000) (v:V) (h:ah) (L:ch Any h 5 (l.map aQ.enc) v):
 b8 Tryz.prog 10 [v] h fun x ab=>∃aP,x=.tuple [aP,.int .i64 (jU l)]/\cZ h.next ab 4 aP (h7 l).length (j7 (h7 l))/\Ext h ab:=by
 have aw:=L.len;have hle:=L.le;rw [anK] at aw hle;have tZ:=CT l;refine Xt.z rfl (ck ?_);unfold MB;simp only [↓aa,ae,simprocAttr];refine bq (Zp l (by omega) v h L) ?_;rintro x J ⟨rfl,al⟩;by_cases ao:jU l=0
 rotate_left
 . have jF:=anA ao;simp only [jF,↓aa,ae,simprocAttr];exact ⟨_,rfl,by unfold h7;rw [anE ao];exact ⟨rfl,rfl⟩,al⟩
 have wE:h7 l=fT l:=by unfold h7;rw [anL ao]
 rw [wE,ao];have sB:=EX (by omega) ao;simp only [↓aa,ae,simprocAttr];refine bq (ag8 J) ?_;rintro bk ad ⟨aN,M2⟩;have hm:=M2.lone;obtain ⟨aC,aJ,cj,k2⟩:=f' ad [bk,.cr];have z7:=(al.trans aN).trans cj;have hold:∀q,Old h q->dU ad.next q:=fun q z=>by unfold dU;unfold Old at z;have:=(al.trans aN).next;omega
 have VU:hK (dU ad.next) aC bk:=(hK.mod (Mod.refl (fun _=>False) ad) (fun q _ o=>⟨id,o⟩) M2).ext cj;have GM:ch (dU ad.next) aC 5 (l.map aQ.enc) v:=(L.Co.ext z7).mX hold;have tv:eO [bk] ad.next aC .cr []:=⟨k2.g,⟨rfl,rfl⟩,k2.lt⟩
 simp only [aJ,hm,aw,↓aa,ae,simprocAttr];refine fE (fun r g=>r 5=.ptr (aD ad.next) 0/\r 16=v/\r 17=.int .i64 l.length/\∃(i:Nat) (di:V) (A:List bt),r 18=.int .i64 i/\i<=l.length/\eT [bk] ad.next aC .cr g di A/\A++fT (l.drop i)=fT l) (fun r g=>l.length - (r 18).toN) ?_ ?_
 . exact ⟨by simp only [↓aa,cm,simprocAttr],by simp only [↓aa,cm,simprocAttr],by simp only [↓aa,cm,simprocAttr],0,.cr,[],by simp only [↓aa,cm,simprocAttr]<;>rfl,by omega,fM.refl tv,rfl⟩
 rintro r g ⟨cW,r16,FH,i,hU,A,FI,au,E,dJ⟩;unfold MO;by_cases aH:i<l.length
 . have g0:((i:Int) < (l.length:Int))=True:=anJ (by omega);have dm:=iI aH (by unfold top at hle;omega);rw [anZ aH,fT] at dJ;have ll:=congrArg List.length dJ;simp only [anw,anz] at ll;have fo:l[i] ∈ l:=anB aH;have cx:=pO fo;obtain ⟨bi,zl,hH,dj,X,cz,ld,_,_,_⟩:=aQ.lx (E.dZ tv GM) (k:=.i64) aH;have rM:=ld g (Ext.refl g);have Cq:=cz.one;have wi:=(sB _ fo).1;generalize l[i]=q at *;obtain ⟨g2,av,gl,e'⟩:=je g [.int .i64 0,.int .i64 0,.int .i64 0,.str [],.cr] (bN q hH);have aI:=E.ext gl;have ak:=Tp q.size q (anD _) wi ad.next bk g2 hU hH A aI.w (VU.hB aI tv) (X.ext gl) (by omega)
   simp only [bN] at av e' ak;simp only [cW,r16,FH,FI,g0,dm,dj,rM,av,e'.g,Cq,↓aa,ae,simprocAttr];refine bq ak ?_;rintro x g3 ⟨rfl,dk,F⟩;have cG:=aI.trans F;have f4:=(Ext.refl g3).new (.a_ (ed [[59,59]]) 0 false);have ay:=uk [[59,59]] (by decide) (by simp) g3.next ad.next bk (g3.new (.a_ (ed [[59,59]]) 0 false)) dk (A++q.words) (cG.w.ext f4) (by rw [anw,anz,anH];omega) hm (lT.mk' cG.w _)
   simp only [cW,r16,FH,FI,↓aa,ae,simprocAttr];refine bq ay ?_;rintro x g4 ⟨rfl,gd,kK⟩;have cL:=cG.trans (kK.b' f4);simp only [cW,r16,FH,FI,dm,↓aa,ae,simprocAttr];refine ⟨⟨i+1,gd,_,rfl,aH,cL,?_⟩,by omega⟩;rw [<-dJ];simp only [anG,aow,apH,anO,anP]
 . have g0:((i:Int) < (l.length:Int))=False:=anA (by omega);rw [an5 (by omega),fT,an_] at dJ;subst dJ;have kR:g.get (aD ad.next)=.a_ [bk,hU] 0 false:=E.w.g;have jo:=E.w.lone;simp only [cW,r16,FH,FI,g0,kR,jo,hm.1,↓aa,ae,simprocAttr];have aX:=(al.trans aN).next
   exact ⟨hU,rfl,E.w.o.mono (by omega),z7.me E.m fun q z=>by
    rcases z with rfl | z
    . rw [ee];exact aX
    . exact z.elim⟩
theorem ai5 (l:List aQ) (aL:e9 l<=100000000) (hw:jU l=0->(fT l).length<=10000) (v:V) (h:ah) (L:ch Any h 5 (l.map aQ.enc) v):
 b8 Tryz.prog 8 [v] h fun x ab=>x=.tuple [.str (pN l).1,.int .i64 (pN l).2]/\Ext h ab:=by
 refine YQ.z rfl (ck ?_);unfold oR;simp only [↓aa,ae,simprocAttr];refine bq (Lr l aL v h L) ?_;rintro x J ⟨aP,rfl,S,al⟩;by_cases ao:jU l=0
 rotate_left
 . have jF:=anA ao;have ak:pN l=([],jU l):=by unfold pN;rw [anE ao]
   rw [ak];simp only [jF,↓aa,ae,simprocAttr];exact al
 have wE:h7 l=fT l:=by unfold h7;rw [anL ao]
 rw [wE] at S;have sB:∀q ∈ l,c6 q:=fun q aq=>(EX (by omega) ao q aq).1;have ED:=Vp sB;have ry:=Gh l sB;rw [ao];simp only [↓aa,ae,simprocAttr];refine bq (alH aP (fT l) J S.v (hw ao) fun w wD=>by have:=SM (an0.1 ry w wD);omega) ?_;rintro x ad ⟨rfl,aN⟩;have aI:=al.trans aN;have ak:pN l=if 65536 < (hX (fT l)).1.length then ([],3) else ((hX (fT l)).1,0):=by unfold pN;rw [anL ao,anL (by rw [ED])]
 have a6:(hX (fT l)).2=0:=by rw [ED]
 rw [ak,a6];by_cases aj:65536 < (hX (fT l)).1.length
 . have gr:((65536:Int) < ((hX (fT l)).1.length:Int))=True:=anJ (by omega);rw [anL aj];simp only [gr,↓aa,ae,simprocAttr];exact aI
 . have gr:((65536:Int) < ((hX (fT l)).1.length:Int))=False:=anA (by omega);rw [anE aj];simp only [gr,↓aa,ae,simprocAttr];exact aI
abbrev jx (b:Nat) (h:ah) (aP:V) (ws A:List bt):V->ah->Prop:=ix [] b h aP ws A
def vY (s:List UInt8):Bool:=match s with
 | c::_=>sV c
 | []=>false
theorem agA (s:List UInt8) (ay:hr s=vY s):(kw s).enc=[.int .i64 (if hr s=true then 6 else 7),.int .i64 0,.int .i64 0,.str s]:=by
 rw [ay];cases s with
 | nil=>rfl
 | cons c r=>rfl
theorem eE (s:List UInt8) (ay:hr s=vY s) (b:Nat) (h:ah) (aP:V) (ws:List bt) (W:eO [] b h aP ws) (hlen:ws.length+1<=1000000000):
 b8 Tryz.prog 45 [.ptr (aD b) 0,.str s] h (jx b h aP ws [kw s]):=by
 have al:=(Ext.refl h).new (.a_ (ed iR) 0 false);have bx:=W.ext al;obtain ⟨v,J,bP,a2,a3⟩:=zU bx (kw s) hlen;have g:(h.new (.a_ (ed iR) 0 false)).get (aD b)=.a_ [aP] 0 false:=bx.g;have g1:J.get (aD b)=.a_ [aP] 0 false:=a2;have ol:=W.lone;have jo:=a3.w.lone;rw [agA s ay] at bP;have yw:jx b h aP ws [kw s] (.tuple []) (J.set (aD b) (.a_ [v] 0 false)):=⟨rfl,v,a3.b' al⟩;refine Ya.z rfl (ck ?_);unfold NW;simp only [↓aa,ae,simprocAttr];refine bq (ES h) ?_;rintro x ar ⟨rfl,rfl⟩;generalize bp:h.new (.a_ (ed iR) 0 false)=a6 at *;simp only [↓aa,ae,simprocAttr];have fo:=ud s iR (aD h.next) 20 a6 (by decide) (by rw [<-bp,jD]);refine ey fo ?_;cases ru:hr s with
 | true=>
   rw [ru] at bP;have ao:iR.contains s=true:=ru;simp only [an7] at bP;simp only [ao,g,g1,bP,ol,jo,↓aa,ae,simprocAttr];exact yw
 | false=>
   rw [ru] at bP;have ao:iR.contains s=false:=ru;simp only [anV,an4] at bP;simp only [ao,g,g1,bP,ol,jo,↓aa,ae,simprocAttr];exact yw
theorem nI (k:Int) (s:List UInt8) (b:Nat) (h:ah) (aP:V) (ws:List bt) (W:eO [] b h aP ws) (hlen:ws.length+1<=1000000000):
 b8 Tryz.prog 47 [.ptr (aD b) 0,.int .i64 k,.str s] h (jx b h aP ws [dK k s]):=by
 obtain ⟨v,J,bP,a2,a3⟩:=zU W (dK k s) hlen;have g:h.get (aD b)=.a_ [aP] 0 false:=W.g;have g1:J.get (aD b)=.a_ [aP] 0 false:=a2;have ol:=W.lone;have jo:=a3.w.lone;simp only [dK,bt.enc] at bP;refine Yc.z rfl (ck ?_);unfold NZ;simp only [g,g1,bP,ol,jo,↓aa,ae,simprocAttr];exact ⟨rfl,_,a3⟩
theorem Uj (n:Int) (b:Nat) (h:ah) (aP:V) (ws:List bt) (W:eO [] b h aP ws) (hlen:ws.length+1<=1000000000):
 b8 Tryz.prog 104 [.ptr (aD b) 0,.int .i64 n] h (jx b h aP ws [ox n]):=by
 obtain ⟨v,J,bP,a2,a3⟩:=zU W (ox n) hlen;have g:h.get (aD b)=.a_ [aP] 0 false:=W.g;have g1:J.get (aD b)=.a_ [aP] 0 false:=a2;have ol:=W.lone;have jo:=a3.w.lone;simp only [ox,bt.enc] at bP;refine Xn.z rfl (ck ?_);unfold MH;simp only [g,g1,bP,ol,jo,↓aa,ae,simprocAttr];exact ⟨rfl,_,a3⟩
theorem TX (n:Int) (b:Nat) (h:ah) (aP:V) (ws:List bt) (W:eO [] b h aP ws) (hlen:ws.length+1<=1000000000):
 b8 Tryz.prog 105 [.ptr (aD b) 0,.int .i64 n] h (jx b h aP ws [oD n]):=by
 refine Xo.z rfl (ck ?_);unfold MI;by_cases aX:n=1
 . have l5:=anJ aX;rw [oD,anL aX];simp only [l5,↓aa,ae,simprocAttr];refine bq (eE _ (by decide) b h aP ws W hlen) ?_;rintro x J ⟨rfl,jk,E⟩;simp only [↓aa,ae,simprocAttr];exact ⟨rfl,jk,E⟩
 . have l5:=anA aX;rw [oD,anE aX];simp only [l5,↓aa,ae,simprocAttr];refine bq (eE _ (by decide) b h aP ws W hlen) ?_;rintro x J ⟨rfl,jk,E⟩;simp only [↓aa,ae,simprocAttr];exact ⟨rfl,jk,E⟩
def FW (k:Int) (s:List UInt8) (len:Nat):Int:=
 if k=35\/k=29\/k=30\/k=27\/k=15\/k=4 then 1 else if k=31\/k=3 then 2 else if k=37 then 3 else if k=26 then 4 else if k=38 then dQ s else
 if k=39\/k=36 then 8 else if k=28\/k=34 then 9 else if k=16 then (if len=1 then 2 else 3) else if k=25 then (if len=1 then 9 else 10) else 10
def aQ.lJ (p:aQ):Int:=FW p.k p.s p.l.length
theorem aiH (s:List UInt8):dQ s=if ([[61],[60],[60,61]]:List (List UInt8)).contains s=true then 5 else if ([[43],[45]]:List (List UInt8)).contains s=true then 6 else 7:=by unfold dQ;simp only [List.contains_cons,List.contains_nil,Bool.or_false,aoR,ao5]
theorem Uh {F:aU->Prop} (p:aQ) (w:V) (h:ah) (X:cg F h p.enc (bN p w)):b8 Tryz.prog 102 [.agg (bN p w)] h fun x ab=>x=.int .i64 p.lJ/\Ext h ab:=by
 have cz:=jA X;have ol:=cz.one;have aw:=cz.len;rw [anK] at aw;obtain ⟨J,ag,al,aG⟩:=f' h (bN p w);simp only [bN] at ag aG ⊢;refine Xl.z rfl (ck ?_);unfold MF;unfold aQ.lJ FW;by_cases bX:p.k=35\/p.k=29\/p.k=30\/p.k=27\/p.k=15\/p.k=4
 . rw [anL bX];rcases bX with e | e | e | e | e | e<;>(rw [e] at ag aG;simp only [ag,aG.g,ol,e,Int.reduceEq,apo,apk,↓aa,ae,simprocAttr];exact al)
 rw [anE bX];have nJ:=anA (show ¬p.k=35 by omega);have qX:=anA (show ¬p.k=29 by omega);have qY:=anA (show ¬p.k=30 by omega);have z27:=anA (show ¬p.k=27 by omega);have u3:=anA (show ¬p.k=15 by omega);have z4:=anA (show ¬p.k=4 by omega);by_cases b_:p.k=31\/p.k=3
 . rw [anL b_];rcases b_ with e | e<;>(rw [e] at ag aG;simp only [ag,aG.g,ol,e,Int.reduceEq,apo,apk,↓aa,ae,simprocAttr];exact al)
 rw [anE b_];have z31:=anA (show ¬p.k=31 by omega);have z3:=anA (show ¬p.k=3 by omega);by_cases dY:p.k=37
 . rw [anL dY];simp only [ag,aG.g,ol,nJ,qX,qY,z27,u3,z4,z31,z3,anJ dY,↓aa,ae,simprocAttr];exact al
 rw [anE dY];have z37:=anA dY;by_cases eQ:p.k=26
 . rw [anL eQ];simp only [ag,aG.g,ol,nJ,qX,qY,z27,u3,z4,z31,z3,z37,anJ eQ,↓aa,ae,simprocAttr];exact al
 rw [anE eQ];have z26:=anA eQ;by_cases fz:p.k=38
 . rw [anL fz,aiH];have aN:=(Ext.refl J).new (.a_ (ed [[61],[60],[60,61]]) 0 false);have au:=ud p.s [[61],[60],[60,61]] (aD J.next) 3 (J.new (.a_ (ed [[61],[60],[60,61]]) 0 false)) (by decide) (jD _);have e':=aG.ext aN;simp only [ag,aG.g,ol,nJ,qX,qY,z27,u3,z4,z31,z3,z37,z26,anJ fz,↓aa,ae,simprocAttr];refine ey au ?_;cases ao:([[61],[60],[60,61]]:List (List UInt8)).contains p.s with
   | true=>
     simp only [↓aa,ae,simprocAttr];exact al.trans aN
   | false=>
     have nq:(J.new (.a_ [.str [61],.str [60],.str [60,61]] 0 false)).get (aD h.next)=.a_ [.int .i64 p.k,.int .i64 p.n,.int .i64 p.a,.str p.s,w] 0 false:=e'.g;generalize yx:J.new (.a_ [.str [61],.str [60],.str [60,61]] 0 false)=ad at *;have lW:Ext J ad:=by rw [<-yx];exact (Ext.refl J).new _
     have cj:=(Ext.refl ad).new (.a_ (ed [[43],[45]]) 0 false);have gR:=ud p.s [[43],[45]] (aD ad.next) 2 (ad.new (.a_ (ed [[43],[45]]) 0 false)) (by decide) (jD _);simp only [yx,nq,↓aa,ae,simprocAttr];refine ey gR ?_;cases amn:([[43],[45]]:List (List UInt8)).contains p.s with
     | true=>
       simp only [↓aa,ae,simprocAttr];exact (al.trans lW).trans cj
     | false=>
       simp only [↓aa,ae,simprocAttr];exact (al.trans lW).trans cj
 rw [anE fz];have pZ:=anA fz;by_cases il:p.k=39\/p.k=36
 . rw [anL il];rcases il with e | e<;>(rw [e] at ag aG;simp only [ag,aG.g,ol,e,Int.reduceEq,apo,apk,↓aa,ae,simprocAttr];exact al)
 rw [anE il];have z39:=anA (show ¬p.k=39 by omega);have z36:=anA (show ¬p.k=36 by omega);by_cases hS:p.k=28\/p.k=34
 . rw [anL hS];rcases hS with e | e<;>(rw [e] at ag aG;simp only [ag,aG.g,ol,e,Int.reduceEq,apo,apk,↓aa,ae,simprocAttr];exact al)
 rw [anE hS];have z28:=anA (show ¬p.k=28 by omega);have z34:=anA (show ¬p.k=34 by omega);by_cases BS:p.k=16
 . rw [anL BS];by_cases de:p.l.length=1
   . have kj:((p.l.length:Int)=1)=True:=anJ (by omega);rw [anL de];simp only [ag,aG.g,ol,aw,kj,nJ,qX,qY,z27,u3,z4,z31,z3,z37,z26,pZ,z39,z36,z28,z34,anJ BS,↓aa,ae,simprocAttr];exact al
   . have kj:((p.l.length:Int)=1)=False:=anA (by omega);rw [anE de];simp only [ag,aG.g,ol,aw,kj,nJ,qX,qY,z27,u3,z4,z31,z3,z37,z26,pZ,z39,z36,z28,z34,anJ BS,↓aa,ae,simprocAttr];exact al
 rw [anE BS];have Lv:=anA BS;by_cases BT:p.k=25
 . rw [anL BT];by_cases de:p.l.length=1
   . have kj:((p.l.length:Int)=1)=True:=anJ (by omega);rw [anL de];simp only [ag,aG.g,ol,aw,kj,nJ,qX,qY,z27,u3,z4,z31,z3,z37,z26,pZ,z39,z36,z28,z34,Lv,anJ BT,↓aa,ae,simprocAttr];exact al
   . have kj:((p.l.length:Int)=1)=False:=anA (by omega);rw [anE de];simp only [ag,aG.g,ol,aw,kj,nJ,qX,qY,z27,u3,z4,z31,z3,z37,z26,pZ,z39,z36,z28,z34,Lv,anJ BT,↓aa,ae,simprocAttr];exact al
 rw [anE BT];have z25:=anA BT;simp only [ag,aG.g,ol,nJ,qX,qY,z27,u3,z4,z31,z3,z37,z26,pZ,z39,z36,z28,z34,Lv,z25,↓aa,ae,simprocAttr];exact al
theorem Sp {p:aQ} (an:c6 p) (ay:p.k<45) {least:Int} (hle:least<=10) (aC:least<=3\/20<=p.k):(p.lJ<least)=(p.kC<least/\p.k≠32/\p.k≠33):=by
 have iO:p.k=16\/p.k=25->p.l.length<=1:=fun z=>B5 an (by omega);unfold aQ.lJ aQ.kC FW E0;apply propext;have IQ:=rN an;have:=J1 an;rcases this with e | e | e | e | e | e | e | e | e | e | e | e | e | e | e | e | e | e | e | e | e | e | e | e | e | e | e | e | e | e | e | e | e | e | e | e | e | e<;>rw [e] at aC iO ⊢<;>simp [uv,sT]
 all_goals first
  | omega
  | (have ar:=iO (by decide);by_cases de:p.l.length=1<;>simp [de]<;>omega)
  | (by_cases de:p.l.length=0<;>by_cases kX:p.l.length=1<;>simp [de,kX]<;>omega)
def kr (n:Nat):Prop:=∀(p:aQ),p.size<=n->c6 p->p.k<45->∀(b:Nat) (h:ah) (aP w:V) (ws:List bt),eO [] b h aP ws->cg (dU b) h p.enc (bN p w)->ws.length+p.words.length<=1000000000->
 b8 Tryz.prog 49 [.ptr (aD b) 0,.agg (bN p w)] h (jx b h aP ws p.words)
def mn (B:Bool) (p:aQ):List bt:=if B=true then kw [40]::(p.words++[kw [41]]) else p.words
theorem FQ {n:Nat} (bR:kr n) (p:aQ) (aL:p.size<=n) (an:c6 p) (ay:p.k<45) (least:Int) (t:Bool) (b:Nat) (h:ah) (aP w:V) (ws:List bt) (W:eO [] b h aP ws) (X:cg (dU b) h p.enc (bN p w))
 (aM:ws.length + (mn (t||decide (p.lJ<least)) p).length<=1000000000):b8 Tryz.prog 82 [.ptr (aD b) 0,.agg (bN p w),.int .i64 least,.bool t] h (jx b h aP ws (mn (t||decide (p.lJ<least)) p)):=by
 have ol:=(jA X).one;obtain ⟨J,ag,al,aG⟩:=f' h (bN p w);have bx:=W.ext al;have aY:eT [] b J aP J aP ws:=fM.refl bx;have sC:=Uh p w J (X.ext al);simp only [bN] at ag aG sC ⊢;refine YI.z rfl (ck ?_);unfold Oz;cases t with
 | true=>
   rw [Bool.true_or] at aM ⊢;have hw:mn true p=kw [40]::(p.words++[kw [41]]):=rfl;rw [hw] at aM ⊢;simp only [anz,anw,anH] at aM;simp only [ag,aG.g,ol,↓aa,ae,simprocAttr];refine bq (eE [40] (by decide) b J aP ws aY.w (by omega)) ?_;rintro x aC ⟨rfl,dk,u_⟩;have bL:=aY.trans u_;have cl:=jd W aG bL;have ak:=bR p aL an ay b aC dk w (ws++[kw [40]]) bL.w (bL.cs bx (X.ext al)) (by rw [anw,anz,anH];omega);simp only [bN] at ak;simp only [cl.g,ol,↓aa,ae,simprocAttr];refine bq ak ?_;rintro x bn ⟨rfl,gd,kK⟩;have cG:=bL.trans kK;simp only [↓aa,ae,simprocAttr];refine bq (eE [41] (by decide) b bn gd _ cG.w (by rw [anw,anw,anz,anH];omega)) ?_;rintro x b0 ⟨rfl,gT,kL⟩;have cL:=(cG.trans kL).b' al;simp only [anG,anO,anP] at cL;simp only [↓aa,ae,simprocAttr];exact ⟨rfl,gT,cL⟩
 | false=>
   rw [apd] at aM ⊢;simp only [ag,aG.g,ol,↓aa,ae,simprocAttr];refine bq sC ?_;rintro x ad ⟨rfl,aN⟩;have aI:=aY.ext aN;have br:=jd W aG aI;by_cases ao:p.lJ<least
   . have jF:=anJ ao;rw [aoc ao] at aM ⊢;have hw:mn true p=kw [40]::(p.words++[kw [41]]):=rfl;rw [hw] at aM ⊢;simp only [anz,anw,anH] at aM;simp only [jF,↓aa,ae,simprocAttr];refine bq (eE [40] (by decide) b ad aP ws aI.w (by omega)) ?_;rintro x aC ⟨rfl,dk,u_⟩;have bL:=aI.trans u_;have cl:=jd W aG bL;have ak:=bR p aL an ay b aC dk w (ws++[kw [40]]) bL.w (bL.cs bx (X.ext al)) (by rw [anw,anz,anH];omega);simp only [bN] at ak;simp only [cl.g,ol,↓aa,ae,simprocAttr];refine bq ak ?_;rintro x bn ⟨rfl,gd,kK⟩;have cG:=bL.trans kK;simp only [↓aa,ae,simprocAttr];refine bq (eE [41] (by decide) b bn gd _ cG.w (by rw [anw,anw,anz,anH];omega)) ?_;rintro x b0 ⟨rfl,gT,kL⟩;have cL:=(cG.trans kL).b' al;simp only [anG,anO,anP] at cL;simp only [↓aa,ae,simprocAttr];exact ⟨rfl,gT,cL⟩
   . have jF:=anA ao;rw [aoe ao] at aM ⊢;have hw:mn false p=p.words:=rfl;rw [hw] at aM ⊢;have ak:=bR p aL an ay b ad aP w ws aI.w (aI.cs bx (X.ext al)) aM;simp only [bN] at ak;simp only [jF,br.g,ol,↓aa,ae,simprocAttr];refine bq ak ?_;rintro x aC ⟨rfl,dk,u_⟩;simp only [↓aa,ae,simprocAttr];exact ⟨rfl,dk,(aI.trans u_).b' al⟩
theorem KQ {n:Nat} (bR:kr n) (p:aQ) (aL:p.size<=n) (an:c6 p) (ay:p.k<45) (least:Int) (hle:least<=10) (aC:least<=3\/20<=p.k) (b:Nat) (h:ah) (aP w:V) (ws:List bt) (W:eO [] b h aP ws) (X:cg (dU b) h p.enc (bN p w))
 (aM:ws.length + (cO least (p,p.words)).length<=1000000000):b8 Tryz.prog 82 [.ptr (aD b) 0,.agg (bN p w),.int .i64 least,.bool false] h (jx b h aP ws (cO least (p,p.words))):=by
 have hw:cO least (p,p.words)=mn (false||decide (p.lJ<least)) p:=by unfold cO jI mn;simp only [apd,anM,Sp an ay hle aC]
 rw [hw] at aM ⊢;exact FQ bR p aL an ay least false b h aP w ws W X aM
theorem CE {n:Nat} (bR:kr n) (l:List aQ) (dF:∀q ∈ l,q.size<=n/\c6 q/\q.k<45) (v:V) (sep:List UInt8) (yO:hr sep=vY sep) (least:Int) (aC:least<=3) (b:Nat) (h:ah) (aP:V) (ws:List bt) (W:eO [] b h aP ws) (L:ch (dU b) h 5 (l.map aQ.enc) v)
 (aM:ws.length + (eD (cO least) sep (a' l)).length<=1000000000):b8 Tryz.prog 46 [.ptr (aD b) 0,v,.str sep,.int .i64 least] h (jx b h aP ws (eD (cO least) sep (a' l))):=by
 have aw:=L.len;have hle:=L.le;rw [anK] at aw hle;refine Yb.z rfl (ck ?_);unfold NX;simp only [↓aa,ae,simprocAttr];refine fE (fun r ab=>r 0=.ptr (aD b) 0/\r 1=v/\r 2=.str sep/\r 3=.int .i64 least/\∃(i:Nat) (di:V) (A:List bt),r 8=.int .i64 i/\i<=l.length/\eT [] b h aP ab di (ws++A)/\A++qU (cO least) sep l i=eD (cO least) sep (a' l)) (fun r ab=>l.length - (r 8).toN) ?_ ?_
 . exact ⟨by simp only [↓aa,cm,simprocAttr],by simp only [↓aa,cm,simprocAttr],by simp only [↓aa,cm,simprocAttr],by simp only [↓aa,cm,simprocAttr],0,aP,[],by simp only [↓aa,cm,simprocAttr]<;>rfl,by omega,by rw [an_];exact fM.refl W,rfl⟩
 rintro r J ⟨ba,bM,dw,bY,i,jk,A,dS,au,E,dJ⟩;unfold NY;by_cases aH:i<l.length
 . have g0:((i:Int) < (l.length:Int))=True:=anJ (by omega);have dm:=iI aH (by unfold top at hle;omega);rw [zL (cO least) sep l i aH] at dJ;have aq:=dF _ (anB aH);by_cases a6:i=0
   . have iy:((0:Int) < (i:Int))=False:=anA (by omega);rw [anL a6,anP,<-anG] at dJ;have hlen:=congrArg List.length dJ;simp only [anw] at hlen;obtain ⟨bi,zl,hH,dj,X,cz,ld,_,_,_⟩:=aQ.lx (E.dZ W L) (k:=.i64) aH;have rM:=ld J (Ext.refl J);have w2:=cz.one;have ao:=KQ bR l[i] aq.1 aq.2.1 aq.2.2 least (by omega) (.inl aC) b J jk hH (ws++A) E.w X (by rw [anw];omega);simp only [bN] at ao;simp only [ba,bM,dw,bY,dS,aw,g0,dm,dj,rM,w2,iy,↓aa,ae,simprocAttr];refine bq ao ?_;rintro x aC ⟨rfl,dk,F⟩;have bL:=E.trans F;rw [anG] at bL;simp only [ba,bM,dw,bY,dS,dm,↓aa,ae,simprocAttr];exact ⟨⟨i+1,dk,_,rfl,aH,bL,dJ⟩,by omega⟩
   . have iy:((0:Int) < (i:Int))=True:=anJ (by omega);rw [anE a6,<-anG,<-anG] at dJ;have hlen:=congrArg List.length dJ;simp only [anw,anz,anH] at hlen;simp only [ba,bM,dw,bY,dS,aw,g0,dm,iy,↓aa,ae,simprocAttr];refine bq (eE sep yO b J jk (ws++A) E.w (by rw [anw];omega)) ?_;rintro x aC ⟨rfl,dk,F⟩;have bL:=E.trans F;obtain ⟨bi,zl,hH,dj,X,cz,ld,_,_,_⟩:=aQ.lx (bL.dZ W L) (k:=.i64) aH;have rM:=ld aC (Ext.refl aC);have w2:=cz.one;have ao:=KQ bR l[i] aq.1 aq.2.1 aq.2.2 least (by omega) (.inl (by assumption)) b aC dk hH _ bL.w X (by rw [anw,anw,anz,anH];omega);simp only [bN] at ao;simp only [ba,bM,dw,bY,dS,dj,rM,w2,↓aa,ae,simprocAttr];refine bq ao ?_;rintro x bn ⟨rfl,gd,kK⟩;have cG:=bL.trans kK;rw [anG,anG] at cG;simp only [ba,bM,dw,bY,dS,dm,↓aa,ae,simprocAttr];exact ⟨⟨i+1,gd,_,rfl,aH,cG,by rw [<-dJ];simp only [anG]⟩,by omega⟩
 . have g0:((i:Int) < (l.length:Int))=False:=anA (by omega);rw [zK (cO least) sep l i (by omega),an_] at dJ;rw [dJ] at E;simp only [ba,bM,dw,bY,dS,aw,g0,↓aa,ae,simprocAttr];exact ⟨rfl,jk,E⟩
theorem BZ {p:aQ} (an:c6 p) {K:Int} (e:p.k=K) {q:aQ} (aq:q ∈ p.l):∃(i:Nat) (au:i<p.l.length) (g:Int),p.l[i]=q/\(cQ K p.n p.l).1[i]? =some g/\iY q.k g=true:=by obtain ⟨i,au,rfl⟩:=apE aq;obtain ⟨g,a,b,_⟩:=uo an i au;rw [e] at a;exact ⟨i,au,g,rfl,a,b⟩
theorem Ed {k:Int} (h:iY k 3=true):20<=k/\k<45:=by
 unfold iY fx at h;rw [anE (by decide)] at h;simp only [anM] at h
 repeat' split at h
 all_goals omega
theorem Qh {k:Int} (h:iY k 2=true):10<=k/\k<20:=by
 unfold iY fx at h;rw [anE (by decide)] at h;simp only [anM] at h
 repeat' split at h
 all_goals omega
theorem abA {k:Int} (h:iY k 1=true):1<=k/\k<10:=by
 unfold iY fx at h;rw [anE (by decide)] at h;simp only [anM] at h
 repeat' split at h
 all_goals omega
theorem abB {k:Int} (h:iY k 4=true):k=45:=by
 unfold iY fx at h;rw [anE (by decide)] at h;simp only [anM] at h
 repeat' split at h
 all_goals omega
theorem Qi {k:Int} (h:iY k 5=true):k=46:=by
 unfold iY fx at h;rw [anE (by decide)] at h;simp only [anM] at h
 repeat' split at h
 all_goals omega
theorem abC {k:Int} (h:iY k 6=true):k=47:=by
 unfold iY fx at h;rw [anE (by decide)] at h;simp only [anM] at h
 repeat' split at h
 all_goals omega
theorem abD {k:Int} (h:iY k 8=true):k=1:=by unfold iY at h;rw [anL rfl] at h;exact of_decide_eq_true h
theorem uP {n i:Nat} {a g:Int} (h:(List.replicate n a)[i]? =some g):g=a:=by have:=aob h;rw [List.mem_replicate] at this;exact this.2
theorem kh {p:aQ} (an:c6 p) (ay:p.k=25\/p.k=26\/p.k=28\/p.k=31\/p.k=34\/p.k=35\/p.k=36\/p.k=37\/p.k=38\/p.k=39\/p.k=46) {q:aQ} (aq:q ∈ p.l):20<=q.k/\q.k<45:=by
 rcases ay with e | e | e | e | e | e | e | e | e | e | e
 all_goals
  obtain ⟨i,au,g,_,a,b⟩:=BZ an e aq;obtain rfl:=uP (a:=3) (by simpa only [cQ,Int.reduceEq,apm,apA,apO,apP,apR,an7,an4] using a);exact Ed b
theorem BU {p:aQ} (an:c6 p) (ay:p.k=27\/p.k=29\/p.k=45\/p.k=52) {q:aQ} (aq:q ∈ p.l):10<=q.k/\q.k<45:=by
 rcases ay with e | e | e | e
 all_goals
  obtain ⟨i,au,g,_,a,b⟩:=BZ an e aq;have hm:g=2\/g=3:=by have:=aob a;simp only [cQ,Int.reduceEq,apm,apA,apO,apP,apR,an7,an4,an2,List.not_mem_nil] at this;omega
  rcases hm with rfl | rfl
  . have:=Qh b;omega
  . have:=Ed b;omega
theorem yY {p:aQ} (an:c6 p) (ay:p.k=2\/p.k=3\/p.k=4\/p.k=47\/p.k=51) {q:aQ} (aq:q ∈ p.l):1<=q.k/\q.k<10:=by
 rcases ay with e | e | e | e | e
 all_goals
  obtain ⟨i,au,g,_,a,b⟩:=BZ an e aq;obtain rfl:=uP (a:=1) (by simpa only [cQ,Int.reduceEq,apm,apA,apO,apP,apR,an7,an4] using a);exact abA b
theorem RS {p:aQ} (an:c6 p) (ay:p.k=15\/p.k=16) {q:aQ} (aq:q ∈ p.l):10<=q.k/\q.k<20:=by
 rcases ay with e | e
 all_goals
  obtain ⟨i,au,g,_,a,b⟩:=BZ an e aq;obtain rfl:=uP (a:=2) (by simpa only [cQ,Int.reduceEq,apm,apA,apO,apP,apR,an7,an4] using a);exact Qh b
theorem qO {b:Nat} {J bI:ah} {jN:V} {h8:List bt} {n:Nat} (bR:kr n) {p:aQ} (aL:p.size<=n+1) (an:c6 p) (ei:∀q ∈ p.l,q.k<45) {i:Nat} (au:i<p.l.length) (least:Int) (hle:least<=10) (aC:least<=3\/20<=p.l[i].k) {v:V} (W:eO [] b bI jN h8) (X:cg (dU b) bI p.l[i].enc (bN p.l[i] v))
 (aM:h8.length + (cO least (p.l[i],p.l[i].words)).length<=1000000000):b8 Tryz.prog 82 [.ptr (aD b) 0,.agg (bN p.l[i] v),.int .i64 least,.bool false] bI (jx b bI jN h8 (cO least (p.l[i],p.l[i].words))):=
 KQ bR _ (by have:=h4 (anB au);omega) (jj an (anB au)) (ei _ (anB au)) least hle aC b bI jN v h8 W X aM
theorem rW {b:Nat} {bI:ah} {jN:V} {h8:List bt} {n:Nat} (bR:kr n) {p:aQ} (aL:p.size<=n+1) (an:c6 p) {i:Nat} (au:i<p.l.length) (abK:p.l[i].k<45) {v:V} (W:eO [] b bI jN h8) (X:cg (dU b) bI p.l[i].enc (bN p.l[i] v))
 (aM:h8.length+p.l[i].words.length<=1000000000):b8 Tryz.prog 49 [.ptr (aD b) 0,.agg (bN p.l[i] v)] bI (jx b bI jN h8 p.l[i].words):=
 bR _ (by have:=h4 (anB au);omega) (jj an (anB au)) abK b bI jN v h8 W X aM
theorem uS {n:Nat} (bR:kr n) (p:aQ) (aL:p.size<=n+1) (an:c6 p) (e6:2<=p.l.length) (ei:∀q ∈ p.l,q.k<45) (left:Int) (s:List UInt8) (BC:hr s=vY s) (right:Int) (acK:left<=10) (amC:right<=10) (ao:∀q ∈ p.l,(left<=3/\right<=3)\/20<=q.k) (b:Nat) (h:ah) (aP w:V) (ws:List bt) (W:eO [] b h aP ws) (X:cg (dU b) h p.enc (bN p w))
 (aM:ws.length + (ek (a' p.l) left s right).length<=1000000000):b8 Tryz.prog 103 [.ptr (aD b) 0,.agg (bN p w),.int .i64 left,.str s,.int .i64 right] h (jx b h aP ws (ek (a' p.l) left s right)):=by
 have cz:=jA X;have ol:=cz.one;have dF:∀q ∈ p.l,q.size<=n/\c6 q:=fun q aq=>⟨by have:=h4 aq;omega,jj an aq⟩;obtain ⟨J,ag,al,aG⟩:=f' h (bN p w);have bx:=W.ext al;have eG:=X.ext al;have b6:=cz.ext al;have bK:=b6.len;have hle:=b6.le;rw [anK] at bK hle;have aY:eT [] b J aP J aP ws:=fM.refl bx;refine Xm.z rfl (ck ?_);unfold MG;simp only [bN] at ag aG ⊢;have z:=And.intro ol bK;have bT:0<p.l.length:=by omega
 have dd:1<p.l.length:=by omega
 have hw:ek (a' p.l) left s right=cO left (p.l[0],p.l[0].words)++([kw s]++(cO right (p.l[1],p.l[1].words))):=by unfold ek;rw [eU _ _ _ bT,eU _ _ _ dd];rfl
 rw [hw] at aM ⊢;simp only [aT] at aM;obtain ⟨ko,fc,v1,jy,hn⟩:=eM aY bx b6 0 0 rfl bT;simp only [ag,aG.g,z,hn,↓aa,ae,simprocAttr];refine bS (qO (J:=J) bR aL an ei bT left (by omega) ((ao _ (anB bT)).imp And.left id) aY.w jy (by first | omega | (simp only [aT];omega))) aY W aG fun ad b7 aI br=>?_;simp only [br.g,z,↓aa,ae,simprocAttr];refine bS (eE s BC _ _ _ _ aI.w (by simp only [aT];omega)) aI W aG fun aC dk bL cl=>?_;obtain ⟨pV,y3,v3,oM,nf⟩:=eM bL bx b6 1 1 rfl dd;simp only [cl.g,z,nf,↓aa,ae,simprocAttr];refine bS (qO (J:=J) bR aL an ei dd right (by omega) ((ao _ (anB dd)).imp And.right id) bL.w oM (by simp only [aT];omega)) bL W aG fun bn gd cG fI=>?_;simp only [fI.g,z,↓aa,ae,simprocAttr];exact ⟨rfl,_,cw (cG.b' al) (by simp)⟩
theorem TZ {n:Nat} (bR:kr n) (p:aQ) (aL:p.size<=n+1) (an:c6 p) (hlen:p.l.length<=1) (ei:∀q ∈ p.l,q.k<45) (least:Int) (acK:least<=10) (ao:∀q ∈ p.l,least<=3\/20<=q.k) (b:Nat) (h:ah) (aP w:V) (ws:List bt) (W:eO [] b h aP ws) (X:cg (dU b) h p.enc (bN p w))
 (aM:ws.length + (dK 4 p.s::eY (cO least) (a' p.l)).length<=1000000000):b8 Tryz.prog 106 [.ptr (aD b) 0,.agg (bN p w),.int .i64 least] h (jx b h aP ws (dK 4 p.s::eY (cO least) (a' p.l))):=by
 have cz:=jA X;have ol:=cz.one;have dF:∀q ∈ p.l,q.size<=n/\c6 q:=fun q aq=>⟨by have:=h4 aq;omega,jj an aq⟩;obtain ⟨J,ag,al,aG⟩:=f' h (bN p w);have bx:=W.ext al;have eG:=X.ext al;have b6:=cz.ext al;have bK:=b6.len;have hle:=b6.le;rw [anK] at bK hle;have aY:eT [] b J aP J aP ws:=fM.refl bx;refine Xp.z rfl (ck ?_);unfold MJ;simp only [bN] at ag aG ⊢;by_cases de:p.l.length=1
 . have z:=And.intro ol bK;have bf:((p.l.length:Int)=1)=True:=anJ (by omega);have bT:0<p.l.length:=by omega
   have mI:a' p.l=[(p.l[0],p.l[0].words)]:=by rw [rU];match p.l,de,bT with | [a],_,_=>rfl
   have hw:dK 4 p.s::eY (cO least) (a' p.l)=[dK 4 p.s]++(cO least (p.l[0],p.l[0].words)):=by simp [z,bf,mI,eY,cE,cF,cD,eU _ _ _ bT,dp]
   rw [hw] at aM ⊢
   try simp only [aT] at aM
   simp only [ag,aG.g,z,bf,↓aa,ae,simprocAttr];refine bS (nI 4 p.s _ _ _ _ aY.w (by first | omega | (simp only [aT];omega))) aY W aG fun ad b7 aI br=>?_;obtain ⟨hz,fA,v2,gk,fv⟩:=eM aI bx b6 0 0 rfl bT;simp only [br.g,z,bf,fv,↓aa,ae,simprocAttr];refine bS (qO (J:=J) bR aL an ei bT least (by omega) (ao _ (anB bT)) aI.w gk (by simp only [aT];omega)) aI W aG fun aC dk bL cl=>?_;simp only [cl.g,z,bf,↓aa,ae,simprocAttr];exact ⟨rfl,_,cw (bL.b' al) (by simp)⟩
 . have z:=And.intro ol bK;have bf:((p.l.length:Int)=1)=False:=anA (by omega);have mI:a' p.l=[]:=by rw [aog (show p.l.length=0 by omega)];rfl
   have hw:dK 4 p.s::eY (cO least) (a' p.l)=[dK 4 p.s]:=by simp [z,bf,mI,eY,cE,cF,cD,dp]
   rw [hw] at aM ⊢
   try simp only [aT] at aM
   simp only [ag,aG.g,z,bf,↓aa,ae,simprocAttr];refine bS (nI 4 p.s _ _ _ _ aY.w (by first | omega | (simp only [aT];omega))) aY W aG fun ad b7 aI br=>?_;simp only [br.g,z,bf,↓aa,ae,simprocAttr];exact ⟨rfl,_,cw (aI.b' al) (by simp)⟩
theorem y5 {k c:Int} (e:k=c):(k=1)=(c=1)/\(k=4)=(c=4)/\(k=3)=(c=3):=by simp only [e,apl]
theorem wO {k c:Int} (e:k=c):(k=10)=(c=10)/\(k=11)=(c=11)/\(k=12)=(c=12)/\(k=13)=(c=13)/\(k=14)=(c=14)/\(k=15)=(c=15):=by simp only [e,apl]
theorem ajX {n:Nat} (bR:kr n) (p:aQ) (aL:p.size<=n+1) (an:c6 p) (ay:p.k<10) (b:Nat) (h:ah) (aP w:V) (ws:List bt) (W:eO [] b h aP ws) (X:cg (dU b) h p.enc (bN p w))
 (aM:ws.length + (hh p.k p.s (a' p.l)).length<=1000000000):b8 Tryz.prog 83 [.ptr (aD b) 0,.agg (bN p w)] h (jx b h aP ws (hh p.k p.s (a' p.l))):=by
 have cz:=jA X;have ol:=cz.one;have dF:∀q ∈ p.l,q.size<=n/\c6 q:=fun q aq=>⟨by have:=h4 aq;omega,jj an aq⟩;obtain ⟨J,ag,al,aG⟩:=f' h (bN p w);have bx:=W.ext al;have eG:=X.ext al;have b6:=cz.ext al;have bK:=b6.len;have hle:=b6.le;rw [anK] at bK hle;have aY:eT [] b J aP J aP ws:=fM.refl bx;refine YJ.z rfl (ck ?_);unfold OA;simp only [bN] at ag aG ⊢;rcases (show p.k=1\/p.k=4\/p.k=3\/p.k=2 by have:=rN an;omega) with e | e | e | e
 . have z:=And.intro ol (And.intro bK (y5 e));have hw:hh p.k p.s (a' p.l)=[dK 5 p.s]:=by simp [hh,z,cE,cF,cD,dp]
   rw [hw] at aM ⊢
   try simp only [aT] at aM
   simp only [ag,aG.g,z,↓aa,ae,simprocAttr];refine bS (nI 5 p.s _ _ _ _ aY.w (by first | omega | (simp only [aT];omega))) aY W aG fun ad b7 aI br=>?_;simp only [br.g,z,↓aa,ae,simprocAttr];exact ⟨rfl,_,cw (aI.b' al) (by simp)⟩
 . have z:=And.intro ol (And.intro bK (y5 e));have e6:2<=p.l.length:=by have:=iS an (by omega);omega
   have ei:∀q ∈ p.l,q.k<45:=fun q aq=>by have:=yY an (by omega) aq;omega
   have hw:hh p.k p.s (a' p.l)=ek (a' p.l) 2 [45,62] 1:=by simp [hh,z,cE,cF,cD,dp]
   rw [hw] at aM ⊢
   try simp only [aT] at aM
   simp only [ag,aG.g,z,↓aa,ae,simprocAttr];refine bS (uS bR p aL an e6 ei 2 [45,62] (by decide) 1 (by omega) (by omega) (fun q aq=>.inl ⟨by decide,by decide⟩) _ _ _ w _ aY.w (aY.cs bx eG) (by first | omega | (simp only [aT];omega))) aY W aG fun ad b7 aI br=>?_;simp only [br.g,z,↓aa,ae,simprocAttr];exact ⟨rfl,_,cw (aI.b' al) (by simp)⟩
 . have z:=And.intro ol (And.intro bK (y5 e));have e6:2<=p.l.length:=by have:=iS an (by omega);omega
   have ei:∀q ∈ p.l,q.k<45:=fun q aq=>by have:=yY an (by omega) aq;omega
   have hw:hh p.k p.s (a' p.l)=ek (a' p.l) 3 [42] 2:=by simp [hh,z,cE,cF,cD,dp]
   rw [hw] at aM ⊢
   try simp only [aT] at aM
   simp only [ag,aG.g,z,↓aa,ae,simprocAttr];refine bS (uS bR p aL an e6 ei 3 [42] (by decide) 2 (by omega) (by omega) (fun q aq=>.inl ⟨by decide,by decide⟩) _ _ _ w _ aY.w (aY.cs bx eG) (by first | omega | (simp only [aT];omega))) aY W aG fun ad b7 aI br=>?_;simp only [br.g,z,↓aa,ae,simprocAttr];exact ⟨rfl,_,cw (aI.b' al) (by simp)⟩
 . by_cases cR:p.l.length=0
   . have z:=And.intro ol (And.intro bK (y5 e));have hi:(p.l.length=1)=False:=anA (by omega);have hj:(1<p.l.length)=False:=anA (by omega);have du:((1:Int) < (p.l.length:Int))=False:=anA (by omega);have ei:∀q ∈ p.l,q.k<45:=fun q aq=>by have:=yY an (by omega) aq;omega
     have mI:a' p.l=[]:=by rw [aog cR];rfl
     have hw:hh p.k p.s (a' p.l)=eD (cO 3) [44] (a' p.l)++([dK 3 p.s]):=by simp [hh,z,hi,hj,du,mI,eD,cE,cF,cD,dp]
     rw [hw] at aM ⊢
     try simp only [aT] at aM
     have Am:=aY.dZ bx b6;simp only [ag,aG.g,z,hi,hj,du,↓aa,ae,simprocAttr];refine bS (CE bR p.l (fun q aq=>⟨(dF _ aq).1,(dF _ aq).2,ei _ aq⟩) w [44] (by decide) 3 (by omega) _ _ _ _ aY.w Am (by first | omega | (simp only [aT];omega))) aY W aG fun ad b7 aI br=>?_;simp only [br.g,z,hi,hj,du,↓aa,ae,simprocAttr];refine bS (nI 3 p.s _ _ _ _ aI.w (by simp only [aT];omega)) aI W aG fun aC dk bL cl=>?_;simp only [cl.g,z,hi,hj,du,↓aa,ae,simprocAttr];exact ⟨rfl,_,cw (bL.b' al) (by simp)⟩
   by_cases de:p.l.length=1
   . have z:=And.intro ol (And.intro bK (y5 e));have hi:(p.l.length=1)=True:=anJ (by omega);have hj:(1<p.l.length)=False:=anA (by omega);have du:((1:Int) < (p.l.length:Int))=False:=anA (by omega);have ei:∀q ∈ p.l,q.k<45:=fun q aq=>by have:=yY an (by omega) aq;omega
     have qC:0<p.l.length:=by omega
     have mI:a' p.l=[(p.l[0],p.l[0].words)]:=by rw [rU];match p.l,de,qC with | [a],_,_=>rfl
     have hw:hh p.k p.s (a' p.l)=eD (cO 3) [44] (a' p.l)++([dK 3 p.s]):=by simp [hh,z,hi,hj,du,mI,eD,qP,hL,anR,cE,cF,cD,dp]
     rw [hw] at aM ⊢
     try simp only [aT] at aM
     have Am:=aY.dZ bx b6;simp only [ag,aG.g,z,hi,hj,du,↓aa,ae,simprocAttr];refine bS (CE bR p.l (fun q aq=>⟨(dF _ aq).1,(dF _ aq).2,ei _ aq⟩) w [44] (by decide) 3 (by omega) _ _ _ _ aY.w Am (by first | omega | (simp only [aT];omega))) aY W aG fun ad b7 aI br=>?_;simp only [br.g,z,hi,hj,du,↓aa,ae,simprocAttr];refine bS (nI 3 p.s _ _ _ _ aI.w (by simp only [aT];omega)) aI W aG fun aC dk bL cl=>?_;simp only [cl.g,z,hi,hj,du,↓aa,ae,simprocAttr];exact ⟨rfl,_,cw (bL.b' al) (by simp)⟩
   . have z:=And.intro ol (And.intro bK (y5 e));have hi:(p.l.length=1)=False:=anA (by omega);have hj:(1<p.l.length)=True:=anJ (by omega);have du:((1:Int) < (p.l.length:Int))=True:=anJ (by omega);have ei:∀q ∈ p.l,q.k<45:=fun q aq=>by have:=yY an (by omega) aq;omega
     have hw:hh p.k p.s (a' p.l)=[kw [40]]++(eD (cO 1) [44] (a' p.l)++([kw [41]]++([dK 3 p.s]))):=by simp [hh,z,hi,hj,du,cE,cF,cD,dp]
     rw [hw] at aM ⊢
     try simp only [aT] at aM
     simp only [ag,aG.g,z,hi,hj,du,↓aa,ae,simprocAttr];refine bS (eE [40] (by decide) _ _ _ _ aY.w (by first | omega | (simp only [aT];omega))) aY W aG fun ad b7 aI br=>?_;have h':=aI.dZ bx b6;simp only [br.g,z,hi,hj,du,↓aa,ae,simprocAttr];refine bS (CE bR p.l (fun q aq=>⟨(dF _ aq).1,(dF _ aq).2,ei _ aq⟩) w [44] (by decide) 1 (by omega) _ _ _ _ aI.w h' (by simp only [aT];omega)) aI W aG fun aC dk bL cl=>?_;simp only [cl.g,z,hi,hj,du,↓aa,ae,simprocAttr];refine bS (eE [41] (by decide) _ _ _ _ bL.w (by simp only [aT];omega)) bL W aG fun bn gd cG fI=>?_;simp only [fI.g,z,hi,hj,du,↓aa,ae,simprocAttr];refine bS (nI 3 p.s _ _ _ _ cG.w (by simp only [aT];omega)) cG W aG fun b0 gT cL fJ=>?_;simp only [fJ.g,z,hi,hj,du,↓aa,ae,simprocAttr];exact ⟨rfl,_,cw (cL.b' al) (by simp)⟩
theorem ajU {n:Nat} (bR:kr n) (p:aQ) (aL:p.size<=n+1) (an:c6 p) (ay:10<=p.k/\p.k<20) (b:Nat) (h:ah) (aP w:V) (ws:List bt) (W:eO [] b h aP ws) (X:cg (dU b) h p.enc (bN p w))
 (aM:ws.length + (gy p.k p.n p.s (a' p.l)).length<=1000000000):b8 Tryz.prog 84 [.ptr (aD b) 0,.agg (bN p w)] h (jx b h aP ws (gy p.k p.n p.s (a' p.l))):=by
 have cz:=jA X;have ol:=cz.one;have dF:∀q ∈ p.l,q.size<=n/\c6 q:=fun q aq=>⟨by have:=h4 aq;omega,jj an aq⟩;obtain ⟨J,ag,al,aG⟩:=f' h (bN p w);have bx:=W.ext al;have eG:=X.ext al;have b6:=cz.ext al;have bK:=b6.len;have hle:=b6.le;rw [anK] at bK hle;have aY:eT [] b J aP J aP ws:=fM.refl bx;refine YK.z rfl (ck ?_);unfold OB;simp only [bN] at ag aG ⊢;rcases (show p.k=10\/p.k=11\/p.k=12\/p.k=13\/p.k=14\/p.k=15\/p.k=16 by have:=rN an;omega) with e | e | e | e | e | e | e
 . have z:=And.intro ol (And.intro bK (wO e));have hw:gy p.k p.n p.s (a' p.l)=[kw [95]]:=by simp [gy,z,cE,cF,cD,dp]
   rw [hw] at aM ⊢
   try simp only [aT] at aM
   simp only [ag,aG.g,z,↓aa,ae,simprocAttr];refine bS (eE [95] (by decide) _ _ _ _ aY.w (by first | omega | (simp only [aT];omega))) aY W aG fun ad b7 aI br=>?_;simp only [br.g,z,↓aa,ae,simprocAttr];exact ⟨rfl,_,cw (aI.b' al) (by simp)⟩
 . have z:=And.intro ol (And.intro bK (wO e));have hw:gy p.k p.n p.s (a' p.l)=[dK 3 p.s]:=by simp [gy,z,cE,cF,cD,dp]
   rw [hw] at aM ⊢
   try simp only [aT] at aM
   simp only [ag,aG.g,z,↓aa,ae,simprocAttr];refine bS (nI 3 p.s _ _ _ _ aY.w (by first | omega | (simp only [aT];omega))) aY W aG fun ad b7 aI br=>?_;simp only [br.g,z,↓aa,ae,simprocAttr];exact ⟨rfl,_,cw (aI.b' al) (by simp)⟩
 . have z:=And.intro ol (And.intro bK (wO e));have hw:gy p.k p.n p.s (a' p.l)=[ox p.n]:=by simp [gy,z,cE,cF,cD,dp]
   rw [hw] at aM ⊢
   try simp only [aT] at aM
   simp only [ag,aG.g,z,↓aa,ae,simprocAttr];refine bS (Uj p.n _ _ _ _ aY.w (by first | omega | (simp only [aT];omega))) aY W aG fun ad b7 aI br=>?_;simp only [br.g,z,↓aa,ae,simprocAttr];exact ⟨rfl,_,cw (aI.b' al) (by simp)⟩
 . have z:=And.intro ol (And.intro bK (wO e));have hw:gy p.k p.n p.s (a' p.l)=[kw [40]]++([kw [41]]):=by simp [gy,z,cE,cF,cD,dp]
   rw [hw] at aM ⊢
   try simp only [aT] at aM
   simp only [ag,aG.g,z,↓aa,ae,simprocAttr];refine bS (eE [40] (by decide) _ _ _ _ aY.w (by first | omega | (simp only [aT];omega))) aY W aG fun ad b7 aI br=>?_;simp only [br.g,z,↓aa,ae,simprocAttr];refine bS (eE [41] (by decide) _ _ _ _ aI.w (by simp only [aT];omega)) aI W aG fun aC dk bL cl=>?_;simp only [cl.g,z,↓aa,ae,simprocAttr];exact ⟨rfl,_,cw (bL.b' al) (by simp)⟩
 . have z:=And.intro ol (And.intro bK (wO e));have hw:gy p.k p.n p.s (a' p.l)=[oD p.n]:=by simp [gy,z,cE,cF,cD,dp]
   rw [hw] at aM ⊢
   try simp only [aT] at aM
   simp only [ag,aG.g,z,↓aa,ae,simprocAttr];refine bS (TX p.n _ _ _ _ aY.w (by first | omega | (simp only [aT];omega))) aY W aG fun ad b7 aI br=>?_;simp only [br.g,z,↓aa,ae,simprocAttr];exact ⟨rfl,_,cw (aI.b' al) (by simp)⟩
 . have z:=And.intro ol (And.intro bK (wO e));have e6:2<=p.l.length:=by have:=iS an (by omega);omega
   have ei:∀q ∈ p.l,q.k<45:=fun q aq=>by have:=RS an (by omega) aq;omega
   have hw:gy p.k p.n p.s (a' p.l)=ek (a' p.l) 2 [44] 1:=by simp [gy,z,cE,cF,cD,dp]
   rw [hw] at aM ⊢
   try simp only [aT] at aM
   simp only [ag,aG.g,z,↓aa,ae,simprocAttr];refine bS (uS bR p aL an e6 ei 2 [44] (by decide) 1 (by omega) (by omega) (fun q aq=>.inl ⟨by decide,by decide⟩) _ _ _ w _ aY.w (aY.cs bx eG) (by first | omega | (simp only [aT];omega))) aY W aG fun ad b7 aI br=>?_;simp only [br.g,z,↓aa,ae,simprocAttr];exact ⟨rfl,_,cw (aI.b' al) (by simp)⟩
 . have z:=And.intro ol (And.intro bK (wO e));have ei:∀q ∈ p.l,q.k<45:=fun q aq=>by have:=RS an (by omega) aq;omega
   have hw:gy p.k p.n p.s (a' p.l)=dK 4 p.s::eY (cO 3) (a' p.l):=by simp [gy,z,cE,cF,cD,dp]
   rw [hw] at aM ⊢
   try simp only [aT] at aM
   simp only [ag,aG.g,z,↓aa,ae,simprocAttr];refine bS (TZ bR p aL an (B5 an (by omega)) ei 3 (by decide) (fun q aq=>.inl (by decide)) _ _ _ w _ aY.w (aY.cs bx eG) (by first | omega | (simp only [aT];omega))) aY W aG fun ad b7 aI br=>?_;simp only [br.g,z,↓aa,ae,simprocAttr];exact ⟨rfl,_,cw (aI.b' al) (by simp)⟩
theorem RW {k c:Int} (e:k=c):(k=27)=(c=27)/\(k=29)=(c=29)/\(k=30)=(c=30)/\(k=31)=(c=31)/\(k=32)=(c=32):=by simp only [e,apl]
theorem BX {k c:Int} (e:k=c):(k=20)=(c=20)/\(k=21)=(c=21)/\(k=22)=(c=22)/\(k=23)=(c=23)/\(k=24)=(c=24):=by simp only [e,apl]
theorem Ug {n:Nat} (bR:kr n) (p:aQ) (aL:p.size<=n+1) (an:c6 p) (ay:p.k=29\/p.k=31) (b:Nat) (h:ah) (aP w:V) (ws:List bt) (W:eO [] b h aP ws) (X:cg (dU b) h p.enc (bN p w))
 (aM:ws.length + (ht p.k (a' p.l)).length<=1000000000):b8 Tryz.prog 108 [.ptr (aD b) 0,.agg (bN p w)] h (jx b h aP ws (ht p.k (a' p.l))):=by
 have cz:=jA X;have ol:=cz.one;have dF:∀q ∈ p.l,q.size<=n/\c6 q:=fun q aq=>⟨by have:=h4 aq;omega,jj an aq⟩;obtain ⟨J,ag,al,aG⟩:=f' h (bN p w);have bx:=W.ext al;have eG:=X.ext al;have b6:=cz.ext al;have bK:=b6.len;have hle:=b6.le;rw [anK] at bK hle;have aY:eT [] b J aP J aP ws:=fM.refl bx;refine Xr.z rfl (ck ?_);unfold ML;simp only [bN] at ag aG ⊢;rcases ay with e | e
 . have z:=And.intro ol (And.intro bK (RW e));have bT:0<p.l.length:=by have:=qG an (by omega);omega
   have dd:1<p.l.length:=by have:=qG an (by omega);omega
   have gR:2<p.l.length:=by have:=qG an (by omega);omega
   have ei:∀q ∈ p.l,q.k<45:=fun q aq=>(BU an (by omega) aq).2;have hw:ht p.k (a' p.l)=[kw [108,101,116]]++(p.l[0].words++([kw [61]]++(p.l[1].words++([kw [105,110]]++(p.l[2].words))))):=by simp [ht,ek,z,cE,cF,cD,eU _ _ _ bT,eU _ _ _ dd,eU _ _ _ gR,dp]
   rw [hw] at aM ⊢
   try simp only [aT] at aM
   simp only [ag,aG.g,z,↓aa,ae,simprocAttr];refine bS (eE [108,101,116] (by decide) _ _ _ _ aY.w (by first | omega | (simp only [aT];omega))) aY W aG fun ad b7 aI br=>?_;obtain ⟨hz,fA,v2,gk,fv⟩:=eM aI bx b6 0 0 rfl bT;simp only [br.g,z,fv,↓aa,ae,simprocAttr];refine bS (rW bR aL an bT (ei _ (anB bT)) aI.w gk (by simp only [aT];omega)) aI W aG fun aC dk bL cl=>?_;simp only [cl.g,z,↓aa,ae,simprocAttr];refine bS (eE [61] (by decide) _ _ _ _ bL.w (by simp only [aT];omega)) bL W aG fun bn gd cG fI=>?_;obtain ⟨zN,y4,v4,oN,oO⟩:=eM cG bx b6 1 1 rfl dd;simp only [fI.g,z,oO,↓aa,ae,simprocAttr];refine bS (rW bR aL an dd (ei _ (anB dd)) cG.w oN (by simp only [aT];omega)) cG W aG fun b0 gT cL fJ=>?_;simp only [fJ.g,z,↓aa,ae,simprocAttr];refine bS (eE [105,110] (by decide) _ _ _ _ cL.w (by simp only [aT];omega)) cL W aG fun eo ux ja lN=>?_;obtain ⟨U3,y6,v6,Aq,Ar⟩:=eM ja bx b6 2 2 rfl gR;simp only [lN.g,z,Ar,↓aa,ae,simprocAttr];refine bS (rW bR aL an gR (ei _ (anB gR)) ja.w Aq (by simp only [aT];omega)) ja W aG fun fl wS mx oG=>?_;simp only [oG.g,z,↓aa,ae,simprocAttr];exact ⟨rfl,_,cw (mx.b' al) (by simp)⟩
 . have z:=And.intro ol (And.intro bK (RW e));have bT:0<p.l.length:=by have:=qG an (by omega);omega
   have dd:1<p.l.length:=by have:=qG an (by omega);omega
   have gR:2<p.l.length:=by have:=qG an (by omega);omega
   have ji:∀q ∈ p.l,20<=q.k:=fun q aq=>(kh an (by omega) aq).1;have ei:∀q ∈ p.l,q.k<45:=fun q aq=>(kh an (by omega) aq).2;have hw:ht p.k (a' p.l)=[kw [105,102]]++(p.l[0].words++([kw [116,104,101,110]]++(cO 3 (p.l[1],p.l[1].words)++([kw [101,108,115,101]]++(cO 3 (p.l[2],p.l[2].words)))))):=by simp [ht,ek,z,cE,cF,cD,eU _ _ _ bT,eU _ _ _ dd,eU _ _ _ gR,dp]
   rw [hw] at aM ⊢
   try simp only [aT] at aM
   simp only [ag,aG.g,z,↓aa,ae,simprocAttr];refine bS (eE [105,102] (by decide) _ _ _ _ aY.w (by first | omega | (simp only [aT];omega))) aY W aG fun ad b7 aI br=>?_;obtain ⟨hz,fA,v2,gk,fv⟩:=eM aI bx b6 0 0 rfl bT;simp only [br.g,z,fv,↓aa,ae,simprocAttr];refine bS (rW bR aL an bT (ei _ (anB bT)) aI.w gk (by simp only [aT];omega)) aI W aG fun aC dk bL cl=>?_;simp only [cl.g,z,↓aa,ae,simprocAttr];refine bS (eE [116,104,101,110] (by decide) _ _ _ _ bL.w (by simp only [aT];omega)) bL W aG fun bn gd cG fI=>?_;obtain ⟨zN,y4,v4,oN,oO⟩:=eM cG bx b6 1 1 rfl dd;simp only [fI.g,z,oO,↓aa,ae,simprocAttr];refine bS (qO (J:=J) bR aL an ei dd 3 (by omega) (.inr (ji _ (anB dd))) cG.w oN (by simp only [aT];omega)) cG W aG fun b0 gT cL fJ=>?_;simp only [fJ.g,z,↓aa,ae,simprocAttr];refine bS (eE [101,108,115,101] (by decide) _ _ _ _ cL.w (by simp only [aT];omega)) cL W aG fun eo ux ja lN=>?_;obtain ⟨U3,y6,v6,Aq,Ar⟩:=eM ja bx b6 2 2 rfl gR;simp only [lN.g,z,Ar,↓aa,ae,simprocAttr];refine bS (qO (J:=J) bR aL an ei gR 3 (by omega) (.inr (ji _ (anB gR))) ja.w Aq (by simp only [aT];omega)) ja W aG fun fl wS mx oG=>?_;simp only [oG.g,z,↓aa,ae,simprocAttr];exact ⟨rfl,_,cw (mx.b' al) (by simp)⟩
theorem aiD {p:aQ} (an:c6 p) (e:p.k=38):hr p.s=vY p.s:=by
 have h:=(pG an).Gf;rw [e] at h;have hm:p.s ∈ opsL:=by simpa [rX] using h
 exact (show ∀s ∈ opsL,hr s=vY s by decide) _ hm
theorem aiC (s:List UInt8):dQ s<=7/\5<=dQ s:=by
 unfold dQ
 repeat' split
 all_goals omega
theorem ajP {n:Nat} (bR:kr n) (p:aQ) (aL:p.size<=n+1) (an:c6 p) (e:p.k=38) (b:Nat) (h:ah) (aP w:V) (ws:List bt) (W:eO [] b h aP ws) (X:cg (dU b) h p.enc (bN p w))
 (aM:ws.length + (ek (a' p.l) (if dQ p.s=5 then 6 else dQ p.s) p.s (dQ p.s+1)).length<=1000000000):b8 Tryz.prog 107 [.ptr (aD b) 0,.agg (bN p w)] h (jx b h aP ws (ek (a' p.l) (if dQ p.s=5 then 6 else dQ p.s) p.s (dQ p.s+1))):=by
 have cz:=jA X;have ol:=cz.one;have dF:∀q ∈ p.l,q.size<=n/\c6 q:=fun q aq=>⟨by have:=h4 aq;omega,jj an aq⟩;obtain ⟨J,ag,al,aG⟩:=f' h (bN p w);have bx:=W.ext al;have eG:=X.ext al;have b6:=cz.ext al;have bK:=b6.len;have hle:=b6.le;rw [anK] at bK hle;have aY:eT [] b J aP J aP ws:=fM.refl bx;refine Xq.z rfl (ck ?_);unfold MK;simp only [bN] at ag aG ⊢;have sC:=Uh p w J eG;have aK:p.lJ=dQ p.s:=by unfold aQ.lJ FW;rw [e];rfl
 have hp:=aiC p.s;have BC:=aiD an e;have CS:=Tj p.s;have e6:2<=p.l.length:=by have:=iS an (by omega);omega
 have ji:∀q ∈ p.l,20<=q.k:=fun q aq=>(kh an (by omega) aq).1;have ei:∀q ∈ p.l,q.k<45:=fun q aq=>(kh an (by omega) aq).2;by_cases b0:dQ p.s=5
 . have z:=And.intro ol bK;have k1:(dQ p.s=5)=True:=anJ b0;have ez:IntKind.i64.wrap (dQ p.s+1)=dQ p.s+1:=CS;have hw:ek (a' p.l) (if dQ p.s=5 then 6 else dQ p.s) p.s (dQ p.s+1)=ek (a' p.l) 6 p.s (dQ p.s+1):=by simp [z,k1,ez,cE,cF,cD,dp]
   rw [hw] at aM ⊢
   try simp only [aT] at aM
   simp only [ag,aG.g,z,k1,ez,↓aa,ae,simprocAttr];refine bq sC ?_;rintro x ad ⟨rfl,aN⟩;rw [aK];have aI:=aY.ext aN;have br:=jd W aG aI;simp only [br.g,z,k1,ez,↓aa,ae,simprocAttr];refine bS (uS bR p aL an e6 ei 6 p.s BC (dQ p.s+1) (by omega) (by omega) (fun q aq=>.inr (ji q aq)) _ _ _ w _ aI.w (aI.cs bx eG) (by first | omega | (simp only [aT];omega))) aI W aG fun aC dk bL cl=>?_;simp only [cl.g,z,k1,ez,↓aa,ae,simprocAttr];exact ⟨rfl,_,cw (bL.b' al) (by simp)⟩
 . have z:=And.intro ol bK;have k1:(dQ p.s=5)=False:=anA b0;have ez:IntKind.i64.wrap (dQ p.s+1)=dQ p.s+1:=CS;have hw:ek (a' p.l) (if dQ p.s=5 then 6 else dQ p.s) p.s (dQ p.s+1)=ek (a' p.l) (dQ p.s) p.s (dQ p.s+1):=by simp [z,k1,ez,cE,cF,cD,dp]
   rw [hw] at aM ⊢
   try simp only [aT] at aM
   simp only [ag,aG.g,z,k1,ez,↓aa,ae,simprocAttr];refine bq sC ?_;rintro x ad ⟨rfl,aN⟩;rw [aK];have aI:=aY.ext aN;have br:=jd W aG aI;simp only [br.g,z,k1,ez,↓aa,ae,simprocAttr];refine bS (uS bR p aL an e6 ei (dQ p.s) p.s BC (dQ p.s+1) (by omega) (by omega) (fun q aq=>.inr (ji q aq)) _ _ _ w _ aI.w (aI.cs bx eG) (by first | omega | (simp only [aT];omega))) aI W aG fun aC dk bL cl=>?_;simp only [cl.g,z,k1,ez,↓aa,ae,simprocAttr];exact ⟨rfl,_,cw (bL.b' al) (by simp)⟩
theorem ajq {n:Nat} (bR:kr n) (p:aQ) (aL:p.size<=n+1) (an:c6 p) (ay:20<=p.k/\p.k<=24) (b:Nat) (h:ah) (aP w:V) (ws:List bt) (W:eO [] b h aP ws) (X:cg (dU b) h p.enc (bN p w))
 (aM:ws.length + (cK p.k p.n p.s (a' p.l)).length<=1000000000):b8 Tryz.prog 110 [.ptr (aD b) 0,.agg (bN p w)] h (jx b h aP ws (cK p.k p.n p.s (a' p.l))):=by
 have cz:=jA X;have ol:=cz.one;have dF:∀q ∈ p.l,q.size<=n/\c6 q:=fun q aq=>⟨by have:=h4 aq;omega,jj an aq⟩;obtain ⟨J,ag,al,aG⟩:=f' h (bN p w);have bx:=W.ext al;have eG:=X.ext al;have b6:=cz.ext al;have bK:=b6.len;have hle:=b6.le;rw [anK] at bK hle;have aY:eT [] b J aP J aP ws:=fM.refl bx;refine Xu.z rfl (ck ?_);unfold MQ;simp only [bN] at ag aG ⊢;rcases (show p.k=20\/p.k=21\/p.k=22\/p.k=23\/p.k=24 by omega) with e | e | e | e | e
 . have z:=And.intro ol (And.intro bK (BX e));have hw:cK p.k p.n p.s (a' p.l)=[ox p.n]:=by simp [cK,z,cE,cF,cD,dp]
   rw [hw] at aM ⊢
   try simp only [aT] at aM
   simp only [ag,aG.g,z,↓aa,ae,simprocAttr];refine bS (Uj p.n _ _ _ _ aY.w (by first | omega | (simp only [aT];omega))) aY W aG fun ad b7 aI br=>?_;simp only [br.g,z,↓aa,ae,simprocAttr];exact ⟨rfl,_,cw (aI.b' al) (by simp)⟩
 . have z:=And.intro ol (And.intro bK (BX e));have hw:cK p.k p.n p.s (a' p.l)=[dK 2 p.s]:=by simp [cK,z,cE,cF,cD,dp]
   rw [hw] at aM ⊢
   try simp only [aT] at aM
   simp only [ag,aG.g,z,↓aa,ae,simprocAttr];refine bS (nI 2 p.s _ _ _ _ aY.w (by first | omega | (simp only [aT];omega))) aY W aG fun ad b7 aI br=>?_;simp only [br.g,z,↓aa,ae,simprocAttr];exact ⟨rfl,_,cw (aI.b' al) (by simp)⟩
 . have z:=And.intro ol (And.intro bK (BX e));have hw:cK p.k p.n p.s (a' p.l)=[kw [40]]++([kw [41]]):=by simp [cK,z,cE,cF,cD,dp]
   rw [hw] at aM ⊢
   try simp only [aT] at aM
   simp only [ag,aG.g,z,↓aa,ae,simprocAttr];refine bS (eE [40] (by decide) _ _ _ _ aY.w (by first | omega | (simp only [aT];omega))) aY W aG fun ad b7 aI br=>?_;simp only [br.g,z,↓aa,ae,simprocAttr];refine bS (eE [41] (by decide) _ _ _ _ aI.w (by simp only [aT];omega)) aI W aG fun aC dk bL cl=>?_;simp only [cl.g,z,↓aa,ae,simprocAttr];exact ⟨rfl,_,cw (bL.b' al) (by simp)⟩
 . have z:=And.intro ol (And.intro bK (BX e));have hw:cK p.k p.n p.s (a' p.l)=[oD p.n]:=by simp [cK,z,cE,cF,cD,dp]
   rw [hw] at aM ⊢
   try simp only [aT] at aM
   simp only [ag,aG.g,z,↓aa,ae,simprocAttr];refine bS (TX p.n _ _ _ _ aY.w (by first | omega | (simp only [aT];omega))) aY W aG fun ad b7 aI br=>?_;simp only [br.g,z,↓aa,ae,simprocAttr];exact ⟨rfl,_,cw (aI.b' al) (by simp)⟩
 . have z:=And.intro ol (And.intro bK (BX e));have hw:cK p.k p.n p.s (a' p.l)=[dK 3 p.s]:=by simp [cK,z,cE,cF,cD,dp]
   rw [hw] at aM ⊢
   try simp only [aT] at aM
   simp only [ag,aG.g,z,↓aa,ae,simprocAttr];refine bS (nI 3 p.s _ _ _ _ aY.w (by first | omega | (simp only [aT];omega))) aY W aG fun ad b7 aI br=>?_;simp only [br.g,z,↓aa,ae,simprocAttr];exact ⟨rfl,_,cw (aI.b' al) (by simp)⟩
theorem y8 {F:aU->Prop} {g:ah} {l:List aQ} {v:V} (L:ch F g 5 (l.map aQ.enc) v) {i:Nat} (au:i<l.length) {j:Nat} (bI:j<l[i].l.length):
 ∃b o eS cA c0 v2,iD 5 v (.int .i64 i)=some (.ptr b o)/\jL (g.get b) (o+4)=some eS/\iD 5 eS (.int .i64 j)=some (.ptr cA c0)/\o0 5 (g.get cA) c0=some (.agg (bN l[i].l[j] v2))/\cg F g l[i].l[j].enc (bN l[i].l[j] v2)/\Lone v2/\Lone eS:=by
 obtain ⟨b,o,eS,dj,X,cz,_,_,_,ld⟩:=aQ.lx L (k:=.i64) au;obtain ⟨cA,c0,v2,kV,GY,L2,nD,_,_,_⟩:=aQ.lx cz (k:=.i64) bI;exact ⟨b,o+i * 5,eS,cA,c0+j * 5,v2,dj,ld g (Ext.refl g),kV,nD g (Ext.refl g),GY,L2.one,cz.one⟩
theorem W8 {q:aQ} (e:q.k=46) (a6:0<q.l.length):q.words=dK 3 q.s::kw [61]::q.l[0].words:=by rw [zR,e];simp only [pe,f_,Int.reduceLT,Int.reduceEq,an7,an4,eU _ _ _ a6,dp]
theorem Y7 {q:aQ} (e:q.k=45) (a6:0<q.l.length) (J:1<q.l.length):q.words=q.l[0].words++kw [45,62]::q.l[1].words:=by rw [zR,e];simp only [pe,f_,ek,Int.reduceLT,Int.reduceEq,an7,an4,eU _ _ _ a6,eU _ _ _ J,dp]
theorem TW {n:Nat} (bR:kr n) (l:List aQ) (aq:∀q ∈ l,q.size<=n+1/\c6 q/\q.k=46) (b:Nat) (h:ah) (aP v:V) (ws:List bt) (W:eO [] b h aP ws) (L:ch (dU b) h 5 (l.map aQ.enc) v)
 (aM:ws.length + (kw [108,101,116]::kw [114,101,99]::eD Prod.snd [97,110,100] (a' l)).length<=1000000000):
 b8 Tryz.prog 50 [.ptr (aD b) 0,v] h (jx b h aP ws (kw [108,101,116]::kw [114,101,99]::eD Prod.snd [97,110,100] (a' l))):=by
 have aw:=L.len;have hle:=L.le;rw [anK] at aw hle;simp only [anz] at aM;refine Yf.z rfl (ck ?_);unfold N1;simp only [↓aa,ae,simprocAttr];refine bq (eE [108,101,116] (by decide) b h aP ws W (by omega)) ?_;rintro x J ⟨rfl,jk,aY⟩;simp only [↓aa,ae,simprocAttr];refine bq (eE [114,101,99] (by decide) b J jk _ aY.w (by rw [anw,anz,anH];omega)) ?_;rintro x ad ⟨rfl,b7,z'⟩;have aI:=aY.trans z';simp only [↓aa,ae,simprocAttr];refine fE (fun r g=>r 0=.ptr (aD b) 0/\r 1=v/\∃(i:Nat) (di:V) (A:List bt),r 4=.int .i64 i/\i<=l.length/\eT [] b h aP g di (ws++(kw [108,101,116]::kw [114,101,99]::A))/\A++qU Prod.snd [97,110,100] l i=eD Prod.snd [97,110,100] (a' l)) (fun r g=>l.length - (r 4).toN) ?_ ?_
 . refine ⟨by simp only [↓aa,cm,simprocAttr],by simp only [↓aa,cm,simprocAttr],0,b7,[],by simp only [↓aa,cm,simprocAttr]<;>rfl,by omega,?_,rfl⟩;simp only [anG,anO,anP] at aI;exact aI
 rintro r g ⟨ba,bM,i,hU,A,dR,au,E,dJ⟩;unfold N2;by_cases aH:i<l.length
 . have g0:((i:Int) < (l.length:Int))=True:=anJ (by omega);have dm:=iI aH (by unfold top at hle;omega);rw [zL Prod.snd [97,110,100] l i aH] at dJ;obtain ⟨wx,nx,qx⟩:=aq _ (anB aH);have wu:=uq nx (by omega);have sG:0<l[i].l.length:=by omega
   have hw:=W8 qx sG;have hm:l[i].l[0] ∈ l[i].l:=anB sG;have yz:=h4 hm;have QN:=jj nx hm;have jg:=kh nx (by omega) hm;have hlen:=congrArg List.length dJ;rw [hw] at dJ hlen;simp only [anw,anz] at hlen;by_cases a6:i=0
   . have iy:((0:Int) < (i:Int))=False:=anA (by omega);rw [anL a6,anP] at dJ;rw [anL a6,anH] at hlen;obtain ⟨bi,zl,hH,dj,X,cz,ld,agU,JY,agV⟩:=aQ.lx (E.dZ W L) (k:=.i64) aH;have JZ:=JY g (Ext.refl g);simp only [ba,bM,dR,aw,g0,iy,dj,JZ,↓aa,ae,simprocAttr];refine bq (nI 3 l[i].s b g hU _ E.w (by simp only [anw,anz,anH];omega)) ?_;rintro x bF ⟨rfl,o1,va⟩;have p2:=E.trans va;simp only [ba,bM,dR,↓aa,ae,simprocAttr];refine bq (eE [61] (by decide) b bF o1 _ p2.w (by simp only [anw,anz,anH];omega)) ?_;rintro x aj ⟨rfl,pI,vb⟩;have na:=p2.trans vb;obtain ⟨b9,dc,v1,cA,c0,v2,bX,b_,dY,eQ,fz,il,hS⟩:=y8 (na.dZ W L) aH sG;have qE:iD 5 v1 (.int .i64 0)=some (.ptr cA c0):=dY;have ao:=bR l[i].l[0] (by omega) QN jg.2 b aj pI v2 _ na.w fz (by simp only [anw,anz,anH];omega);simp only [bN] at ao eQ;simp only [ba,bM,dR,bX,b_,qE,eQ,il,hS,↓aa,ae,simprocAttr];refine bq ao ?_;rintro x aZ ⟨rfl,wT,Fd⟩;have p3:=na.trans Fd;simp only [anG,anO,anP] at p3;simp only [ba,bM,dR,dm,↓aa,ae,simprocAttr];exact ⟨⟨i+1,wT,_,rfl,aH,p3,by rw [<-dJ];simp only [anG,anO,anP]⟩,by omega⟩
   . have iy:((0:Int) < (i:Int))=True:=anJ (by omega);rw [anE a6] at dJ;rw [anE a6,anz,anH] at hlen;simp only [ba,bM,dR,aw,g0,iy,↓aa,ae,simprocAttr];refine bq (eE [97,110,100] (by decide) b g hU _ E.w (by simp only [anw,anz,anH];omega)) ?_;rintro x g5 ⟨rfl,gT,kL⟩;have cL:=E.trans kL;obtain ⟨bi,zl,hH,dj,X,cz,ld,agU,JY,agV⟩:=aQ.lx (cL.dZ W L) (k:=.i64) aH;have JZ:=JY g5 (Ext.refl g5);simp only [ba,bM,dR,aw,dj,JZ,↓aa,ae,simprocAttr];refine bq (nI 3 l[i].s b g5 gT _ cL.w (by simp only [anw,anz,anH];omega)) ?_;rintro x bF ⟨rfl,o1,va⟩;have p2:=cL.trans va;simp only [ba,bM,dR,↓aa,ae,simprocAttr];refine bq (eE [61] (by decide) b bF o1 _ p2.w (by simp only [anw,anz,anH];omega)) ?_;rintro x aj ⟨rfl,pI,vb⟩;have na:=p2.trans vb;obtain ⟨b9,dc,v1,cA,c0,v2,bX,b_,dY,eQ,fz,il,hS⟩:=y8 (na.dZ W L) aH sG;have qE:iD 5 v1 (.int .i64 0)=some (.ptr cA c0):=dY;have ao:=bR l[i].l[0] (by omega) QN jg.2 b aj pI v2 _ na.w fz (by simp only [anw,anz,anH];omega);simp only [bN] at ao eQ;simp only [ba,bM,dR,bX,b_,qE,eQ,il,hS,↓aa,ae,simprocAttr];refine bq ao ?_;rintro x aZ ⟨rfl,wT,Fd⟩;have p3:=na.trans Fd;simp only [anG,anO,anP] at p3;simp only [ba,bM,dR,dm,↓aa,ae,simprocAttr];exact ⟨⟨i+1,wT,_,rfl,aH,p3,by rw [<-dJ];simp only [anG,anO,anP]⟩,by omega⟩
 . have g0:((i:Int) < (l.length:Int))=False:=anA (by omega);rw [zK Prod.snd [97,110,100] l i (by omega),an_] at dJ;rw [dJ] at E;simp only [ba,bM,dR,aw,g0,↓aa,ae,simprocAttr];exact ⟨rfl,hU,E⟩
theorem TY {n:Nat} (bR:kr n) (p:aQ) (aL:p.size<=n+1) (an:c6 p) (ay:p.k=32\/p.k=33) (key:List UInt8) (Bo:hr key=vY key) (b:Nat) (h:ah) (aP w:V) (ws:List bt) (W:eO [] b h aP ws) (L:ch (dU b) h 5 (p.l.map aQ.enc) w)
 (bT:0<p.l.length) (aM:ws.length + (kw [40]::kw key::(p.l[0].words++kw [119,105,116,104]::(eD Prod.snd [124] (a' (p.l.drop 1))++[kw [41]]))).length<=1000000000):
 b8 Tryz.prog 109 [.ptr (aD b) 0,.str key,w] h (jx b h aP ws (kw [40]::kw key::(p.l[0].words++kw [119,105,116,104]::(eD Prod.snd [124] (a' (p.l.drop 1))++[kw [41]])))):=by
 have aw:=L.len;have hle:=L.le;rw [anK] at aw hle;have dF:∀q ∈ p.l,q.size<=n/\c6 q:=fun q aq=>⟨by have:=h4 aq;omega,jj an aq⟩;have wc:20<=p.l[0].k/\p.l[0].k<45:=by obtain ⟨g,a,b,_⟩:=uo an 0 bT;rcases ay with e | e<;>rw [e] at a<;>simp [cQ] at a<;>subst a<;>exact Ed b
 have jG:∀i (au:i<p.l.length),i≠0->p.l[i].k=45:=fun i au a6=>by
  obtain ⟨g,a,b,_⟩:=uo an i au;obtain ⟨j,rfl⟩:∃j,i=j+1:=⟨i-1,by omega⟩;rcases ay with e | e<;>rw [e] at a<;>simp only [cQ,Int.reduceEq,apm,apA,apO,apP,apR,an7,an4,anO,anP,aov] at a
  all_goals
   obtain rfl:=uP a;exact abB b
 simp only [anw,anz,anH] at aM;refine Xs.z rfl (ck ?_);unfold MM;simp only [↓aa,ae,simprocAttr];refine bq (eE [40] (by decide) b h aP ws W (by omega)) ?_;rintro x J ⟨rfl,jk,aY⟩;simp only [↓aa,ae,simprocAttr];refine bq (eE key Bo b J jk _ aY.w (by rw [anw,anz,anH];omega)) ?_;rintro x ad ⟨rfl,b7,z'⟩;have aI:=aY.trans z';obtain ⟨nT,iG,v0,i0,V6,V7,d0,_,_,_⟩:=aQ.lx (aI.dZ W L) (k:=.i64) bT;have Ru:iD 5 w (.int .i64 0)=some (.ptr nT (iG+0 * 5)):=i0;have O9:=d0 ad (Ext.refl _);generalize iG+0 * 5=alS at Ru O9;have Cq:=V7.one;have yn:=bR p.l[0] (dF _ (anB bT)).1 (dF _ (anB bT)).2 wc.2 b ad b7 v0 _ aI.w V6 (by simp only [anw,anz,anH];omega);simp only [bN] at yn;simp only [Ru,O9,Cq,↓aa,ae,simprocAttr];refine bq yn ?_;rintro x aC ⟨rfl,dk,u_⟩;have bL:=aI.trans u_;simp only [↓aa,ae,simprocAttr];refine bq (eE [119,105,116,104] (by decide) b aC dk _ bL.w (by simp only [anw,anz,anH];omega)) ?_;rintro x bn ⟨rfl,gd,kK⟩;have cG:=bL.trans kK;simp only [↓aa,ae,simprocAttr];refine fE (fun r g=>r 0=.ptr (aD b) 0/\r 2=w/\∃(i:Nat) (di:V) (A:List bt),r 6=.int .i64 i/\1<=i/\i<=p.l.length/\eT [] b h aP g di (ws++(kw [40]::kw key::(p.l[0].words++kw [119,105,116,104]::A)))/\A++qU Prod.snd [124] (p.l.drop 1) (i-1)=eD Prod.snd [124] (a' (p.l.drop 1))) (fun r g=>p.l.length - (r 6).toN) ?_ ?_
 . refine ⟨by simp only [↓aa,cm,simprocAttr],by simp only [↓aa,cm,simprocAttr],1,gd,[],by simp only [↓aa,cm,simprocAttr]<;>rfl,by omega,by omega,?_,rfl⟩;simp only [anG,anO,anP] at cG;exact cG
 rintro r g ⟨ba,dw,i,hU,A,fY,dd,au,E,dJ⟩;unfold MN;by_cases aH:i<p.l.length
 . have g0:((i:Int) < (p.l.length:Int))=True:=anJ (by omega);have dm:=iI aH (by unfold top at hle;omega);have Bg:i-1 < (p.l.drop 1).length:=by rw [an1];omega
   have Bk:(p.l.drop 1)[i-1]=p.l[i]:=by rw [List.getElem_drop];congr 1;omega
   rw [zL Prod.snd [124] (p.l.drop 1) (i-1) Bg,Bk] at dJ;obtain ⟨wx,nx⟩:=dF _ (anB aH);have qx:=jG i aH (by omega);have wv:=iS nx (by omega);have sG:0<p.l[i].l.length:=by omega
   have wu:1<p.l[i].l.length:=by omega
   have hw:=Y7 qx sG wu;have yA:p.l[i].l[0] ∈ p.l[i].l:=anB sG;have yB:p.l[i].l[1] ∈ p.l[i].l:=anB wu;have ams:=h4 yA;have amt:=h4 yB;have QO:=jj nx yA;have QP:=jj nx yB;have QQ:=BU nx (by omega) yA;have QR:=BU nx (by omega) yB;have hlen:=congrArg List.length dJ;rw [hw] at dJ hlen;simp only [anw,anz] at hlen;by_cases a6:i=1
   . have iy:((1:Int) < (i:Int))=False:=anA (by omega);rw [anL (show i-1=0 by omega),anP] at dJ;rw [anL (show i-1=0 by omega),anH] at hlen;obtain ⟨b9,dc,v1,cA,c0,v2,bX,b_,dY,eQ,fz,il,hS⟩:=y8 (E.dZ W L) aH sG;have qE:iD 5 v1 (.int .i64 0)=some (.ptr cA c0):=dY;have ao:=bR p.l[i].l[0] (by omega) QO QQ.2 b g hU v2 _ E.w fz (by simp only [anw,anz,anH];omega);simp only [bN] at ao eQ;simp only [ba,dw,fY,aw,g0,iy,bX,b_,qE,eQ,il,hS,↓aa,ae,simprocAttr];refine bq ao ?_;rintro x bF ⟨rfl,o1,va⟩;have p2:=E.trans va;simp only [ba,dw,fY,↓aa,ae,simprocAttr];refine bq (eE [45,62] (by decide) b bF o1 _ p2.w (by simp only [anw,anz,anH];omega)) ?_;rintro x aj ⟨rfl,pI,vb⟩;have na:=p2.trans vb;obtain ⟨bW,ct,ko,cu,cy,hz,m1,m2,m3,m4,m5,m6,m7⟩:=y8 (na.dZ W L) aH wu;have J5:iD 5 ko (.int .i64 1)=some (.ptr cu cy):=m3;have aZ:=bR p.l[i].l[1] (by omega) QP QR.2 b aj pI hz _ na.w m5 (by simp only [anw,anz,anH];omega);simp only [bN] at aZ m4;simp only [ba,dw,fY,m1,m2,J5,m4,m6,m7,↓aa,ae,simprocAttr];refine bq aZ ?_;rintro x he ⟨rfl,wT,Fd⟩;have p3:=na.trans Fd;simp only [anG,anO,anP] at p3;simp only [ba,dw,fY,dm,↓aa,ae,simprocAttr];exact ⟨⟨i+1,wT,_,rfl,by omega,aH,p3,by rw [show i+1-1=i-1+1 by omega,<-dJ];simp only [anG,anO,anP]⟩,by omega⟩
   . have iy:((1:Int) < (i:Int))=True:=anJ (by omega);rw [anE (show ¬i-1=0 by omega)] at dJ;rw [anE (show ¬i-1=0 by omega),anz,anH] at hlen;simp only [ba,dw,fY,aw,g0,iy,↓aa,ae,simprocAttr];refine bq (eE [124] (by decide) b g hU _ E.w (by simp only [anw,anz,anH];omega)) ?_;rintro x g5 ⟨rfl,gT,kL⟩;have cL:=E.trans kL;obtain ⟨b9,dc,v1,cA,c0,v2,bX,b_,dY,eQ,fz,il,hS⟩:=y8 (cL.dZ W L) aH sG;have qE:iD 5 v1 (.int .i64 0)=some (.ptr cA c0):=dY;have ao:=bR p.l[i].l[0] (by omega) QO QQ.2 b g5 gT v2 _ cL.w fz (by simp only [anw,anz,anH];omega);simp only [bN] at ao eQ;simp only [ba,dw,fY,aw,bX,b_,qE,eQ,il,hS,↓aa,ae,simprocAttr];refine bq ao ?_;rintro x bF ⟨rfl,o1,va⟩;have p2:=cL.trans va;simp only [ba,dw,fY,↓aa,ae,simprocAttr];refine bq (eE [45,62] (by decide) b bF o1 _ p2.w (by simp only [anw,anz,anH];omega)) ?_;rintro x aj ⟨rfl,pI,vb⟩;have na:=p2.trans vb;obtain ⟨bW,ct,ko,cu,cy,hz,m1,m2,m3,m4,m5,m6,m7⟩:=y8 (na.dZ W L) aH wu;have J5:iD 5 ko (.int .i64 1)=some (.ptr cu cy):=m3;have aZ:=bR p.l[i].l[1] (by omega) QP QR.2 b aj pI hz _ na.w m5 (by simp only [anw,anz,anH];omega);simp only [bN] at aZ m4;simp only [ba,dw,fY,m1,m2,J5,m4,m6,m7,↓aa,ae,simprocAttr];refine bq aZ ?_;rintro x he ⟨rfl,wT,Fd⟩;have p3:=na.trans Fd;simp only [anG,anO,anP] at p3;simp only [ba,dw,fY,dm,↓aa,ae,simprocAttr];exact ⟨⟨i+1,wT,_,rfl,by omega,aH,p3,by rw [show i+1-1=i-1+1 by omega,<-dJ];simp only [anG,anO,anP]⟩,by omega⟩
 . have g0:((i:Int) < (p.l.length:Int))=False:=anA (by omega);rw [zK Prod.snd [124] (p.l.drop 1) (i-1) (by rw [an1];omega),an_] at dJ;rw [dJ] at E;simp only [ba,dw,fY,aw,g0,↓aa,ae,simprocAttr];refine bq (eE [41] (by decide) b g hU _ E.w (by simp only [anw,anz,anH];omega)) ?_;rintro x g5 ⟨rfl,gT,kL⟩;have cL:=E.trans kL;simp only [anG,anO,anP] at cL;simp only [↓aa,ae,simprocAttr];exact ⟨rfl,gT,cL⟩
theorem ma {k c:Int} (e:k=c):(k=20)=(c=20)/\(k=21)=(c=21)/\(k=22)=(c=22)/\(k=23)=(c=23)/\(k=24)=(c=24)/\(k=25)=(c=25)/\(k=26)=(c=26)/\(k=35)=(c=35)/\(k=37)=(c=37)/\(k=38)=(c=38)/\(k=28)=(c=28)/\(k=34)=(c=34)/\(k=36)=(c=36)/\(k=39)=(c=39)/\(k=27)=(c=27)/\(k=29)=(c=29)/\(k=31)=(c=31)/\(k=30)=(c=30)/\(k=32)=(c=32)/\(k=33)=(c=33):=by simp only [e,apl]
theorem ael {p:aQ} (an:c6 p) (e:p.k=30) (aw:p.l.length-1<p.l.length):(20<=p.l[p.l.length-1].k/\p.l[p.l.length-1].k<45)/\∀q ∈ p.l.take (p.l.length-1),q.k=46:=by
 refine ⟨?_,fun q aq=>?_⟩
 . obtain ⟨g,a,b,_⟩:=uo an _ aw;rw [e] at a;simp only [cQ,Int.reduceEq,apm,apA,apO,apP,apR,an7,an4] at a;rw [anW (by rw [anF];omega),anF,apf] at a;simp only [anR,ant] at a;subst a;exact Ed b
 . obtain ⟨i,au,rfl⟩:=apE aq;have kf:i<p.l.length-1:=by rw [aod] at au;omega
   rw [List.getElem_take];obtain ⟨g,a,b,_⟩:=uo an i (by omega);rw [e] at a;simp only [cQ,Int.reduceEq,apm,apA,apO,apP,apR,an7,an4] at a;rw [anX (by rw [anF];exact kf)] at a;obtain rfl:=uP a;exact Qi b
theorem ajH {n:Nat} (bR:kr n) (p:aQ) (aL:p.size<=n+1) (an:c6 p) (ay:20<=p.k/\p.k<45) (b:Nat) (h:ah) (aP w:V) (ws:List bt) (W:eO [] b h aP ws) (X:cg (dU b) h p.enc (bN p w))
 (aM:ws.length + (cK p.k p.n p.s (a' p.l)).length<=1000000000):b8 Tryz.prog 85 [.ptr (aD b) 0,.agg (bN p w)] h (jx b h aP ws (cK p.k p.n p.s (a' p.l))):=by
 have cz:=jA X;have ol:=cz.one;have dF:∀q ∈ p.l,q.size<=n/\c6 q:=fun q aq=>⟨by have:=h4 aq;omega,jj an aq⟩;obtain ⟨J,ag,al,aG⟩:=f' h (bN p w);have bx:=W.ext al;have eG:=X.ext al;have b6:=cz.ext al;have bK:=b6.len;have hle:=b6.le;rw [anK] at bK hle;have aY:eT [] b J aP J aP ws:=fM.refl bx;refine YL.z rfl (ck ?_);unfold OC;simp only [bN] at ag aG ⊢;rcases (show p.k=25\/p.k=26\/p.k=35\/p.k=37\/p.k=38\/p.k=28\/p.k=34\/p.k=36\/p.k=39\/p.k=27\/p.k=29\/p.k=31\/p.k=30\/p.k=32\/p.k=33\/(20<=p.k/\p.k<=24) by have:=rN an;omega) with e | e | e | e | e | e | e | e | e | e | e | e | e | e | e | e
 . have z:=And.intro ol (And.intro bK (ma e));have ji:∀q ∈ p.l,20<=q.k:=fun q aq=>(kh an (by omega) aq).1;have ei:∀q ∈ p.l,q.k<45:=fun q aq=>(kh an (by omega) aq).2;have hw:cK p.k p.n p.s (a' p.l)=dK 4 p.s::eY (cO 10) (a' p.l):=by simp [cK,z,cE,cF,cD,dp]
   rw [hw] at aM ⊢
   try simp only [aT] at aM
   simp only [ag,aG.g,z,↓aa,ae,simprocAttr];refine bS (TZ bR p aL an (B5 an (by omega)) ei 10 (by decide) (fun q aq=>.inr (ji q aq)) _ _ _ w _ aY.w (aY.cs bx eG) (by first | omega | (simp only [aT];omega))) aY W aG fun ad b7 aI br=>?_;simp only [br.g,z,↓aa,ae,simprocAttr];exact ⟨rfl,_,cw (aI.b' al) (by simp)⟩
 . have z:=And.intro ol (And.intro bK (ma e));have e6:2<=p.l.length:=by have:=iS an (by omega);omega
   have ji:∀q ∈ p.l,20<=q.k:=fun q aq=>(kh an (by omega) aq).1;have ei:∀q ∈ p.l,q.k<45:=fun q aq=>(kh an (by omega) aq).2;have hw:cK p.k p.n p.s (a' p.l)=ek (a' p.l) 5 [44] 4:=by simp [cK,z,cE,cF,cD,dp]
   rw [hw] at aM ⊢
   try simp only [aT] at aM
   simp only [ag,aG.g,z,↓aa,ae,simprocAttr];refine bS (uS bR p aL an e6 ei 5 [44] (by decide) 4 (by omega) (by omega) (fun q aq=>.inr (ji q aq)) _ _ _ w _ aY.w (aY.cs bx eG) (by first | omega | (simp only [aT];omega))) aY W aG fun ad b7 aI br=>?_;simp only [br.g,z,↓aa,ae,simprocAttr];exact ⟨rfl,_,cw (aI.b' al) (by simp)⟩
 . have z:=And.intro ol (And.intro bK (ma e));have e6:2<=p.l.length:=by have:=iS an (by omega);omega
   have ji:∀q ∈ p.l,20<=q.k:=fun q aq=>(kh an (by omega) aq).1;have ei:∀q ∈ p.l,q.k<45:=fun q aq=>(kh an (by omega) aq).2;have hw:cK p.k p.n p.s (a' p.l)=ek (a' p.l) 2 [59] 1:=by simp [cK,z,cE,cF,cD,dp]
   rw [hw] at aM ⊢
   try simp only [aT] at aM
   simp only [ag,aG.g,z,↓aa,ae,simprocAttr];refine bS (uS bR p aL an e6 ei 2 [59] (by decide) 1 (by omega) (by omega) (fun q aq=>.inr (ji q aq)) _ _ _ w _ aY.w (aY.cs bx eG) (by first | omega | (simp only [aT];omega))) aY W aG fun ad b7 aI br=>?_;simp only [br.g,z,↓aa,ae,simprocAttr];exact ⟨rfl,_,cw (aI.b' al) (by simp)⟩
 . have z:=And.intro ol (And.intro bK (ma e));have e6:2<=p.l.length:=by have:=iS an (by omega);omega
   have ji:∀q ∈ p.l,20<=q.k:=fun q aq=>(kh an (by omega) aq).1;have ei:∀q ∈ p.l,q.k<45:=fun q aq=>(kh an (by omega) aq).2;have hw:cK p.k p.n p.s (a' p.l)=ek (a' p.l) 4 [58,61] 2:=by simp [cK,z,cE,cF,cD,dp]
   rw [hw] at aM ⊢
   try simp only [aT] at aM
   simp only [ag,aG.g,z,↓aa,ae,simprocAttr];refine bS (uS bR p aL an e6 ei 4 [58,61] (by decide) 2 (by omega) (by omega) (fun q aq=>.inr (ji q aq)) _ _ _ w _ aY.w (aY.cs bx eG) (by first | omega | (simp only [aT];omega))) aY W aG fun ad b7 aI br=>?_;simp only [br.g,z,↓aa,ae,simprocAttr];exact ⟨rfl,_,cw (aI.b' al) (by simp)⟩
 . have z:=And.intro ol (And.intro bK (ma e));have hw:cK p.k p.n p.s (a' p.l)=ek (a' p.l) (if dQ p.s=5 then 6 else dQ p.s) p.s (dQ p.s+1):=by simp [cK,z,cE,cF,cD,dp]
   rw [hw] at aM ⊢
   try simp only [aT] at aM
   simp only [ag,aG.g,z,↓aa,ae,simprocAttr];refine bS (ajP bR p aL an e _ _ _ w _ aY.w (aY.cs bx eG) (by first | omega | (simp only [aT];omega))) aY W aG fun ad b7 aI br=>?_;simp only [br.g,z,↓aa,ae,simprocAttr];exact ⟨rfl,_,cw (aI.b' al) (by simp)⟩
 . have e6:=iS an (by omega);have bT:0<p.l.length:=by omega
   have dd:1<p.l.length:=by omega
   have ji:∀q ∈ p.l,20<=q.k:=fun q aq=>(kh an (by omega) aq).1;have ei:∀q ∈ p.l,q.k<45:=fun q aq=>(kh an (by omega) aq).2;have l1:j9 (a' p.l)=jI (p.l[0].kC<9\/p.l[0].k=25\/p.l[0].k=34) (p.l[0],p.l[0].words):=by unfold j9;rw [KF p.l 0 bT]
   have yo:(p.l[0].k=25\/p.l[0].k=34)->j9 (a' p.l)=mn (true||decide (p.l[0].lJ<9)) p.l[0]:=fun z=>by rw [l1,Bool.true_or];unfold jI mn;rw [anL ⟨.inr z,fun y=>by have qW:p.l[0].k=32:=y;omega,fun y=>by have qW:p.l[0].k=33:=y;omega⟩,anL rfl]
   have Iv:¬(p.l[0].k=25\/p.l[0].k=34)->j9 (a' p.l)=mn (false||decide (p.l[0].lJ<9)) p.l[0]:=fun z=>by rw [l1,apd];unfold jI mn;simp only [z,apm,anM,Sp (dF _ (anB bT)).2 (ei _ (anB bT)) (show (9:Int)<=10 by decide) (.inr (ji _ (anB bT)))]
   by_cases a2:p.l[0].k=25
   . have z:=And.intro ol (And.intro bK (ma e));have ez:j9 (a' p.l)=mn (true||decide (p.l[0].lJ<9)) p.l[0]:=yo (.inl a2);have hk:(p.l[0].k=25)=True:=anJ a2;have bT:0<p.l.length:=by omega
     have dd:1<p.l.length:=by omega
     have hw:cK p.k p.n p.s (a' p.l)=mn (true||decide (p.l[0].lJ<9)) p.l[0]++(cO 10 (p.l[1],p.l[1].words)):=by simp [cK,z,ez,hk,cE,cF,cD,eU _ _ _ bT,eU _ _ _ dd,dp]
     rw [hw] at aM ⊢
     try simp only [aT] at aM
     obtain ⟨ko,fc,v1,jy,hn⟩:=eM aY bx b6 0 0 rfl bT;obtain ⟨g1,j3,g',gY⟩:=je J [.int .i64 0,.int .i64 0,.int .i64 0,.str [],.cr] (bN p.l[0] v1);simp only [bN] at j3 gY;have h9:=aY.ext g';have lO:=jd W aG h9;have ao:=FQ bR p.l[0] (dF _ (anB bT)).1 (dF _ (anB bT)).2 (ei _ (anB bT)) 9 true b g1 aP v1 ws h9.w (jy.ext g') (by first | omega | (simp only [aT];omega));simp only [ag,aG.g,z,ez,hk,hn,j3,gY.g,lO.g,↓aa,ae,simprocAttr];refine bS ao h9 W aG fun ad b7 aI br=>?_;obtain ⟨hz,fA,v2,gk,fv⟩:=eM aI bx b6 1 1 rfl dd;simp only [br.g,z,ez,hk,fv,↓aa,ae,simprocAttr];refine bS (qO (J:=J) bR aL an ei dd 10 (by omega) (.inr (ji _ (anB dd))) aI.w gk (by simp only [aT];omega)) aI W aG fun aC dk bL cl=>?_;simp only [cl.g,z,ez,hk,↓aa,ae,simprocAttr];exact ⟨rfl,_,cw (bL.b' al) (by simp)⟩
   by_cases a3:p.l[0].k=34
   . have z:=And.intro ol (And.intro bK (ma e));have ez:j9 (a' p.l)=mn (true||decide (p.l[0].lJ<9)) p.l[0]:=yo (.inr a3);have hk:(p.l[0].k=25)=False:=anA a2;have jQ:(p.l[0].k=34)=True:=anJ a3;have bT:0<p.l.length:=by omega
     have dd:1<p.l.length:=by omega
     have hw:cK p.k p.n p.s (a' p.l)=mn (true||decide (p.l[0].lJ<9)) p.l[0]++(cO 10 (p.l[1],p.l[1].words)):=by simp [cK,z,ez,hk,jQ,cE,cF,cD,eU _ _ _ bT,eU _ _ _ dd,dp]
     rw [hw] at aM ⊢
     try simp only [aT] at aM
     obtain ⟨ko,fc,v1,jy,hn⟩:=eM aY bx b6 0 0 rfl bT;obtain ⟨g1,j3,g',gY⟩:=je J [.int .i64 0,.int .i64 0,.int .i64 0,.str [],.cr] (bN p.l[0] v1);simp only [bN] at j3 gY;have h9:=aY.ext g';have lO:=jd W aG h9;have ao:=FQ bR p.l[0] (dF _ (anB bT)).1 (dF _ (anB bT)).2 (ei _ (anB bT)) 9 true b g1 aP v1 ws h9.w (jy.ext g') (by first | omega | (simp only [aT];omega));simp only [ag,aG.g,z,ez,hk,jQ,hn,j3,gY.g,lO.g,↓aa,ae,simprocAttr];refine bS ao h9 W aG fun ad b7 aI br=>?_;obtain ⟨hz,fA,v2,gk,fv⟩:=eM aI bx b6 1 1 rfl dd;simp only [br.g,z,ez,hk,jQ,fv,↓aa,ae,simprocAttr];refine bS (qO (J:=J) bR aL an ei dd 10 (by omega) (.inr (ji _ (anB dd))) aI.w gk (by simp only [aT];omega)) aI W aG fun aC dk bL cl=>?_;simp only [cl.g,z,ez,hk,jQ,↓aa,ae,simprocAttr];exact ⟨rfl,_,cw (bL.b' al) (by simp)⟩
   . have z:=And.intro ol (And.intro bK (ma e));have ez:j9 (a' p.l)=mn (false||decide (p.l[0].lJ<9)) p.l[0]:=Iv (by rintro (z | z);exact a2 z;exact a3 z);have hk:(p.l[0].k=25)=False:=anA a2;have jQ:(p.l[0].k=34)=False:=anA a3;have bT:0<p.l.length:=by omega
     have dd:1<p.l.length:=by omega
     have hw:cK p.k p.n p.s (a' p.l)=mn (false||decide (p.l[0].lJ<9)) p.l[0]++(cO 10 (p.l[1],p.l[1].words)):=by simp [cK,z,ez,hk,jQ,cE,cF,cD,eU _ _ _ bT,eU _ _ _ dd,dp]
     rw [hw] at aM ⊢
     try simp only [aT] at aM
     obtain ⟨ko,fc,v1,jy,hn⟩:=eM aY bx b6 0 0 rfl bT;obtain ⟨g1,j3,g',gY⟩:=je J [.int .i64 0,.int .i64 0,.int .i64 0,.str [],.cr] (bN p.l[0] v1);simp only [bN] at j3 gY;have h9:=aY.ext g';have lO:=jd W aG h9;have ao:=FQ bR p.l[0] (dF _ (anB bT)).1 (dF _ (anB bT)).2 (ei _ (anB bT)) 9 false b g1 aP v1 ws h9.w (jy.ext g') (by first | omega | (simp only [aT];omega));simp only [ag,aG.g,z,ez,hk,jQ,hn,j3,gY.g,lO.g,↓aa,ae,simprocAttr];refine bS ao h9 W aG fun ad b7 aI br=>?_;obtain ⟨hz,fA,v2,gk,fv⟩:=eM aI bx b6 1 1 rfl dd;simp only [br.g,z,ez,hk,jQ,fv,↓aa,ae,simprocAttr];refine bS (qO (J:=J) bR aL an ei dd 10 (by omega) (.inr (ji _ (anB dd))) aI.w gk (by simp only [aT];omega)) aI W aG fun aC dk bL cl=>?_;simp only [cl.g,z,ez,hk,jQ,↓aa,ae,simprocAttr];exact ⟨rfl,_,cw (bL.b' al) (by simp)⟩
 . have z:=And.intro ol (And.intro bK (ma e));have bT:0<p.l.length:=by have:=uq an (by omega);omega
   have ji:∀q ∈ p.l,20<=q.k:=fun q aq=>(kh an (by omega) aq).1;have ei:∀q ∈ p.l,q.k<45:=fun q aq=>(kh an (by omega) aq).2;have hw:cK p.k p.n p.s (a' p.l)=[kw [114,97,105,115,101]]++(cO 10 (p.l[0],p.l[0].words)):=by simp [cK,z,cE,cF,cD,eU _ _ _ bT,dp]
   rw [hw] at aM ⊢
   try simp only [aT] at aM
   simp only [ag,aG.g,z,↓aa,ae,simprocAttr];refine bS (eE [114,97,105,115,101] (by decide) _ _ _ _ aY.w (by first | omega | (simp only [aT];omega))) aY W aG fun ad b7 aI br=>?_;obtain ⟨hz,fA,v2,gk,fv⟩:=eM aI bx b6 0 0 rfl bT;simp only [br.g,z,fv,↓aa,ae,simprocAttr];refine bS (qO (J:=J) bR aL an ei bT 10 (by omega) (.inr (ji _ (anB bT))) aI.w gk (by simp only [aT];omega)) aI W aG fun aC dk bL cl=>?_;simp only [cl.g,z,↓aa,ae,simprocAttr];exact ⟨rfl,_,cw (bL.b' al) (by simp)⟩
 . have z:=And.intro ol (And.intro bK (ma e));have bT:0<p.l.length:=by have:=uq an (by omega);omega
   have ji:∀q ∈ p.l,20<=q.k:=fun q aq=>(kh an (by omega) aq).1;have ei:∀q ∈ p.l,q.k<45:=fun q aq=>(kh an (by omega) aq).2;have hw:cK p.k p.n p.s (a' p.l)=[kw [33]]++(cO 8 (p.l[0],p.l[0].words)):=by simp [cK,z,cE,cF,cD,eU _ _ _ bT,dp]
   rw [hw] at aM ⊢
   try simp only [aT] at aM
   simp only [ag,aG.g,z,↓aa,ae,simprocAttr];refine bS (eE [33] (by decide) _ _ _ _ aY.w (by first | omega | (simp only [aT];omega))) aY W aG fun ad b7 aI br=>?_;obtain ⟨hz,fA,v2,gk,fv⟩:=eM aI bx b6 0 0 rfl bT;simp only [br.g,z,fv,↓aa,ae,simprocAttr];refine bS (qO (J:=J) bR aL an ei bT 8 (by omega) (.inr (ji _ (anB bT))) aI.w gk (by simp only [aT];omega)) aI W aG fun aC dk bL cl=>?_;simp only [cl.g,z,↓aa,ae,simprocAttr];exact ⟨rfl,_,cw (bL.b' al) (by simp)⟩
 . have z:=And.intro ol (And.intro bK (ma e));have bT:0<p.l.length:=by have:=uq an (by omega);omega
   have ji:∀q ∈ p.l,20<=q.k:=fun q aq=>(kh an (by omega) aq).1;have ei:∀q ∈ p.l,q.k<45:=fun q aq=>(kh an (by omega) aq).2;have hw:cK p.k p.n p.s (a' p.l)=[kw [45]]++(cO 8 (p.l[0],p.l[0].words)):=by simp [cK,z,cE,cF,cD,eU _ _ _ bT,dp]
   rw [hw] at aM ⊢
   try simp only [aT] at aM
   simp only [ag,aG.g,z,↓aa,ae,simprocAttr];refine bS (eE [45] (by decide) _ _ _ _ aY.w (by first | omega | (simp only [aT];omega))) aY W aG fun ad b7 aI br=>?_;obtain ⟨hz,fA,v2,gk,fv⟩:=eM aI bx b6 0 0 rfl bT;simp only [br.g,z,fv,↓aa,ae,simprocAttr];refine bS (qO (J:=J) bR aL an ei bT 8 (by omega) (.inr (ji _ (anB bT))) aI.w gk (by simp only [aT];omega)) aI W aG fun aC dk bL cl=>?_;simp only [cl.g,z,↓aa,ae,simprocAttr];exact ⟨rfl,_,cw (bL.b' al) (by simp)⟩
 . have z:=And.intro ol (And.intro bK (ma e));have bT:0<p.l.length:=by have:=iS an (by omega);omega
   have dd:1<p.l.length:=by have:=iS an (by omega);omega
   have ei:∀q ∈ p.l,q.k<45:=fun q aq=>(BU an (by omega) aq).2;have hw:cK p.k p.n p.s (a' p.l)=[kw [102,117,110]]++(p.l[0].words++([kw [45,62]]++(p.l[1].words))):=by simp [cK,ht,ek,z,cE,cF,cD,eU _ _ _ bT,eU _ _ _ dd,dp]
   rw [hw] at aM ⊢
   try simp only [aT] at aM
   simp only [ag,aG.g,z,↓aa,ae,simprocAttr];refine bS (eE [102,117,110] (by decide) _ _ _ _ aY.w (by first | omega | (simp only [aT];omega))) aY W aG fun ad b7 aI br=>?_;obtain ⟨hz,fA,v2,gk,fv⟩:=eM aI bx b6 0 0 rfl bT;simp only [br.g,z,fv,↓aa,ae,simprocAttr];refine bS (rW bR aL an bT (ei _ (anB bT)) aI.w gk (by simp only [aT];omega)) aI W aG fun aC dk bL cl=>?_;simp only [cl.g,z,↓aa,ae,simprocAttr];refine bS (eE [45,62] (by decide) _ _ _ _ bL.w (by simp only [aT];omega)) bL W aG fun bn gd cG fI=>?_;obtain ⟨zN,y4,v4,oN,oO⟩:=eM cG bx b6 1 1 rfl dd;simp only [fI.g,z,oO,↓aa,ae,simprocAttr];refine bS (rW bR aL an dd (ei _ (anB dd)) cG.w oN (by simp only [aT];omega)) cG W aG fun b0 gT cL fJ=>?_;simp only [fJ.g,z,↓aa,ae,simprocAttr];exact ⟨rfl,_,cw (cL.b' al) (by simp)⟩
 . have z:=And.intro ol (And.intro bK (ma e));have hw:cK p.k p.n p.s (a' p.l)=ht p.k (a' p.l):=by simp [cK,z,cE,cF,cD,dp]
   rw [hw] at aM ⊢
   try simp only [aT] at aM
   simp only [ag,aG.g,z,↓aa,ae,simprocAttr];refine bS (Ug bR p aL an (by omega) _ _ _ w _ aY.w (aY.cs bx eG) (by first | omega | (simp only [aT];omega))) aY W aG fun ad b7 aI br=>?_;simp only [br.g,z,↓aa,ae,simprocAttr];exact ⟨rfl,_,cw (aI.b' al) (by simp)⟩
 . have z:=And.intro ol (And.intro bK (ma e));have hw:cK p.k p.n p.s (a' p.l)=ht p.k (a' p.l):=by simp [cK,z,cE,cF,cD,dp]
   rw [hw] at aM ⊢
   try simp only [aT] at aM
   simp only [ag,aG.g,z,↓aa,ae,simprocAttr];refine bS (Ug bR p aL an (by omega) _ _ _ w _ aY.w (aY.cs bx eG) (by first | omega | (simp only [aT];omega))) aY W aG fun ad b7 aI br=>?_;simp only [br.g,z,↓aa,ae,simprocAttr];exact ⟨rfl,_,cw (aI.b' al) (by simp)⟩
 . have z:=And.intro ol (And.intro bK (ma e));have wl:IntKind.i64.wrap ((p.l.length:Int)-1)=((p.l.length-1:Nat):Int):=by have:=ur an (by omega);rw [wrap_i64 (by omega) (by unfold top at hle;omega)];omega
   have tS:p.l.length-1<p.l.length:=by have:=ur an (by omega);omega
   have A4:=ael an e tS;have hw:cK p.k p.n p.s (a' p.l)=kw [108,101,116]::kw [114,101,99]::eD Prod.snd [97,110,100] (a' (p.l.take (p.l.length-1)))++([kw [105,110]]++(p.l[p.l.length-1].words)):=by simp [cK,ht,ek,z,wl,cE,cF,cD,eU _ _ _ tS,dp]
   rw [hw] at aM ⊢
   try simp only [aT] at aM
   have Am:=aY.dZ bx b6;obtain ⟨ko,bX,L0⟩:=ch.take Am (k:=.i64) (i:=p.l.length-1) (by rw [anK];omega);rw [<-aps] at L0;simp only [ag,aG.g,z,wl,bX,↓aa,ae,simprocAttr];refine bS (TW bR (p.l.take (p.l.length-1)) (fun q aq=>⟨by have:=(dF q (aoq aq)).1;omega,(dF q (aoq aq)).2,A4.2 q aq⟩) _ _ _ ko _ aY.w L0 (by first | omega | (simp only [aT];omega))) aY W aG fun ad b7 aI br=>?_;simp only [br.g,z,wl,↓aa,ae,simprocAttr];refine bS (eE [105,110] (by decide) _ _ _ _ aI.w (by simp only [aT];omega)) aI W aG fun aC dk bL cl=>?_;obtain ⟨pV,y3,v3,oM,nf⟩:=eM bL bx b6 (p.l.length-1) _ rfl tS;simp only [cl.g,z,wl,nf,↓aa,ae,simprocAttr];refine bS (rW bR aL an tS A4.1.2 bL.w oM (by simp only [aT];omega)) bL W aG fun bn gd cG fI=>?_;simp only [fI.g,z,wl,↓aa,ae,simprocAttr];exact ⟨rfl,_,cw (cG.b' al) (by simp)⟩
 . have z:=And.intro ol (And.intro bK (ma e));have e6:=ur an (by omega);have bT:0<p.l.length:=by omega
   have hw:cK p.k p.n p.s (a' p.l)=kw [40]::kw [109,97,116,99,104]::(p.l[0].words++kw [119,105,116,104]::(eD Prod.snd [124] (a' (p.l.drop 1))++[kw [41]])):=by simp [cK,ht,ek,z,cE,cF,cD,eU _ _ _ bT,dp,-List.drop_one]
   rw [hw] at aM ⊢
   try simp only [aT] at aM
   simp only [ag,aG.g,z,↓aa,ae,simprocAttr];refine bS (TY bR p aL an (by omega) [109,97,116,99,104] (by decide) _ _ _ w _ aY.w b6 bT (by first | omega | (simp only [aT];omega))) aY W aG fun ad b7 aI br=>?_;simp only [br.g,z,↓aa,ae,simprocAttr];exact ⟨rfl,_,cw (aI.b' al) (by simp)⟩
 . have z:=And.intro ol (And.intro bK (ma e));have e6:=ur an (by omega);have bT:0<p.l.length:=by omega
   have hw:cK p.k p.n p.s (a' p.l)=kw [40]::kw [116,114,121]::(p.l[0].words++kw [119,105,116,104]::(eD Prod.snd [124] (a' (p.l.drop 1))++[kw [41]])):=by simp [cK,ht,ek,z,cE,cF,cD,eU _ _ _ bT,dp,-List.drop_one]
   rw [hw] at aM ⊢
   try simp only [aT] at aM
   simp only [ag,aG.g,z,↓aa,ae,simprocAttr];refine bS (TY bR p aL an (by omega) [116,114,121] (by decide) _ _ _ w _ aY.w b6 bT (by first | omega | (simp only [aT];omega))) aY W aG fun ad b7 aI br=>?_;simp only [br.g,z,↓aa,ae,simprocAttr];exact ⟨rfl,_,cw (aI.b' al) (by simp)⟩
 . have z25:=anA (show ¬p.k=25 by omega);have z26:=anA (show ¬p.k=26 by omega);have nJ:=anA (show ¬p.k=35 by omega);have z37:=anA (show ¬p.k=37 by omega);have pZ:=anA (show ¬p.k=38 by omega);have z28:=anA (show ¬p.k=28 by omega);have z34:=anA (show ¬p.k=34 by omega);have z36:=anA (show ¬p.k=36 by omega);have z39:=anA (show ¬p.k=39 by omega);have z27:=anA (show ¬p.k=27 by omega);have qX:=anA (show ¬p.k=29 by omega);have z31:=anA (show ¬p.k=31 by omega);have qY:=anA (show ¬p.k=30 by omega);have Vx:=anA (show ¬p.k=32 by omega);have z33:=anA (show ¬p.k=33 by omega);have z:=And.intro ol bK
   try simp only [aT] at aM
   simp only [ag,aG.g,z,z25,z26,nJ,z37,pZ,z28,z34,z36,z39,z27,qX,z31,qY,Vx,z33,↓aa,ae,simprocAttr];refine bS (ajq bR p aL an e _ _ _ w _ aY.w (aY.cs bx eG) (by first | omega | (simp only [aT];omega))) aY W aG fun ad b7 aI br=>?_;simp only [br.g,z,z25,z26,nJ,z37,pZ,z28,z34,z36,z39,z27,qX,z31,qY,Vx,z33,↓aa,ae,simprocAttr];exact ⟨rfl,_,cw (aI.b' al) (by simp)⟩
theorem ajT {n:Nat} (bR:kr n):kr (n+1):=by
 intro p aL an QM b h aP w ws W X aM;have cz:=jA X;have ol:=cz.one;obtain ⟨J,ag,al,aG⟩:=f' h (bN p w);have bx:=W.ext al;have eG:=X.ext al;have hw:=zR p;unfold pe at hw;rw [hw] at aM ⊢;refine Ye.z rfl (ck ?_);unfold c49;by_cases bX:p.k<10
 . rw [anL bX] at aM ⊢;have c:=ajX bR p aL an bX b J aP w ws bx eG aM;simp only [bN] at ag aG c ⊢;simp only [ag,aG.g,ol,anJ bX,↓aa,ae,simprocAttr];refine bq c ?_;rintro x ad ⟨rfl,b7,E⟩;simp only [↓aa,ae,simprocAttr];exact ⟨rfl,b7,E.b' al⟩
 rw [anE bX] at aM ⊢;by_cases b_:p.k<20
 . rw [anL b_] at aM ⊢;have c:=ajU bR p aL an ⟨by omega,b_⟩ b J aP w ws bx eG aM;simp only [bN] at ag aG c ⊢;simp only [ag,aG.g,ol,anA bX,anJ b_,↓aa,ae,simprocAttr];refine bq c ?_;rintro x ad ⟨rfl,b7,E⟩;simp only [↓aa,ae,simprocAttr];exact ⟨rfl,b7,E.b' al⟩
 rw [anE b_,anL QM] at aM ⊢;have c:=ajH bR p aL an ⟨by omega,QM⟩ b J aP w ws bx eG aM;simp only [bN] at ag aG c ⊢;simp only [ag,aG.g,ol,anA bX,anA b_,↓aa,ae,simprocAttr];refine bq c ?_;rintro x ad ⟨rfl,b7,E⟩;simp only [↓aa,ae,simprocAttr];exact ⟨rfl,b7,E.b' al⟩
theorem Uk:∀n,kr n
 | 0=>fun p aL=>absurd (w6 p) (by omega)
 | n+1=>ajT (Uk n)
theorem BY {k c:Int} (e:k=c):(k=45)=(c=45)/\(k=46)=(c=46)/\(k=47)=(c=47)/\(k=51)=(c=51)/\(k=52)=(c=52)/\(k=53)=(c=53)/\(k=50)=(c=50):=by simp only [e,apl]
theorem CF {n:Nat} (bR:kr n) (p:aQ) (aL:p.size<=n+1) (an:c6 p) (ay:p.k=47\/p.k=51) (b:Nat) (h:ah) (aP w:V) (ws:List bt) (W:eO [] b h aP ws) (X:cg (dU b) h p.enc (bN p w))
 (aM:ws.length + (dK 4 p.s::eY iU (a' p.l)).length<=1000000000):b8 Tryz.prog 48 [.ptr (aD b) 0,.agg (bN p w)] h (jx b h aP ws (dK 4 p.s::eY iU (a' p.l))):=by
 have cz:=jA X;have ol:=cz.one;have dF:∀q ∈ p.l,q.size<=n/\c6 q:=fun q aq=>⟨by have:=h4 aq;omega,jj an aq⟩;obtain ⟨J,ag,al,aG⟩:=f' h (bN p w);have bx:=W.ext al;have eG:=X.ext al;have b6:=cz.ext al;have bK:=b6.len;have hle:=b6.le;rw [anK] at bK hle;have aY:eT [] b J aP J aP ws:=fM.refl bx;refine Yd.z rfl (ck ?_);unfold N0;simp only [bN] at ag aG ⊢;by_cases de:p.l.length=1
 . have z:=And.intro ol bK;have bf:((p.l.length:Int)=1)=True:=anJ (by omega);have bT:0<p.l.length:=by omega
   have ei:∀q ∈ p.l,q.k<45:=fun q aq=>by have:=yY an (by omega) aq;omega
   have mI:a' p.l=[(p.l[0],p.l[0].words)]:=by rw [rU];match p.l,de,bT with | [a],_,_=>rfl
   have hw:dK 4 p.s::eY iU (a' p.l)=[dK 4 p.s]++([kw [111,102]]++(p.l[0].words)):=by simp [z,bf,mI,eY,iU,cE,cF,cD,eU _ _ _ bT,dp]
   rw [hw] at aM ⊢
   try simp only [aT] at aM
   simp only [ag,aG.g,z,bf,↓aa,ae,simprocAttr];refine bS (nI 4 p.s _ _ _ _ aY.w (by first | omega | (simp only [aT];omega))) aY W aG fun ad b7 aI br=>?_;simp only [br.g,z,bf,↓aa,ae,simprocAttr];refine bS (eE [111,102] (by decide) _ _ _ _ aI.w (by simp only [aT];omega)) aI W aG fun aC dk bL cl=>?_;obtain ⟨pV,y3,v3,oM,nf⟩:=eM bL bx b6 0 0 rfl bT;simp only [cl.g,z,bf,nf,↓aa,ae,simprocAttr];refine bS (rW bR aL an bT (ei _ (anB bT)) bL.w oM (by simp only [aT];omega)) bL W aG fun bn gd cG fI=>?_;simp only [fI.g,z,bf,↓aa,ae,simprocAttr];exact ⟨rfl,_,cw (cG.b' al) (by simp)⟩
 . have z:=And.intro ol bK;have bf:((p.l.length:Int)=1)=False:=anA (by have:=B5 an (by omega);omega);have mI:a' p.l=[]:=by rw [aog (show p.l.length=0 by have:=B5 an (by omega);omega)];rfl
   have hw:dK 4 p.s::eY iU (a' p.l)=[dK 4 p.s]:=by simp [z,bf,mI,eY,cE,cF,cD,dp]
   rw [hw] at aM ⊢
   try simp only [aT] at aM
   simp only [ag,aG.g,z,bf,↓aa,ae,simprocAttr];refine bS (nI 4 p.s _ _ _ _ aY.w (by first | omega | (simp only [aT];omega))) aY W aG fun ad b7 aI br=>?_;simp only [br.g,z,bf,↓aa,ae,simprocAttr];exact ⟨rfl,_,cw (aI.b' al) (by simp)⟩
theorem Ml:cO 1=Prod.snd:=funext dp
theorem JO {p:aQ} (an:c6 p) (e:p.k=50):(∀q ∈ p.l.take p.n.toNat,q.k=1)/\∀i (au:i<p.l.length),p.n.toNat<=i->p.l[i].k=47:=by
 have Eg:=EZ an e;refine ⟨fun q aq=>?_,fun i au aX=>?_⟩
 . obtain ⟨i,au,rfl⟩:=apE aq;have kf:i<p.n.toNat:=by rw [aod] at au;omega
   rw [List.getElem_take];obtain ⟨g,a,b,_⟩:=uo an i (by omega);rw [e] at a;simp only [cQ,Int.reduceEq,apm,apA,apO,apP,apR,an7,an4] at a;rw [anX (by rw [anF];exact kf)] at a;obtain rfl:=uP a;exact abD b
 . obtain ⟨g,a,b,_⟩:=uo an i au;rw [e] at a;simp only [cQ,Int.reduceEq,apm,apA,apO,apP,apR,an7,an4] at a;rw [anW (by rw [anF];exact aX)] at a;obtain rfl:=uP a;exact abC b
theorem aem {p:aQ} (an:c6 p) (e:p.k=53):∀q ∈ p.l,q.k=46:=by intro q aq;obtain ⟨i,au,g,_,a,b⟩:=BZ an e aq;obtain rfl:=uP (a:=5) (by simpa only [cQ,Int.reduceEq,apm,apA,apO,apP,apR,an7,an4] using a);exact Qi b
theorem O8 {q:aQ} (e:q.k=47):q.words=dK 4 q.s::eY iU (a' q.l):=by rw [zR,e];simp only [pe,f_,Int.reduceLT,Int.reduceEq,apO,apP,apm,apA,an7,an4,anP]
theorem ajt {n:Nat} (bR:kr n) (p:aQ) (aL:p.size<=n+1) (an:c6 p) (ay:50<=p.k) (b:Nat) (h:ah) (aP w:V) (ws:List bt) (W:eO [] b h aP ws) (X:cg (dU b) h p.enc (bN p w))
 (aM:ws.length + (f_ p.k p.n p.s (a' p.l)++[kw [59,59]]).length<=1000000000):b8 Tryz.prog 26 [.ptr (aD b) 0,.agg (bN p w)] h (jx b h aP ws (f_ p.k p.n p.s (a' p.l)++[kw [59,59]])):=by
 have cz:=jA X;have ol:=cz.one;have dF:∀q ∈ p.l,q.size<=n/\c6 q:=fun q aq=>⟨by have:=h4 aq;omega,jj an aq⟩;obtain ⟨J,ag,al,aG⟩:=f' h (bN p w);have bx:=W.ext al;have eG:=X.ext al;have b6:=cz.ext al;have bK:=b6.len;have hle:=b6.le;rw [anK] at bK hle;have aY:eT [] b J aP J aP ws:=fM.refl bx;refine XV.z rfl (ck ?_);unfold Nz;simp only [bN] at ag aG ⊢;rcases (show p.k=51\/p.k=52\/p.k=53\/p.k=50 by have:=rN an;omega) with e | e | e | e
 . have z:=And.intro ol (And.intro bK (BY e));have hw:f_ p.k p.n p.s (a' p.l)++[kw [59,59]]=[kw [101,120,99,101,112,116,105,111,110]]++(dK 4 p.s::eY iU (a' p.l)++([kw [59,59]])):=by simp [f_,ek,z,cE,cF,cD,dp]
   rw [hw] at aM ⊢
   try simp only [aT] at aM
   simp only [ag,aG.g,z,↓aa,ae,simprocAttr];refine bS (eE [101,120,99,101,112,116,105,111,110] (by decide) _ _ _ _ aY.w (by first | omega | (simp only [aT];omega))) aY W aG fun ad b7 aI br=>?_;simp only [br.g,z,↓aa,ae,simprocAttr];refine bS (CF bR p aL an (by omega) _ _ _ w _ aI.w (aI.cs bx eG) (by simp only [aT];omega)) aI W aG fun aC dk bL cl=>?_;simp only [cl.g,z,↓aa,ae,simprocAttr];refine bS (eE [59,59] (by decide) _ _ _ _ bL.w (by simp only [aT];omega)) bL W aG fun bn gd cG fI=>?_;simp only [fI.g,z,↓aa,ae,simprocAttr];exact ⟨rfl,_,cw (cG.b' al) (by simp)⟩
 . have z:=And.intro ol (And.intro bK (BY e));have bT:0<p.l.length:=by have:=iS an (by omega);omega
   have dd:1<p.l.length:=by have:=iS an (by omega);omega
   have ei:∀q ∈ p.l,q.k<45:=fun q aq=>(BU an (by omega) aq).2;have hw:f_ p.k p.n p.s (a' p.l)++[kw [59,59]]=[kw [108,101,116]]++(p.l[0].words++([kw [61]]++(p.l[1].words++([kw [59,59]])))):=by simp [f_,ek,z,cE,cF,cD,eU _ _ _ bT,eU _ _ _ dd,dp]
   rw [hw] at aM ⊢
   try simp only [aT] at aM
   simp only [ag,aG.g,z,↓aa,ae,simprocAttr];refine bS (eE [108,101,116] (by decide) _ _ _ _ aY.w (by first | omega | (simp only [aT];omega))) aY W aG fun ad b7 aI br=>?_;obtain ⟨hz,fA,v2,gk,fv⟩:=eM aI bx b6 0 0 rfl bT;simp only [br.g,z,fv,↓aa,ae,simprocAttr];refine bS (rW bR aL an bT (ei _ (anB bT)) aI.w gk (by simp only [aT];omega)) aI W aG fun aC dk bL cl=>?_;simp only [cl.g,z,↓aa,ae,simprocAttr];refine bS (eE [61] (by decide) _ _ _ _ bL.w (by simp only [aT];omega)) bL W aG fun bn gd cG fI=>?_;obtain ⟨zN,y4,v4,oN,oO⟩:=eM cG bx b6 1 1 rfl dd;simp only [fI.g,z,oO,↓aa,ae,simprocAttr];refine bS (rW bR aL an dd (ei _ (anB dd)) cG.w oN (by simp only [aT];omega)) cG W aG fun b0 gT cL fJ=>?_;simp only [fJ.g,z,↓aa,ae,simprocAttr];refine bS (eE [59,59] (by decide) _ _ _ _ cL.w (by simp only [aT];omega)) cL W aG fun eo ux ja lN=>?_;simp only [lN.g,z,↓aa,ae,simprocAttr];exact ⟨rfl,_,cw (ja.b' al) (by simp)⟩
 . have z:=And.intro ol (And.intro bK (BY e));have hw:f_ p.k p.n p.s (a' p.l)++[kw [59,59]]=kw [108,101,116]::kw [114,101,99]::eD Prod.snd [97,110,100] (a' p.l)++([kw [59,59]]):=by simp [f_,ek,z,cE,cF,cD,dp]
   rw [hw] at aM ⊢
   try simp only [aT] at aM
   simp only [ag,aG.g,z,↓aa,ae,simprocAttr];refine bS (TW bR p.l (fun q aq=>⟨by have:=(dF q aq).1;omega,(dF q aq).2,aem an e q aq⟩) _ _ _ w _ aY.w b6 (by first | omega | (simp only [aT];omega))) aY W aG fun ad b7 aI br=>?_;simp only [br.g,z,↓aa,ae,simprocAttr];refine bS (eE [59,59] (by decide) _ _ _ _ aI.w (by simp only [aT];omega)) aI W aG fun aC dk bL cl=>?_;simp only [cl.g,z,↓aa,ae,simprocAttr];exact ⟨rfl,_,cw (bL.b' al) (by simp)⟩
 . have Eg:=EZ an e;have oW:((p.n.toNat:Nat):Int)=p.n:=Int.toNat_of_nonneg Eg.1;have RY:∀q ∈ p.l.take p.n.toNat,q.k<45:=fun q aq=>by have:=(JO an e).1 q aq;omega
   by_cases aj:1<p.n
   . have z:=And.intro ol (And.intro bK (BY e));have gX:(1<p.n)=True:=anJ aj;have hw:f_ p.k p.n p.s (a' p.l)++[kw [59,59]]=[kw [116,121,112,101]]++([kw [40]]++(eD (cO 1) [44] (a' (p.l.take (p.n.toNat)))++([kw [41]]++([dK 3 p.s]++([kw [61]]++(eD Prod.snd [124] (a' (p.l.drop p.n.toNat))++([kw [59,59]]))))))):=by simp [f_,ek,z,gX,Ml,cE,cF,cD,dp,-List.drop_one]
     rw [hw] at aM ⊢
     try simp only [aT] at aM
     simp only [ag,aG.g,z,gX,↓aa,ae,simprocAttr];refine bS (eE [116,121,112,101] (by decide) _ _ _ _ aY.w (by first | omega | (simp only [aT];omega))) aY W aG fun ad b7 aI br=>?_;simp only [br.g,z,gX,↓aa,ae,simprocAttr];refine bS (eE [40] (by decide) _ _ _ _ aI.w (by simp only [aT];omega)) aI W aG fun aC dk bL cl=>?_;have GV:=bL.dZ bx b6;obtain ⟨pV,dY,Ao⟩:=ch.take GV (k:=.i64) (i:=p.n.toNat) (by rw [anK];omega);rw [<-aps] at Ao;have qE:gN 5 w none (some (.int .i64 p.n)) none=some pV:=by have z:=dY;rw [oW] at z;exact z
     simp only [cl.g,z,gX,qE,↓aa,ae,simprocAttr];refine bS (CE bR (p.l.take (p.n.toNat)) (fun q aq=>⟨(dF _ (aoq aq)).1,(dF _ (aoq aq)).2,RY _ aq⟩) pV [44] (by decide) 1 (by omega) _ _ _ _ bL.w Ao (by simp only [aT];omega)) bL W aG fun bn gd cG fI=>?_;simp only [fI.g,z,gX,↓aa,ae,simprocAttr];refine bS (eE [41] (by decide) _ _ _ _ cG.w (by simp only [aT];omega)) cG W aG fun b0 gT cL fJ=>?_;simp only [fJ.g,z,gX,↓aa,ae,simprocAttr];refine bS (nI 3 p.s _ _ _ _ cL.w (by simp only [aT];omega)) cL W aG fun eo ux ja lN=>?_;simp only [lN.g,z,gX,↓aa,ae,simprocAttr];refine bS (eE [61] (by decide) _ _ _ _ ja.w (by simp only [aT];omega)) ja W aG fun fl wS mx oG=>?_;simp only [oG.g,z,gX,↓aa,ae,simprocAttr];refine fE (fun r g=>r 0=.ptr (aD b) 0/\r 3=.ptr (aD h.next) 0/\∃(i:Nat) (di:V) (Z:List bt),r 4=.int .i64 i/\p.n.toNat<=i/\i<=p.l.length/\eT [] b J aP g di (((((((ws++[kw [116,121,112,101]])++[kw [40]])++eD (cO 1) [44] (a' (p.l.take (p.n.toNat))))++[kw [41]])++[dK 3 p.s])++[kw [61]])++Z)/\Z++qU Prod.snd [124] (p.l.drop p.n.toNat) (i-p.n.toNat)=eD Prod.snd [124] (a' (p.l.drop p.n.toNat))) (fun r g=>p.l.length - (r 4).toN) ?_ ?_
     . refine ⟨by simp only [↓aa,cm,simprocAttr],by simp only [↓aa,cm,simprocAttr],p.n.toNat,wS,[],by simp only [oW,↓aa,cm,simprocAttr],by omega,by omega,by rw [an_];exact mx,by rw [apf];rfl⟩
     rintro r g ⟨ba,bY,i,hU,Z,dR,dd,au,fK,cS⟩;have u7:=jd W aG fK;unfold Hv;by_cases aH:i<p.l.length
     . have g0:((i:Int) < (p.l.length:Int))=True:=anJ (by omega);have dm:=iI aH (by unfold top at hle;omega);have Bg:i-p.n.toNat < (p.l.drop p.n.toNat).length:=by rw [an1];omega
       have Bk:(p.l.drop p.n.toNat)[i-p.n.toNat]=p.l[i]:=by rw [List.getElem_drop];congr 1;omega
       rw [zL Prod.snd [124] (p.l.drop p.n.toNat) (i-p.n.toNat) Bg,Bk] at cS;obtain ⟨wx,nx⟩:=dF _ (anB aH);have qx:=(JO an e).2 i aH dd;have l1:=O8 qx;have hlen:=congrArg List.length cS;rw [l1] at cS hlen;simp only [anw,anz] at hlen;by_cases a6:i=p.n.toNat
       . have iy:(p.n < (i:Int))=False:=anA (by omega);rw [anL (show i-p.n.toNat=0 by omega),anP] at cS;rw [anL (show i-p.n.toNat=0 by omega),anH] at hlen;obtain ⟨mq,xr,hH,nd,lV⟩:=eM fK bx b6 i _ rfl aH;have ao:=CF bR p.l[i] (by omega) nx (.inl qx) b g hU hH _ fK.w nd (by simp only [anw,anz,anH];omega);simp only [ba,bY,dR,u7.g,ol.1,bK,g0,iy,lV,↓aa,ae,simprocAttr];refine bq ao ?_;rintro x H' ⟨rfl,wU,vc⟩;have p5:=fK.trans vc;simp only [anG] at p5;simp only [ba,bY,dR,dm,↓aa,ae,simprocAttr];refine ⟨⟨i+1,wU,Z++(dK 4 p.l[i].s::eY iU (a' p.l[i].l)),rfl,by omega,aH,?_,?_⟩,by omega⟩
         . simp only [anG];exact p5
         . rw [show i+1-p.n.toNat=i-p.n.toNat+1 by omega,<-cS];simp only [anG,anO,anP]
       . have iy:(p.n < (i:Int))=True:=anJ (by omega);rw [anE (show ¬i-p.n.toNat=0 by omega)] at cS;rw [anE (show ¬i-p.n.toNat=0 by omega),anz,anH] at hlen;simp only [ba,bY,dR,u7.g,ol.1,bK,g0,iy,↓aa,ae,simprocAttr];refine bq (eE [124] (by decide) b g hU _ fK.w (by simp only [anw,anz,anH];omega)) ?_;rintro x g5 ⟨rfl,gT,kL⟩;have cL:=fK.trans kL;have fJ:=jd W aG cL;obtain ⟨mq,xr,hH,nd,lV⟩:=eM cL bx b6 i _ rfl aH;have ao:=CF bR p.l[i] (by omega) nx (.inl qx) b g5 gT hH _ cL.w nd (by simp only [anw,anz,anH];omega);simp only [ba,bY,dR,fJ.g,ol.1,bK,lV,↓aa,ae,simprocAttr];refine bq ao ?_;rintro x H' ⟨rfl,wU,vc⟩;have p5:=cL.trans vc;simp only [anG] at p5;simp only [ba,bY,dR,dm,↓aa,ae,simprocAttr];refine ⟨⟨i+1,wU,Z++([kw [124]]++(dK 4 p.l[i].s::eY iU (a' p.l[i].l))),rfl,by omega,aH,?_,?_⟩,by omega⟩
         . simp only [anG];exact p5
         . rw [show i+1-p.n.toNat=i-p.n.toNat+1 by omega,<-cS];simp only [anG,anO,anP]
     . have g0:((i:Int) < (p.l.length:Int))=False:=anA (by omega);rw [zK Prod.snd [124] (p.l.drop p.n.toNat) (i-p.n.toNat) (by rw [an1];omega),an_] at cS;rw [cS] at fK;simp only [ba,bY,dR,u7.g,ol.1,bK,g0,↓aa,ae,simprocAttr];refine bq (eE [59,59] (by decide) b g hU _ fK.w (by simp only [anw,anz,anH];omega)) ?_;rintro x g5 ⟨rfl,gT,kL⟩;simp only [↓aa,ae,simprocAttr];exact ⟨rfl,_,cw ((fK.trans kL).b' al) (by simp)⟩
   . have z:=And.intro ol (And.intro bK (BY e));have gX:(1<p.n)=False:=anA aj;have hw:f_ p.k p.n p.s (a' p.l)++[kw [59,59]]=[kw [116,121,112,101]]++(eD (cO 1) [44] (a' (p.l.take (p.n.toNat)))++([dK 3 p.s]++([kw [61]]++(eD Prod.snd [124] (a' (p.l.drop p.n.toNat))++([kw [59,59]]))))):=by simp [f_,ek,z,gX,Ml,cE,cF,cD,dp,-List.drop_one]
     rw [hw] at aM ⊢
     try simp only [aT] at aM
     simp only [ag,aG.g,z,gX,↓aa,ae,simprocAttr];refine bS (eE [116,121,112,101] (by decide) _ _ _ _ aY.w (by first | omega | (simp only [aT];omega))) aY W aG fun ad b7 aI br=>?_;have h':=aI.dZ bx b6;obtain ⟨hz,b_,tt⟩:=ch.take h' (k:=.i64) (i:=p.n.toNat) (by rw [anK];omega);rw [<-aps] at tt;have BQ:gN 5 w none (some (.int .i64 p.n)) none=some hz:=by have z:=b_;rw [oW] at z;exact z
     simp only [br.g,z,gX,BQ,↓aa,ae,simprocAttr];refine bS (CE bR (p.l.take (p.n.toNat)) (fun q aq=>⟨(dF _ (aoq aq)).1,(dF _ (aoq aq)).2,RY _ aq⟩) hz [44] (by decide) 1 (by omega) _ _ _ _ aI.w tt (by simp only [aT];omega)) aI W aG fun aC dk bL cl=>?_;simp only [cl.g,z,gX,↓aa,ae,simprocAttr];refine bS (nI 3 p.s _ _ _ _ bL.w (by simp only [aT];omega)) bL W aG fun bn gd cG fI=>?_;simp only [fI.g,z,gX,↓aa,ae,simprocAttr];refine bS (eE [61] (by decide) _ _ _ _ cG.w (by simp only [aT];omega)) cG W aG fun b0 gT cL fJ=>?_;simp only [fJ.g,z,gX,↓aa,ae,simprocAttr];refine fE (fun r g=>r 0=.ptr (aD b) 0/\r 3=.ptr (aD h.next) 0/\∃(i:Nat) (di:V) (Z:List bt),r 4=.int .i64 i/\p.n.toNat<=i/\i<=p.l.length/\eT [] b J aP g di (((((ws++[kw [116,121,112,101]])++eD (cO 1) [44] (a' (p.l.take (p.n.toNat))))++[dK 3 p.s])++[kw [61]])++Z)/\Z++qU Prod.snd [124] (p.l.drop p.n.toNat) (i-p.n.toNat)=eD Prod.snd [124] (a' (p.l.drop p.n.toNat))) (fun r g=>p.l.length - (r 4).toN) ?_ ?_
     . refine ⟨by simp only [↓aa,cm,simprocAttr],by simp only [↓aa,cm,simprocAttr],p.n.toNat,gT,[],by simp only [oW,↓aa,cm,simprocAttr],by omega,by omega,by rw [an_];exact cL,by rw [apf];rfl⟩
     rintro r g ⟨ba,bY,i,hU,Z,dR,dd,au,fK,cS⟩;have u7:=jd W aG fK;unfold Hv;by_cases aH:i<p.l.length
     . have g0:((i:Int) < (p.l.length:Int))=True:=anJ (by omega);have dm:=iI aH (by unfold top at hle;omega);have Bg:i-p.n.toNat < (p.l.drop p.n.toNat).length:=by rw [an1];omega
       have Bk:(p.l.drop p.n.toNat)[i-p.n.toNat]=p.l[i]:=by rw [List.getElem_drop];congr 1;omega
       rw [zL Prod.snd [124] (p.l.drop p.n.toNat) (i-p.n.toNat) Bg,Bk] at cS;obtain ⟨wx,nx⟩:=dF _ (anB aH);have qx:=(JO an e).2 i aH dd;have l1:=O8 qx;have hlen:=congrArg List.length cS;rw [l1] at cS hlen;simp only [anw,anz] at hlen;by_cases a6:i=p.n.toNat
       . have iy:(p.n < (i:Int))=False:=anA (by omega);rw [anL (show i-p.n.toNat=0 by omega),anP] at cS;rw [anL (show i-p.n.toNat=0 by omega),anH] at hlen;obtain ⟨mq,xr,hH,nd,lV⟩:=eM fK bx b6 i _ rfl aH;have ao:=CF bR p.l[i] (by omega) nx (.inl qx) b g hU hH _ fK.w nd (by simp only [anw,anz,anH];omega);simp only [ba,bY,dR,u7.g,ol.1,bK,g0,iy,lV,↓aa,ae,simprocAttr];refine bq ao ?_;rintro x H' ⟨rfl,wU,vc⟩;have p5:=fK.trans vc;simp only [anG] at p5;simp only [ba,bY,dR,dm,↓aa,ae,simprocAttr];refine ⟨⟨i+1,wU,Z++(dK 4 p.l[i].s::eY iU (a' p.l[i].l)),rfl,by omega,aH,?_,?_⟩,by omega⟩
         . simp only [anG];exact p5
         . rw [show i+1-p.n.toNat=i-p.n.toNat+1 by omega,<-cS];simp only [anG,anO,anP]
       . have iy:(p.n < (i:Int))=True:=anJ (by omega);rw [anE (show ¬i-p.n.toNat=0 by omega)] at cS;rw [anE (show ¬i-p.n.toNat=0 by omega),anz,anH] at hlen;simp only [ba,bY,dR,u7.g,ol.1,bK,g0,iy,↓aa,ae,simprocAttr];refine bq (eE [124] (by decide) b g hU _ fK.w (by simp only [anw,anz,anH];omega)) ?_;rintro x g5 ⟨rfl,gT,kL⟩;have cL:=fK.trans kL;have fJ:=jd W aG cL;obtain ⟨mq,xr,hH,nd,lV⟩:=eM cL bx b6 i _ rfl aH;have ao:=CF bR p.l[i] (by omega) nx (.inl qx) b g5 gT hH _ cL.w nd (by simp only [anw,anz,anH];omega);simp only [ba,bY,dR,fJ.g,ol.1,bK,lV,↓aa,ae,simprocAttr];refine bq ao ?_;rintro x H' ⟨rfl,wU,vc⟩;have p5:=cL.trans vc;simp only [anG] at p5;simp only [ba,bY,dR,dm,↓aa,ae,simprocAttr];refine ⟨⟨i+1,wU,Z++([kw [124]]++(dK 4 p.l[i].s::eY iU (a' p.l[i].l))),rfl,by omega,aH,?_,?_⟩,by omega⟩
         . simp only [anG];exact p5
         . rw [show i+1-p.n.toNat=i-p.n.toNat+1 by omega,<-cS];simp only [anG,anO,anP]
     . have g0:((i:Int) < (p.l.length:Int))=False:=anA (by omega);rw [zK Prod.snd [124] (p.l.drop p.n.toNat) (i-p.n.toNat) (by rw [an1];omega),an_] at cS;rw [cS] at fK;simp only [ba,bY,dR,u7.g,ol.1,bK,g0,↓aa,ae,simprocAttr];refine bq (eE [59,59] (by decide) b g hU _ fK.w (by simp only [anw,anz,anH];omega)) ?_;rintro x g5 ⟨rfl,gT,kL⟩;simp only [↓aa,ae,simprocAttr];exact ⟨rfl,_,cw ((fK.trans kL).b' al) (by simp)⟩
theorem g7 {k:Int} (h:fx k=7):50<=k:=by
 unfold fx at h
 repeat' split at h
 all_goals omega
theorem ZX {q:aQ} (h:50<=q.k):q.words=f_ q.k q.n q.s (a' q.l):=by rw [zR];unfold pe;rw [anE (by omega),anE (by omega),anE (by omega)]
theorem Uq (l:List aQ) (aL:e9 l<=100000000) (v:V) (h:ah) (L:ch Any h 5 (l.map aQ.enc) v):
 b8 Tryz.prog 11 [v] h fun x ab=>∃aP,x=.tuple [aP,.int .i64 (jU l)]/\cZ h.next ab 4 aP (h7 l).length (j7 (h7 l))/\Ext h ab:=by
 have aw:=L.len;have hle:=L.le;rw [anK] at aw hle;have tZ:=CT l;refine Xx.z rfl (ck ?_);unfold MP;simp only [↓aa,ae,simprocAttr];refine bq (ajs l (by omega) v h L) ?_;rintro x J ⟨rfl,al⟩;rw [Zq l (by omega)];by_cases ao:jU l=0
 rotate_left
 . have jF:=anA ao;simp only [jF,↓aa,ae,simprocAttr];exact ⟨_,rfl,by unfold h7;rw [anE ao];exact ⟨rfl,rfl⟩,al⟩
 have wE:h7 l=fT l:=by unfold h7;rw [anL ao]
 rw [wE,ao];have sB:=EX (by omega) ao;obtain ⟨aC,aJ,cj,k2⟩:=f' J [.cr];have z7:=al.trans cj;have hold:∀q,Old h q->dU J.next q:=fun q z=>by unfold dU;unfold Old at z;have:=al.next;omega
 have GM:ch (dU J.next) aC 5 (l.map aQ.enc) v:=(L.Co.ext z7).mX hold;have tv:eO [] J.next aC .cr []:=⟨k2.g,⟨rfl,rfl⟩,k2.lt⟩
 simp only [aJ,↓aa,ae,simprocAttr];refine fE (fun r g=>r 0=v/\r 5=.ptr (aD J.next) 0/\∃(i:Nat) (di:V) (A:List bt),r 6=.int .i64 i/\i<=l.length/\eT [] J.next aC .cr g di A/\A++fT (l.drop i)=fT l) (fun r g=>l.length - (r 6).toN) ?_ ?_
 . exact ⟨by simp only [↓aa,cm,simprocAttr],by simp only [↓aa,cm,simprocAttr],0,.cr,[],by simp only [↓aa,cm,simprocAttr]<;>rfl,by omega,fM.refl tv,rfl⟩
 rintro r g ⟨ba,cW,i,hU,A,fY,au,E,dJ⟩;unfold MU;by_cases aH:i<l.length
 . have g0:((i:Int) < (l.length:Int))=True:=anJ (by omega);have dm:=iI aH (by unfold top at hle;omega);rw [anZ aH,fT] at dJ;have ll:=congrArg List.length dJ;simp only [anw,anz] at ll;have fo:l[i] ∈ l:=anB aH;have cx:=pO fo;obtain ⟨bi,zl,hH,dj,X,cz,ld,_,_,_⟩:=aQ.lx (E.dZ tv GM) (k:=.i64) aH;have rM:=ld g (Ext.refl g);have Cq:=cz.one;have wi:=sB _ fo;generalize l[i]=q at *;have ay:=g7 wi.2;rw [ZX ay] at ll dJ;have ak:=ajt (Uk q.size) q (by omega) wi.1 ay J.next g hU hH A E.w X (by rw [anw,anz,anH];omega)
   simp only [bN] at ak;simp only [ba,cW,fY,aw,g0,dm,dj,rM,Cq,↓aa,ae,simprocAttr];refine bq ak ?_;rintro x g3 ⟨rfl,dk,F⟩;have cG:=E.trans F;simp only [ba,cW,fY,dm,↓aa,ae,simprocAttr];refine ⟨⟨i+1,dk,_,rfl,aH,cG,?_⟩,by omega⟩;rw [<-dJ];simp only [anG,anO,anP]
 . have g0:((i:Int) < (l.length:Int))=False:=anA (by omega);rw [an5 (by omega),fT,an_] at dJ;subst dJ;have kR:g.get (aD J.next)=.a_ [hU] 0 false:=E.w.g;have jo:=E.w.lone;simp only [ba,cW,fY,aw,g0,kR,jo,↓aa,ae,simprocAttr];have aX:=al.next
   exact ⟨hU,rfl,E.w.o.mono (by omega),z7.me E.m fun q z=>by
    rcases z with rfl | z
    . rw [ee];exact aX
    . exact z.elim⟩
theorem ajV (l:List aQ) (aL:e9 l<=100000000) (hw:jU l=0->(fT l).length<=10000) (v:V) (h:ah) (L:ch Any h 5 (l.map aQ.enc) v):
 b8 Tryz.prog 9 [v] h fun x ab=>x=.tuple [.str (pN l).1,.int .i64 (pN l).2]/\Ext h ab:=by
 refine YW.z rfl (ck ?_);unfold OH;simp only [↓aa,ae,simprocAttr];refine bq (Uq l aL v h L) ?_;rintro x J ⟨aP,rfl,S,al⟩;by_cases ao:jU l=0
 rotate_left
 . have jF:=anA ao;have ak:pN l=([],jU l):=by unfold pN;rw [anE ao]
   rw [ak];simp only [jF,↓aa,ae,simprocAttr];exact al
 have wE:h7 l=fT l:=by unfold h7;rw [anL ao]
 rw [wE] at S;have sB:∀q ∈ l,c6 q:=fun q aq=>(EX (by omega) ao q aq).1;have ED:=Vp sB;have ry:=Gh l sB;rw [ao];simp only [↓aa,ae,simprocAttr];refine bq (ajz aP (fT l) J S.v (hw ao) fun w wD=>by have:=SM (an0.1 ry w wD);omega) ?_;rintro x ad ⟨rfl,aN⟩;have aI:=al.trans aN;have ak:pN l=if 65536 < (hX (fT l)).1.length then ([],3) else ((hX (fT l)).1,0):=by unfold pN;rw [anL ao,anL (by rw [ED])]
 rw [ak];by_cases aj:65536 < (hX (fT l)).1.length
 . have gr:((65536:Int) < ((hX (fT l)).1.length:Int))=True:=anJ (by omega);rw [anL aj];simp only [gr,↓aa,ae,simprocAttr];exact aI
 . have gr:((65536:Int) < ((hX (fT l)).1.length:Int))=False:=anA (by omega);rw [anE aj];simp only [gr,↓aa,ae,simprocAttr];exact aI
theorem akm (t:aQ):t.size=1+e9 t.l:=by cases t;simp only [aQ.size,aQ.l]
theorem Tq:∀(N:Nat) (l:List aQ),e9 l<N->∀(m:Int),m<=1000000000->-1000000000<=m->∀(v:V) (h:ah),ch Any h 5 (l.map aQ.enc) v->
 b8 Tryz.prog 16 [v,.int .i64 m] h fun x ab=>(∃n,x=.int .i64 n/\0<=n/\(m<0->n=0)/\(0<=m->n<=m+200000000)/\(n<=m->(e9 l:Int)<=n))/\ab=h
 | 0,l,aL,_,_,_,_,_,_=>by omega
 | N+1,l,aL,m,yB,n_,v,h,L=>by
   have aw:=L.len;have hle:=L.le;rw [anK] at aw hle;refine XP.z rfl (ck ?_);unfold Nk;simp only [↓aa,ae,simprocAttr];refine fE (fun r g=>r 0=v/\r 1=.int .i64 m/\g=h/\∃(i:Nat) (n:Int),r 5=.int .i64 n/\r 6=.int .i64 i/\i<=l.length/\0<=n/\(m<0->n=0)/\(0<=m->n<=m+200000000)/\(n<=m->(e9 (l.take i):Int)<=n)) (fun r g=>l.length - (r 6).toN) ?_ ?_
   . exact ⟨by simp only [↓aa,cm,simprocAttr],by simp only [↓aa,cm,simprocAttr],rfl,0,0,by simp only [↓aa,cm,simprocAttr],by simp only [↓aa,cm,simprocAttr]<;>rfl,by omega,by omega,fun _=>rfl,fun _=>by omega,fun _=>by simp [e9]⟩
   rintro r g ⟨ba,bM,rfl,i,n,cW,fY,au,cR,Cg,dq,Km⟩;unfold Nl;by_cases aH:i<l.length
   . have g0:((i:Int) < (l.length:Int))=True:=anJ (by omega);by_cases aX:n<=m
     . have l5:=anJ aX;obtain ⟨b,off,wl,dj,X,cz,ld,pC,Sd,JX⟩:=aQ.lx L (k:=.i64) aH;have d3:=Sd g (Ext.refl g);have d4:=JX g (Ext.refl g);have dm:=iI aH (by unfold top at hle;omega);have dZ:l[i].s.length<=top:=by obtain ⟨_,_,_,q⟩:=aQ.open X;exact q
       have j3:=aje (P:=Tryz.prog) (n:=l[i].s.length) (by unfold top at dZ;omega);have aq:l[i].s.length / 100<=171798692:=by unfold top at dZ;omega
       have pw:=ai6 (l:=l) aH;have BC:=akm l[i];have jg:e9 l[i].l<N:=by have:=TG aH;omega
       generalize l[i]=t at *;generalize EC:((t.s.length / 100:Nat):Int)=q at *;have TS:0<=q/\q<=171798692:=by omega
       have b4:IntKind.i64.wrap (n+1)=n+1:=wrap_i64 (by omega) (by omega);have b1:IntKind.i64.wrap (n+1+q)=n+1+q:=wrap_i64 (by omega) (by omega);have jt:IntKind.i64.wrap (m - (n+1+q))=m - (n+1+q):=wrap_i64 (by omega) (by omega);simp only [ba,bM,cW,fY,aw,g0,l5,dj,d3,d4,j3,b4,b1,jt,↓aa,ae,simprocAttr];refine bq (Tq N t.l jg (m - (n+1+q)) (by omega) (by omega) wl g cz) ?_;rintro x g2 ⟨⟨y,rfl,alS,Vw,Vu,zV⟩,rfl⟩;have amH:y<=1200000000:=by
        by_cases z:m - (n+1+q)<0
        . have:=Vw z;omega
        . have:=Vu (by omega);omega
       have iZ:IntKind.i64.wrap (n+1+q+y)=n+1+q+y:=wrap_i64 (by omega) (by omega);simp only [ba,bM,cW,fY,dm,iZ,↓aa,ae,simprocAttr];refine ⟨⟨i+1,_,rfl,rfl,aH,by omega,by omega,fun z=>?_,fun z=>?_⟩,by omega⟩
       . by_cases alV:m - (n+1+q)<0
         . have:=Vw alV;omega
         . have:=Vu (by omega);omega
       . have J:=Km aX;have ad:=zV (by omega);omega
     . have l5:=anA aX;simp only [ba,bM,cW,fY,aw,g0,l5,↓aa,ae,simprocAttr];exact ⟨_,rfl,cR,Cg,dq,fun z=>absurd z aX⟩
   . have g0:((i:Int) < (l.length:Int))=False:=anA (by omega);rw [aos (by omega)] at Km;simp only [ba,bM,cW,fY,aw,g0,↓aa,ae,simprocAttr];exact ⟨_,rfl,cR,Cg,dq,Km⟩
theorem agE (l:List aQ) (v:V) (h:ah) (L:ch Any h 5 (l.map aQ.enc) v):b8 Tryz.prog 5 [v,.int .i64 400] h fun x ab=>(∃b,x=.bool b/\(b=false->e9 l<=400))/\ab=h:=by
 refine Yk.z rfl (ck ?_);unfold c5;simp only [↓aa,ae,simprocAttr];refine bq (Tq _ l (apC _) 400 (by decide) (by decide) v h L) ?_;rintro x g2 ⟨⟨y,rfl,_,_,_,zV⟩,rfl⟩;simp only [↓aa,ae,simprocAttr];intro z;have ans:¬400<y:=by simpa using z
 have:=zV (by omega);omega
end
section
open Go bb Go.RowKit
theorem SR (a b:bt):(dV.other .neq 35).run Tryz.prog (.agg a.enc) (.agg b.enc)=some (.bool (!decide (a=b))):=by
 obtain ⟨k,n,p,t⟩:=a;obtain ⟨bu,eN,p',o7⟩:=b;have h:(dV.other .neq 35).run Tryz.prog (.agg [.int .i64 k,.int .i64 n,.int .i64 p,.str t]) (.agg [.int .i64 bu,.int .i64 eN,.int .i64 p',.str o7])=
  (match (bif Int.g_ k bu then (bif Int.g_ n eN then (bif Int.g_ p p' then (bif pc t o7 then some true else some false) else some false) else some false) else some false) with
    | some b=>some (V.bool (!b))
    | none=>none):=by kernel_rfl
 show (dV.other .neq 35).run Tryz.prog (.agg [.int .i64 k,.int .i64 n,.int .i64 p,.str t]) (.agg [.int .i64 bu,.int .i64 eN,.int .i64 p',.str o7])=_;rw [h];simp only [x4,Hk,bt.mk.injEq];by_cases J:k=bu<;>by_cases ad:n=eN<;>by_cases aC:p=p'<;>by_cases bn:t=o7<;>simp [J,ad,aC,bn]
theorem Uu (v1 v2:V) (a b:List bt) (h:ah) (H1:e3 h 4 v1 a.length (j7 a)) (cN:e3 h 4 v2 b.length (j7 b)) (aw:a.length<=100000):
 ff Tryz.prog 12 [v1,v2] h (.bool (decide (a=b))) h:=by
 refine mm (XB.z rfl (ck ?_));unfold MV;simp only [H1.len,cN.len,↓aa,ae,simprocAttr];by_cases aX:a.length=b.length
 . have l5:((a.length:Int)=(b.length:Int))=True:=anJ (by omega);simp only [l5,↓aa,ae,simprocAttr];refine fE (fun r ab=>ab=h/\r 0=v1/\r 1=v2/\∃i:Nat,r 5=.int .i64 i/\i<=a.length/\decide (a=b)=decide (a.drop i=b.drop i)) (fun r ab=>a.length - (r 5).toN) ?_ ?_
   . exact ⟨rfl,by simp only [↓aa,ae,simprocAttr],by simp only [↓aa,ae,simprocAttr],0,by simp only [↓aa,ae,simprocAttr]<;>rfl,by omega,rfl⟩
   . rintro r ab ⟨rfl,ba,bM,i,cW,au,bz⟩;unfold M0;by_cases aH:i<a.length
     . have g0:((i:Int) < (a.length:Int))=True:=anJ (by omega);have ps:i<b.length:=by omega
       obtain ⟨b9,dc,hd,dp⟩:=H1.dj (k:=.i64) aH;obtain ⟨cA,c0,kV,Hb⟩:=cN.dj (k:=.i64) ps;have ep:=dp.jM (i:=i * 4) (n:=4) (by rw [zP];omega);have nD:=Hb.jM (i:=i * 4) (n:=4) (by rw [zP];omega);rw [zO a i aH] at ep;rw [zO b i ps] at nD;rw [anZ aH,anZ ps] at bz;by_cases he:a[i]=b[i]
       . have w:IntKind.i64.wrap ((i:Int)+1)=((i+1:Nat):Int):=by rw [wrap_i64 (by omega) (by omega)];rfl
         have eW:decide (a[i]=b[i])=true:=aoc he;simp +contextual (maxSteps:=1000000) only [ba,bM,cW,g0,H1.len,cN.len,hd,kV,ep,nD,SR,eW,w,↓aa,ae,simprocAttr];refine ⟨⟨i+1,rfl,aH,?_⟩,by omega⟩;rw [bz,he,aon,anM,anM,aoY];exact ⟨fun q=>q.2,fun q=>⟨rfl,q⟩⟩
       . have eW:decide (a[i]=b[i])=false:=aoe he;simp +contextual (maxSteps:=1000000) only [ba,bM,cW,g0,H1.len,cN.len,hd,kV,ep,nD,SR,eW,↓aa,ae,simprocAttr];rw [bz,eq_comm,aoA];exact fun q=>he (List.cons.inj q).1
     . have g0:((i:Int) < (a.length:Int))=False:=anA (by omega);rw [an5 (by omega),an5 (by omega)] at bz;rw [bz];simp only [ba,bM,cW,g0,H1.len,cN.len,↓aa,ae,simprocAttr]
 . have l5:((a.length:Int)=(b.length:Int))=False:=anA (by omega);simp only [l5,↓aa,ae,simprocAttr];rw [eq_comm,aoA];exact fun e=>aX (congrArg List.length e)
set_option maxRecDepth 100000 in
theorem WV:Lj ctx 100000 6 []=true:=by kernel_rfl
theorem WU (h:ah):ff Tryz.prog 6 [] h (.bool true) h:=
 Zs (by kernel_rfl) (fun E x q=>by subst q;simp [Rel]) ⟨_,Tryz.func6,by kernel_rfl⟩ (fun w hw=>ak7 (C:=ctx) follows uB hw FD (by kernel_rfl) (by kernel_rfl) WV) h
theorem Mn (h:ah):b8 Tryz.prog 6 [] h fun x ab=>x=.bool true/\ab=h:=⟨_,_,WU h,rfl,rfl⟩
end
section
open Go bb
theorem akQ (l:List aQ) (aL:e9 l<=100000000) (v:V) (h:ah) (Ak:ch Any h 5 (l.map aQ.enc) v):b8 Tryz.prog 3 [v] h fun x ab=>x=.bool true:=by
 refine X6.z rfl (ck ?_);unfold c3;simp only [↓aa,ae,simprocAttr];refine bq (agE l v h Ak) ?_;rintro x a6 ⟨⟨WY,rfl,jY⟩,rfl⟩;cases WY with
 | true=>
   simp only [↓aa,ae,simprocAttr];refine bq (Mn _) ?_;rintro x J ⟨rfl,rfl⟩;simp only [↓aa,ae,simprocAttr]
 | false=>
 have amz:=jY rfl;have tZ:=CT l;have amG:=alu l;simp only [↓aa,ae,simprocAttr];refine bq (O7 _ l (apC _) (by omega) v a6 Ak) ?_;rintro c J ⟨Lz,al⟩;have Gq:=Lz.mX (dn:=Any) fun _ _=>trivial;simp only [↓aa,ae,simprocAttr];refine bq (ai5 l aL (fun _=>by omega) c J Gq) ?_;rintro x ad ⟨rfl,aN⟩;have aI:=al.trans aN;simp only [↓aa,ae,simprocAttr];refine bq (ajV l aL (fun _=>by omega) v ad (Ak.ext aI)) ?_;rintro x aC ⟨rfl,cj⟩;have bL:=aI.trans cj;simp only [↓aa,ae,simprocAttr];refine bq (Lr l aL c aC (Gq.ext (aN.trans cj))) ?_;rintro x bn ⟨o1,rfl,GW,gl⟩;have cG:=bL.trans gl;simp only [↓aa,ae,simprocAttr];refine bq (Uq l aL v bn (Ak.ext cG)) ?_;rintro x b0 ⟨pI,rfl,GX,jf⟩;have cL:=cG.trans jf;have LY:=GW.ext jf;have Pw:=((aN.trans cj).trans gl).trans jf;simp only [↓aa,ae,simprocAttr];refine ey (Uu o1 pI (h7 l) (h7 l) b0 LY.v GX.v (by omega)) ?_;simp only [apk,↓aa,ae,simprocAttr];refine bq (akb l c v b0 (Gq.ext Pw) (Ak.ext cL)) ?_;rintro x eo ⟨rfl,tE⟩;have LZ:=LY.ext tE;have n4:=bL.next
 have aw:=LZ.v.len;simp only [↓aa,ae,simprocAttr];refine fE (fun r g=>r 0=v/\r 3=c/\r 8=o1/\r 10=pI/\Mod o1.bh eo g/\∃(i:Nat) (us:List V),r 12=.int .i64 i/\i<=(h7 l).length/\cZ aC.next g 4 o1 (h7 l).length us) (fun r g=>(h7 l).length - (r 12).toN) ?_ ?_
 . exact ⟨by simp only [↓aa,cm,simprocAttr],by simp only [↓aa,cm,simprocAttr],by simp only [↓aa,cm,simprocAttr],by simp only [↓aa,cm,simprocAttr],Mod.refl _ _,0,_,by simp only [↓aa,cm,simprocAttr]<;>rfl,by omega,LZ⟩
 rintro r g ⟨ba,bY,dS,hv,m,i,us,s4,au,S⟩;unfold NN;have wi:=S.v.len;by_cases aH:i < (h7 l).length
 . have g0:((i:Int) < ((h7 l).length:Int))=True:=anJ (by omega);have dm:=iI aH (by omega);obtain ⟨bV,mi,g2,f1,f2,f3,f4,f5⟩:=S.put (i:=i) aH (k:=.i64) (y:=.agg [.int .i64 0,.int .i64 0,.int .i64 0,.str []]) rfl rfl;generalize mi+i * 4=o at f1 f3;simp only [ba,bY,dS,hv,s4,wi,g0,dm,f1,f3,↓aa,ae,simprocAttr];exact ⟨⟨m.trans f5,i+1,_,rfl,aH,f4⟩,by omega⟩
 . have g0:((i:Int) < ((h7 l).length:Int))=False:=anA (by omega);have eB:∀q,o1.bh q->aC.next<=cY q:=fun q z=>GW.base z
   have VC:ch Any g 5 (l.map aQ.enc) c:=((Lz.Co.ext Pw).ext tE).mod m fun q z o=>⟨fun y=>by
    have J:=eB q y;unfold Old at z;have:=(aN.trans cj).next
    omega,trivial⟩
   have V0:cZ bn.next g 4 pI (h7 l).length (j7 (h7 l)):=(GX.ext tE).mod m fun q z y=>by have J:=GX.base z;have ad:=GW.v.cJ y;unfold Old at ad;omega
   simp only [ba,bY,dS,hv,s4,wi,g0,↓aa,ae,simprocAttr];refine bq (Lr l aL c g VC) ?_;rintro x g2 ⟨ahr,rfl,V1,aaf⟩;simp only [ba,bY,dS,hv,↓aa,ae,simprocAttr];refine ey (Uu ahr pI (h7 l) (h7 l) g2 V1.v (V0.ext aaf).v (by omega)) ?_;simp only [apk,↓aa,ae,simprocAttr];refine bq (Mn _) ?_;rintro x g3 ⟨rfl,rfl⟩;simp only [↓aa,ae,simprocAttr]
end
end Go.Proofs.YtefceblncmdkhaaGreatDoor
