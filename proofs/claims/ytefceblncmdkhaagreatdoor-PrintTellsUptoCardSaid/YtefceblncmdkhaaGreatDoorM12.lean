/- The chapter's functions, walked by the abstract machine: plain lemmas, no condition. Printed by a program from longer texts: names made short. -/
import Derived.Test.YtefceblncmdkhaaGreatDoorM10
import Derived.Test.YtefceblncmdkhaaGreatDoorM11
import Derived.Test.YtefceblncmdkhaaGreatDoorM8
import Derived.Test.YtefceblncmdkhaaGreatDoorM6
set_option linter.unusedSectionVars false
set_option linter.unusedSimpArgs false
set_option linter.unusedVariables false
set_option maxHeartbeats 64000000
noncomputable section
namespace Go.Proofs.YtefceblncmdkhaaGreatDoor
section
open Go bb
def S' (n:Nat):Bool:=match sj ctx 1000 99 [.int .u64 1,.int .u64 n] ah.empty with
 | .val (.tuple [.int .u64 a,.int .u64 b]) ao=>t' a 0&&t' b n&&Nat.beq ao.next 0
 | _=>false
set_option maxRecDepth 100000 in
theorem ahI:(List.range 65).all S'=true:=by kernel_rfl
theorem ahH (n:Nat) (aX:n<=64) (h:ah):b8 Tryz.prog 99 [.int .u64 1,.int .u64 n] h fun x ab=>x=.tuple [.int .u64 0,.int .u64 n]/\ab=h:=by
 have q:=an0.1 ahI n (ao9.2 (by omega));unfold S' at q
 split at q
 . rename_i a b ao he;simp only [anu] at q;obtain ⟨⟨ag,av⟩,aJ⟩:=q;have ag:=EG ag;have av:=EG av;have aJ:=aom aJ;have c:=aaU (C:=ctx) follows uB FD (n:=1000) (f:=99) (by rfl) (by kernel_rfl) (by kernel_rfl) ⟨_,Tryz.func99,by kernel_rfl⟩ he h;refine ⟨_,_,c,?_,?_⟩
   . simp only [V.df,lL,ag,av]
   . unfold ah.app;rw [aJ];rfl
 . cases q
theorem aiA (z:Int):∀i:Nat,fi (List.replicate i (V.int .i64 z))=true:=fun i=>by
 induction i with
 | zero=>rfl
 | succ i bC=>simpa [List.replicate_succ,fi,V.one] using bC
theorem aku {i m n:Nat} {z y:V} (J:m<=i) (ad:i+m<=n):iw (List.replicate i z++List.replicate (n-i) y) i (List.take m (List.replicate i z))=List.replicate (i+m) z++List.replicate (n - (i+m)) y:=by
 apply List.ext_getElem?;intro q;have hm:(List.take m (List.replicate i z)).length=m:=by rw [aod,anF];omega
 rw [K8 _ _ _ (by rw [hm,anw,anF,anF];omega),hm];by_cases a:q<i
 . rw [anL a,anX (by rw [anF];exact a),anX (by rw [anF];omega),aoU,aoU,anL a,anL (by omega)]
 . rw [anE a];by_cases b:q<i+m
   . rw [anL b,aox (by omega),aoU,anL (by omega),anX (by rw [anF];omega),aoU,anL b]
   . rw [anE b,anW (by rw [anF];omega),anW (by rw [anF];omega),anF,anF,aoU,aoU];by_cases c:q<n
     . rw [anL (by omega),anL (by omega)]
     . rw [anE (by omega),anE (by omega)]
theorem ajB (v:V) (z:Int) (n:Nat) (aX:n<=64) (h:ah) (H:e3 h 1 v 1 [.int .i64 z]):b8 Tryz.prog 66 [v,.int .i64 n] h fun x ab=>ch Any ab 1 ((List.replicate n z).map bb.nZ) x/\Ext h ab:=by
 refine Yr.z rfl (ck ?_);unfold Od;have f0:((n:Int)<0)=False:=anA (by omega);have b4:IntKind.u64.wrap (n:Int)=(n:Int):=by rw [IntKind.wrap_u64];omega
 have b1:IntKind.i64.wrap (n:Int)=(n:Int):=wrap_i64 (by omega) (by omega);have aB:IntKind.u64.wrap 1=1:=by decide
 have f1:((9223372036854775807:Int) < (n:Int))=False:=anA (by omega);have aw:mb v=some (.int .i64 1):=H.len;simp only [f0,aw,aB,b4,↓aa,ae,simprocAttr];refine bq (ahH n aX h) ?_;rintro x J ⟨rfl,rfl⟩;obtain ⟨ad,av,aN,g2⟩:∃H,J.new (.a_ (List.replicate n (.int .i64 0)) 0 false)=H/\Ext J H/\Has H J.next (List.replicate n (.int .i64 0)):=f' J _
 have mk:=ahw (h:=J) (n:=n) (z:=.int .i64 0) (k:=.i64) (bu:=.i64) (by omega);rw [av] at mk;have hlen:(List.replicate n (V.int .i64 0)).length=n:=anF;have AT:=copy_eq (h:=ad) (b:=aD J.next) (off:=0) (l:=n) (c:=n) (H.ext aN) g2.g (by rw [hlen,an8];exact Nat.min_le_right _ _) rfl;simp only [f0,f1,b1,mk,AT,↓aa,ae,simprocAttr];refine fE (fun r g=>r 7=.slice (aD J.next) 0 n n/\∃i:Nat,r 8=.int .i64 i/\i<=n/\(1<=n->1<=i)/\Has g J.next (List.replicate i (V.int .i64 z)++List.replicate (n-i) (V.int .i64 0))/\Ext J g) (fun r g=>n - (r 8).toN) ?_ ?_
 . refine ⟨by simp only [↓aa,cm,simprocAttr],Nat.min 1 n,by simp only [↓aa,cm,simprocAttr],Nat.min_le_right _ _,fun q=>by rw [show Nat.min 1 n=1 from Nat.min_eq_left q];omega,?_,aN.set (anD _) _⟩;have:=g2.put (iw (List.replicate n (V.int .i64 0)) 0 (List.take (Nat.min 1 n) [V.int .i64 z]));by_cases bJ:n=0
   . subst bJ;exact this
   . rw [show Nat.min 1 n=1 from Nat.min_eq_left (by omega)] at this ⊢;obtain ⟨m,rfl⟩:∃m,n=m+1:=⟨n-1,by omega⟩;exact this
 rintro r g ⟨hx,i,dS,au,dd,G,E⟩;unfold Oe;by_cases aH:i<n
 . have g0:((i:Int) < (n:Int))=True:=anJ (by omega);have Qk:=dd (by omega);have S:e3 g 1 (.slice (aD J.next) 0 i n) i (List.replicate i (V.int .i64 z)):=by
    refine ⟨by rw [anF,ao4],rfl,hE G.lt,_,.inr ⟨0,false,G.g⟩,by rw [anw,anF];omega,?_⟩;rw [aok,apx rfl]
   have AT:=copy_eq (h:=g) (b:=aD J.next) (off:=i) (l:=n-i) (c:=n-i) S G.g (by rw [anw,anF,anF];have:Nat.min i (n-i)<=n-i:=Nat.min_le_right _ _;omega) (aiA z i);have yB:Nat.min i (n-i)<=i:=Nat.min_le_left _ _;have n_:Nat.min i (n-i)<=n-i:=Nat.min_le_right _ _;have amu:1<=Nat.min i (n-i):=Nat.le_min.2 ⟨Qk,by omega⟩;generalize Nat.min i (n-i)=m at *;have dm:IntKind.i64.wrap ((i:Int) + ((m:Nat):Int))=((i+m:Nat):Int):=by rw [wrap_i64 (by omega) (by omega)];omega
   have bW:=ZQ (b:=aD J.next) (k:=.i64) aH;have cu:=ZP (b:=aD J.next) (k:=.i64) au Qk;simp only [hx,dS,g0,bW,cu,AT,dm,↓aa,ae,simprocAttr];refine ⟨⟨i+m,rfl,by omega,fun _=>by omega,?_,E.set (anD _) _⟩,by omega⟩;have:=G.put (iw (List.replicate i (V.int .i64 z)++List.replicate (n-i) (V.int .i64 0)) i (List.take m (List.replicate i (V.int .i64 z))));rw [aku yB (by omega)] at this ⊢;exact this
 . have g0:((i:Int) < (n:Int))=False:=anA (by omega);have:i=n:=by omega
   subst this;simp only [hx,dS,g0,↓aa,ae,simprocAttr];refine ⟨e3.hy (l:=List.replicate i z) ?_ (fun b o l c e=>by cases e;exact anD _) (by rw [anF];unfold top;omega),E⟩;have an:=G.g;rw [apf,List.replicate_zero,an_] at an;have au:mO (List.replicate i z)=List.replicate i (V.int .i64 z):=by unfold mO;rw [List.map_replicate]
   rw [au,anF];exact ⟨by rw [anF,ao4],rfl,hE G.lt,_,.inr ⟨0,false,an⟩,by rw [anF];omega,by rw [aok,ao8]⟩
theorem akV (oX:Int) (s:List UInt8) (h:ah):b8 Tryz.prog 65 [.int .i64 oX,.str s] h fun x ab=>x=.bool (zI dG oX s)/\Ext h ab:=by
 refine Yq.z rfl (ck ?_);unfold Oc zI;by_cases bP:oX=1
 . simp only [anJ bP,an7,↓aa,ae,simprocAttr];refine bq (Lq 3 (by simp) s h) ?_;rintro x J ⟨rfl,al⟩;simp only [↓aa,ae,simprocAttr];exact al
 by_cases a2:oX=2
 . simp only [anA bP,anJ a2,an7,an4,↓aa,ae,simprocAttr];refine bq (Lq 4 (by simp) s h) ?_;rintro x J ⟨rfl,al⟩;simp only [↓aa,ae,simprocAttr];exact al
 by_cases a3:oX=3
 . simp only [anA bP,anA a2,anJ a3,an7,an4,↓aa,ae,simprocAttr];refine bq (Lq 5 (by simp) s h) ?_;rintro x J ⟨rfl,al⟩;simp only [↓aa,ae,simprocAttr];exact al
 by_cases a4:oX=4
 . have aZ:decide (s.length<=4096)=decide ((s.length:Int)<=4096):=decide_eq_decide.2 ⟨fun q=>by omega,fun q=>by omega⟩;simp only [anA bP,anA a2,anA a3,anJ a4,aZ,an7,an4,↓aa,ae,simprocAttr];exact Ext.refl _
 by_cases a5:oX=5
 . obtain ⟨J,ag,al,Y⟩:=uw h 1 8 [.str [43],.str [45],.str [42],.str [47],.str [109,111,100],.str [61],.str [60],.str [60,61]] rfl (by unfold top;omega);simp only [anA bP,anA a2,anA a3,anA a4,anJ a5,ag,an7,an4,↓aa,ae,simprocAttr];refine ey (OZ s opsL _ J Y.v (by decide)) ?_;simp only [↓aa,ae,simprocAttr];exact al
 . simp only [anA bP,anA a2,anA a3,anA a4,anA a5,an4,↓aa,ae,simprocAttr];exact Ext.refl _
theorem iM.open {F:aU->Prop} {h:ah} {r:iM} {ai:List V} (H:cg F h r.enc ai):∃lY aP,ai=[lY,.int .i64 r.rest,.int .i64 r.least,.int .i64 r.lA,aP,.int .i64 r.bQ,.int .i64 r.au,.int .i64 r.s]/\ch F h 1 (r.first.map bb.nZ) lY/\ch F h 1 (r.last.map bb.nZ) aP:=by unfold iM.enc at H;obtain ⟨lY,_,rfl,r5,H1⟩:=H.dZ;obtain ⟨_,rfl,cN⟩:=H1.int;obtain ⟨_,rfl,Gt⟩:=cN.int;obtain ⟨_,rfl,Gu⟩:=Gt.int;obtain ⟨aP,_,rfl,b6,Gv⟩:=Gu.dZ;obtain ⟨_,rfl,VI⟩:=Gv.int;obtain ⟨_,rfl,VJ⟩:=VI.int;obtain ⟨_,rfl,VK⟩:=VJ.int;obtain rfl:=VK.no;exact ⟨lY,aP,rfl,r5,b6⟩
theorem ahC {t:aQ} (h:pP t.k=none):t.may dG=false:=by cases t;rw [aQ.may];simp only [aQ.k] at h;rw [h]
theorem ahD {t:aQ} {r:iM} (h:pP t.k=some r):t.may dG=(Bh dG r t.k t.n t.a t.s&&ly r t.k t.n t.l.length&&oA dG (oT r t.k t.n t.l.length) t.l):=by cases t;rw [aQ.may];simp only [aQ.k] at h;rw [h];rfl
theorem ajY {k:Int} {r:iM} (h:pP k=some r):r.first.length<=3/\r.last.length<=1/\0<=r.least/\(k=50->r.bQ=0/\r.au=64):=by
 have hm:=FZ (l:=s8) h;simp only [s8,an2,aoS,List.not_mem_nil,apm] at hm;rcases hm with h | h | h | h | h | h | h | h | h | h | h | h | h | h | h | h | h | h | h | h | h | h | h | h | h | h | h | h | h | h | h | h | h | h | h | h | h | h<;>
 obtain ⟨rfl,rfl⟩:=h<;>simp
theorem abE {r:iM} {k n:Int} {len i:Nat} (a6:0<=hG r k n len) (au:i<len):(oT r k n len)[i]? =some (if aA:i < (firstM r k n).length then (firstM r k n)[i] else if i < (firstM r k n).length + (hG r k n len).toNat then r.rest else (r.last[i - ((firstM r k n).length + (hG r k n len).toNat)]?.getD 0)):=by
 have hlen:(len:Int)=(firstM r k n).length+hG r k n len+r.last.length:=by unfold hG;omega
 unfold oT;by_cases a:i < (firstM r k n).length
 . rw [dif_pos a,anG,anX a,anv a]
 . rw [dif_neg a];by_cases b:i < (firstM r k n).length + (hG r k n len).toNat
   . rw [anL b,anX (by rw [anw,anF];exact b),anW (by omega),aoU,anL (by omega)]
   . rw [anE b,anW (by rw [anw,anF];omega),anw,anF];rw [anv (by omega)];rfl
theorem abF {r:iM} {k n:Int} {len:Nat} (a6:0<=hG r k n len):(oT r k n len).length=len:=by
 have hlen:(len:Int)=(firstM r k n).length+hG r k n len+r.last.length:=by unfold hG;omega
 unfold oT;rw [anw,anw,anF];omega
theorem Aw (b:aU) (o:Nat):(sP 2 1).run (.ptr b o) (.int .i64 0)=some (.ptr b o):=rfl
theorem Ax (b:aU) (o:Nat):(sP 2 1).run (.ptr b o) (.int .i64 1)=some (.ptr b (o+1)):=rfl
theorem SL:∀(N:Nat) (t:aQ),t.size<=N->N<=1000000000->∀(bk:V) (F:aU->Prop) (ai:List V) (h:ah),kN F h F0 bk->cg Any h t.enc ai->b8 Tryz.prog 36 [bk,.agg ai] h fun x ab=>x=.bool (t.may dG)/\Ext h ab
 | 0,t,aL,_,_,_,_,_,_,_=>by have:=w6 t;omega
 | N+1,t,aL,Ij,bk,F,ai,h,M,H=>by
   have CZ:=H;obtain ⟨eS,rfl,L,_⟩:=aQ.open H;have aM:N<=1000000000:=by omega
   have ol:=L.one;have aw:=L.len;have hle:=L.le;rw [anK] at aw hle;have cx:=size_eq t;have kA:=CC t.l;refine X2.z rfl (ck ?_);unfold NG;obtain ⟨J,ag,al,tr⟩:=f' h [.int .i64 t.k,.int .i64 t.n,.int .i64 t.a,.str t.s,eS];have look:=(M.ext al).look t.k (.agg [.cr,.int .i64 0,.int .i64 0,.int .i64 0,.cr,.int .i64 0,.int .i64 0,.int .i64 0]) true;rw [aaP] at look;cases aK:pP t.k with
   | none=>
     rw [aK] at look;rcases look with ⟨_,e7⟩ | ⟨_,_,bp,_⟩
     . rw [anC] at e7;replace e7:kD nO.int.eq _ true J bk _=_:=e7;rw [ahC aK];obtain ⟨ad,av,aN,br⟩:=je J [.cr,.int .i64 0,.int .i64 0,.int .i64 0,.cr,.int .i64 0,.int .i64 0,.int .i64 0] [.cr,.int .i64 0,.int .i64 0,.int .i64 0,.cr,.int .i64 0,.int .i64 0,.int .i64 0];simp only [ol.1,ol.2.1,ag,av,tr.g,e7,↓aa,ae,simprocAttr];exact al.trans aN
     . cases bp
   | some r=>
   rw [aK] at look;rcases look with ⟨bp,_⟩ | ⟨ds,y,qm,Y,e7⟩
   . cases bp
   rw [anC] at e7;replace e7:kD nO.int.eq _ true J bk _=_:=e7;obtain rfl:r.enc=ds:=aoN qm;rw [ahD aK];obtain ⟨am6,am7,am8,ajW⟩:=ajY aK;obtain ⟨lY,aP,bc,LH,LS⟩:=iM.open Y;have of:=LH.one;have jo:=LS.one;obtain ⟨ad,av,aN,br⟩:=je J [.cr,.int .i64 0,.int .i64 0,.int .i64 0,.cr,.int .i64 0,.int .i64 0,.int .i64 0] [lY,.int .i64 r.rest,.int .i64 r.least,.int .i64 r.lA,aP,.int .i64 r.bQ,.int .i64 r.au,.int .i64 r.s];have xM:=tr.ext aN;have aI:=al.trans aN;unfold Bh;by_cases bW:t.n<r.bQ
   . rw [aoe (show ¬r.bQ<=t.n by omega)];simp only [ol.1,ol.2.1,ag,av,tr.g,xM.g,br.g,Aw,Ax,e7,bc,of.1,jo.1,anJ bW,aop,↓aa,ae,simprocAttr];exact aI
   by_cases cu:r.au<t.n
   . rw [aoe (show ¬t.n<=r.au by omega)];simp only [ol.1,ol.2.1,ag,av,tr.g,xM.g,br.g,Aw,Ax,e7,bc,of.1,jo.1,anA bW,anJ cu,aop,aoO,↓aa,ae,simprocAttr];exact aI
   by_cases c3:t.a<0
   . rw [aoe (show ¬0<=t.a by omega)];simp only [ol.1,ol.2.1,ag,av,tr.g,xM.g,br.g,Aw,Ax,e7,bc,of.1,jo.1,anA bW,anA cu,anJ c3,aop,aoO,↓aa,ae,simprocAttr];exact aI
   by_cases hM:65536<t.a
   . rw [aoe (show ¬t.a<=65536 by omega)];simp only [ol.1,ol.2.1,ag,av,tr.g,xM.g,br.g,Aw,Ax,e7,bc,of.1,jo.1,anA bW,anA cu,anA c3,anJ hM,aop,aoO,↓aa,ae,simprocAttr];exact aI
   rw [aoc (show r.bQ<=t.n by omega),aoc (show t.n<=r.au by omega),aoc (show 0<=t.a by omega),aoc (show t.a<=65536 by omega)];simp only [ol.1,ol.2.1,ag,av,tr.g,xM.g,br.g,Aw,Ax,e7,bc,of.1,jo.1,anA bW,anA cu,anA c3,anA hM,aoC,↓aa,ae,simprocAttr];refine bq (akV r.s t.s ad) ?_;rintro x aC ⟨rfl,cj⟩;have GR:=xM.ext cj;have cl:=br.ext cj;have bL:=aI.trans cj;cases c5:zI dG r.s t.s with
   | false=>
     simp only [aop,↓aa,ae,simprocAttr];exact bL
   | true=>
   have VH:ch Any aC 1 (r.first.map bb.nZ) lY:=(LH.ext (aN.trans cj)).mX fun _ _=>trivial;have GN:ch Any aC 1 (r.last.map bb.nZ) aP:=(LS.ext (aN.trans cj)).mX fun _ _=>trivial;have tZ:∀(dn:List Int),dn.length<=64->IntKind.i64.wrap (IntKind.i64.wrap ((t.l.length:Int) - (dn.length:Int)) - (r.last.length:Int))=(t.l.length:Int)-dn.length-r.last.length:=fun dn tK=>by rw [wrap_i64 (n:=(t.l.length:Int) - (dn.length:Int)) (by omega) (by omega),wrap_i64 (by omega) (by omega)]
   have QT:=GN.len;rw [anK] at QT;by_cases AL:t.k=50;obtain ⟨amK,amr⟩:=ajW AL;obtain ⟨n,aX⟩:=Int.eq_ofNat_of_zero_le (show 0<=t.n by omega);obtain ⟨bn,bU,gl,Z⟩:=uw aC 1 1 [.int .i64 8] rfl (by unfold top;omega);have LW:=GR.ext gl;have g3:=GR.g;have g4:=LW.g;rw [aX] at g3 g4;simp only [g3,g4,cl.g,bU,anJ AL,aX,↓aa,ae,simprocAttr];refine bq (ajB _ 8 n (by omega) bn Z.v) ?_;rintro D' b0 ⟨z_,jf⟩;have Bi:firstM r t.k t.n=List.replicate n 8:=by unfold firstM;rw [anL AL,aX];rfl
   rw [<-Bi] at z_;have vm:=LW.ext jf;have fJ:=(cl.ext gl).ext jf;have cL:=(bL.trans gl).trans jf;have LU:=(GN.ext gl).ext jf;have QC:(firstM r t.k t.n).length<=64:=by rw [Bi,anF];omega
   rw [<-aX]
   rotate_left
   have Bi:firstM r t.k t.n=r.first:=by unfold firstM;rw [anE AL]
   have z_:=VH;rw [<-Bi] at z_;have vm:=GR;have fJ:=cl;have cL:=bL;have LU:=GN;have QC:(firstM r t.k t.n).length<=64:=by rw [Bi];omega
   simp only [vm.g,fJ.g,anA AL,↓aa,ae,simprocAttr]
   all_goals
    have l2:=z_.len;rw [anK] at l2;have qB:=tZ (firstM r t.k t.n) QC;simp only [vm.g,fJ.g,aw,l2,QT,qB,↓aa,ae,simprocAttr];have yK:hG r t.k t.n t.l.length=(t.l.length:Int) - (firstM r t.k t.n).length-r.last.length:=rfl;rw [<-yK];by_cases d1:hG r t.k t.n t.l.length<r.least
    . have cB:ly r t.k t.n t.l.length=false:=by unfold ly;rw [aoe (by omega)];rfl
      simp only [anJ d1,cB,aoO,aop,vm.g,fJ.g,↓aa,ae,simprocAttr];exact cL
    by_cases d2:r.lA<hG r t.k t.n t.l.length
    . have cB:ly r t.k t.n t.l.length=false:=by unfold ly;rw [aoe (show ¬hG r t.k t.n t.l.length<=r.lA by omega),aoO]
      simp only [anA d1,anJ d2,cB,aoO,aop,vm.g,fJ.g,↓aa,ae,simprocAttr];exact cL
    have cB:ly r t.k t.n t.l.length=true:=by unfold ly;rw [aoc (show r.least<=_ by omega),aoc (show hG r t.k t.n t.l.length<=r.lA by omega)];rfl
    have a6:0<=hG r t.k t.n t.l.length:=by omega
    simp only [anA d1,anA d2,cB,aw,aoC,vm.g,fJ.g,↓aa,ae,simprocAttr];have sx:=abF a6;have aa7:=fun (i:Nat) (au:i<t.l.length)=>abE (r:=r) (k:=t.k) (n:=t.n) a6 au;have amE:hG r t.k t.n t.l.length<=t.l.length:=by unfold hG;omega
    have Jf:(t.l.length:Int)=(firstM r t.k t.n).length+hG r t.k t.n t.l.length+r.last.length:=by unfold hG;omega
    generalize oT r t.k t.n t.l.length=gs at *;generalize hG r t.k t.n t.l.length=rest at *;obtain ⟨iu,rfl⟩:=Int.eq_ofNat_of_zero_le a6;generalize firstM r t.k t.n=cf at *
    refine fE (fun R g=>R 0=bk/\R 3=.ptr (aD h.next) 0/\R 5=.ptr (aD J.next) 0/\R 8=.int .i64 iu/\R 85=eS/\R 86=.int .i64 t.l.length/\(∃D',R 7=D'/\ch Any g 1 (cf.map bb.nZ) D')/\ch Any g 1 (r.last.map bb.nZ) aP/\
     Has g h.next [.int .i64 t.k,.int .i64 t.n,.int .i64 t.a,.str t.s,eS]/\Has g J.next [lY,.int .i64 r.rest,.int .i64 r.least,.int .i64 r.lA,aP,.int .i64 r.bQ,.int .i64 r.au,.int .i64 r.s]/\Ext h g/\
     ∃i:Nat,R 87=.int .i64 i/\i<=t.l.length/\oA dG gs t.l=oA dG (gs.drop i) (t.l.drop i)) (fun R g=>t.l.length - (R 87).toN) ?_ ?_
    . exact ⟨by simp only [↓aa,cm,simprocAttr],by simp only [↓aa,cm,simprocAttr],by simp only [↓aa,cm,simprocAttr],by simp only [↓aa,cm,simprocAttr]<;>rfl,by simp only [↓aa,cm,simprocAttr],by simp only [↓aa,cm,simprocAttr],⟨_,by simp only [↓aa,cm,simprocAttr],z_⟩,LU,vm,fJ,cL,0,by simp only [↓aa,cm,simprocAttr]<;>rfl,by omega,rfl⟩
    rintro R g ⟨ba,bY,cW,dS,uM,uN,⟨D',hx,Gs⟩,k6,P,B,E,i,uO,au,bz⟩;unfold NH;by_cases aH:i<t.l.length
    . have g0:((i:Int) < (t.l.length:Int))=True:=anJ (by omega);obtain ⟨b,off,wl,dj,X,cz,ld,_,_,_⟩:=aQ.lx (L.ext E) (k:=.i64) aH;have hN:=ld g (Ext.refl g);have kl:=cz.one;have dm:=iI aH (by unfold top at hle;omega);have acJ:=h4 (t:=t) (anB aH);have l2:=Gs.len;rw [anK] at l2;obtain ⟨g1,fc,bf,Z⟩:=je g [.int .i64 0,.int .i64 0,.int .i64 0,.str [],.cr] [.int .i64 t.l[i].k,.int .i64 t.l[i].n,.int .i64 t.l[i].a,.str t.l[i].s,wl];have tr:=P.ext bf;have Gp:=B.ext bf;have oU:=aa7 i aH;have G:gs[i]? =some gs[i]:=anv (by omega);rw [anZ aH,anZ (show i<gs.length by omega),oA] at bz;rw [G] at oU;have oU:=aoN oU;generalize gs[i]=LJ at *;have b4:IntKind.i64.wrap ((cf.length:Int) + (iu:Int))=((cf.length+iu:Nat):Int):=by rw [wrap_i64 (by omega) (by omega)];omega
      by_cases bP:i<cf.length;have Dr:((i:Int) < (cf.length:Int))=True:=anJ (by omega);obtain ⟨cA,Kn,kV,nD⟩:=(Gs.ext bf).JE (k:=.i64) bP;have d2:=nD g1 (Ext.refl g1);rw [dif_pos bP] at oU;rw [<-oU] at d2;simp only [ba,bY,cW,hx,dS,uM,uN,uO,g0,dj,hN,kl.1,kl.2.1,fc,Z.g,Gp.g,l2,Dr,kV,d2,↓aa,ae,simprocAttr]
      rotate_left
      rw [dif_neg bP] at oU;have Dr:((i:Int) < (cf.length:Int))=False:=anA (by omega);by_cases a2:cf.length+iu<=i;have G0:(((cf.length+iu:Nat):Int)<=(i:Int))=True:=anJ (by omega);have b1:IntKind.i64.wrap (IntKind.i64.wrap ((i:Int) - (cf.length:Int)) - (iu:Int))=((i - (cf.length+iu):Nat):Int):=by rw [wrap_i64 (n:=(i:Int) - (cf.length:Int)) (by omega) (by omega),wrap_i64 (by omega) (by omega)];omega
      obtain ⟨cA,Kn,kV,nD⟩:=(k6.ext bf).JE (k:=.i64) (i:=i - (cf.length+iu)) (by omega);have d2:=nD g1 (Ext.refl g1);rw [anE (by omega),anI,anv (by omega),aoZ] at oU;rw [<-oU] at d2;simp only [ba,bY,cW,hx,dS,uM,uN,uO,g0,dj,hN,kl.1,kl.2.1,fc,Z.g,Gp.g,l2,Dr,G0,b4,b1,kV,d2,↓aa,ae,simprocAttr]
      rotate_left
      have G0:(((cf.length+iu:Nat):Int)<=(i:Int))=False:=anA (by omega);rw [anL (by omega)] at oU;simp only [ba,bY,cW,hx,dS,uM,uN,uO,g0,dj,hN,kl.1,kl.2.1,fc,Z.g,Gp.g,l2,Dr,G0,b4,<-oU,↓aa,ae,simprocAttr]
      all_goals
       refine bq (ad' t.l[i] LJ _ g1 (X.ext bf)) ?_;rintro x g2 ⟨rfl,aN⟩;have fv:=Z.ext aN;have Gk:=bf.trans aN;cases AM:ub t.l[i].k LJ with
       | false=>
         rw [AM,aop,aop] at bz;simp only [ba,bY,cW,dS,uM,uN,uO,fv.g,↓aa,ae,simprocAttr];exact ⟨by rw [bz],E.trans Gk⟩
       | true=>
         simp only [ba,bY,cW,dS,uM,uN,uO,fv.g,kl.1,kl.2.1,↓aa,ae,simprocAttr];refine bq (SL N t.l[i] (by omega) aM bk F _ g2 (M.ext (E.trans Gk)) (X.ext Gk)) ?_;rintro x g3 ⟨rfl,cj⟩;have xq:=Gk.trans cj;cases oR:t.l[i].may dG with
         | false=>
           rw [oR,aoO,aop] at bz;simp only [ba,bY,cW,dS,uM,uN,uO,↓aa,ae,simprocAttr];exact ⟨by rw [bz],E.trans xq⟩
         | true=>
           rw [AM,oR,aoC,aoC] at bz;simp only [ba,bY,cW,hx,dS,uM,uN,uO,dm,↓aa,ae,simprocAttr];exact ⟨⟨Gs.ext xq,k6.ext xq,P.ext xq,(by first | exact B.ext xq | (rw [oU];exact B.ext xq)),E.trans xq,i+1,rfl,aH,bz⟩,by omega⟩
    . have g0:((i:Int) < (t.l.length:Int))=False:=anA (by omega);rw [an5 (show t.l.length<=i by omega),oA] at bz;simp only [ba,bY,cW,dS,uM,uN,uO,g0,↓aa,ae,simprocAttr];exact ⟨by rw [bz],E⟩
def jU (l:List aQ):Int:=if l.all (fun t=>decide (fx t.k=7)&&t.may dG) then (if l.all (fun t=>decide (t.deep<=200)) then 0 else 260) else 2
theorem Zq (l:List aQ) (aL:e9 l<=1000000000):w9 l=jU l:=by
 have:∀t ∈ l,t.j5 dG=t.may dG:=fun t aE=>J_ _ t (anD _) (by have:=pO aE;omega);unfold w9 jU;have e:l.all (fun t=>decide (fx t.k=7)&&t.j5 dG)=l.all (fun t=>decide (fx t.k=7)&&t.may dG):=by rw [aon,an0,an0];exact ⟨fun q t aE=>by rw [<-this t aE];exact q t aE,fun q t aE=>by rw [this t aE];exact q t aE⟩
 rw [e]
theorem Zp (l:List aQ) (aL:e9 l<=1000000000) (v:V) (h:ah) (L:ch Any h 5 (l.map aQ.enc) v):b8 Tryz.prog 21 [v] h fun x ab=>x=.int .i64 (jU l)/\Ext h ab:=by
 have aw:=L.len;have hle:=L.le;rw [anK] at aw hle;refine XS.z rfl (ck ?_);unfold c21;simp only [↓aa,ae,simprocAttr];refine bq (ajZ h) ?_;rintro bk J ⟨al,M⟩;simp only [aw,↓aa,ae,simprocAttr];refine fE (fun r g=>r 0=v/\r 3=bk/\r 9=v/\r 10=.int .i64 l.length/\∃i:Nat,r 11=.int .i64 i/\i<=l.length/\Ext J g/\(l.take i).all (fun t=>decide (fx t.k=7)&&t.may dG)=true) (fun r g=>l.length - (r 11).toN) ?_ ?_
 . exact ⟨by simp only [↓aa,cm,simprocAttr],by simp only [↓aa,cm,simprocAttr],by simp only [↓aa,cm,simprocAttr],by simp only [↓aa,cm,simprocAttr],0,by simp only [↓aa,cm,simprocAttr]<;>rfl,by omega,Ext.refl J,rfl⟩
 rintro r g ⟨ba,bY,iX,hv,i,o5,au,E,dx⟩;unfold Nr;have k6:=L.ext (al.trans E);by_cases aH:i<l.length
 . have g0:((i:Int) < (l.length:Int))=True:=anJ (by omega);obtain ⟨b,off,wl,dj,X,cz,ld⟩:=aQ.y7 k6 (k:=.i64) aH;have hN:=ld g (Ext.refl g);have dm:=iI aH (by unfold top at hle;omega);have bJ:=pO (anB aH);have kl:=cz.one;obtain ⟨g1,fc,bf,Z⟩:=je g [.int .i64 0,.int .i64 0,.int .i64 0,.str [],.cr] [.int .i64 l[i].k,.int .i64 l[i].n,.int .i64 l[i].a,.str l[i].s,wl];simp only [ba,bY,iX,hv,o5,g0,dj,hN,fc,Z.g,kl.1,kl.2.1,↓aa,ae,simprocAttr];refine bq (Qg l[i].k g1) ?_;rintro x g2 ⟨rfl,rfl⟩;have bad:(decide (fx l[i].k=7)&&l[i].may dG)=false->jU l=2:=fun q=>by
    unfold jU;rw [anE];intro z;have:=an0.1 z _ (anB aH);rw [q] at this;cases this
   by_cases bW:fx l[i].k=7
   . simp only [ba,bY,iX,hv,o5,Z.g,anJ bW,↓aa,ae,simprocAttr];refine bq (SL _ l[i] (anD _) (by omega) bk _ _ g2 (M.ext (E.trans bf)) (X.ext bf)) ?_;rintro x g3 ⟨rfl,cj⟩;cases cu:l[i].may dG with
     | true=>
       simp only [ba,bY,iX,hv,o5,dm,↓aa,ae,simprocAttr];refine ⟨⟨i+1,rfl,aH,E.trans (bf.trans cj),?_⟩,by omega⟩;rw [take_one aH,aoI,dx];simp [bW,cu]
     | false=>
       simp only [ba,bY,dm,↓aa,ae,simprocAttr];exact ⟨by rw [bad (by rw [cu,aoO])],al.trans (E.trans (bf.trans cj))⟩
   . simp only [ba,bY,iX,hv,o5,Z.g,anA bW,↓aa,ae,simprocAttr];exact ⟨by rw [bad (by rw [aoe bW,aop])],al.trans (E.trans bf)⟩
 . have g0:((i:Int) < (l.length:Int))=False:=anA (by omega);rw [aos (by omega)] at dx;have ao:jU l=if l.all (fun t=>decide (t.deep<=200)) then 0 else 260:=by unfold jU;rw [anL dx]
   rw [ao];simp only [ba,bY,iX,hv,o5,aw,g0,↓aa,ae,simprocAttr];refine fE (fun r g=>r 26=v/\r 27=.int .i64 l.length/\∃i:Nat,r 28=.int .i64 i/\i<=l.length/\Ext h g/\(l.take i).all (fun t=>decide (t.deep<=200))=true) (fun r g=>l.length - (r 28).toN) ?_ ?_
   . exact ⟨by simp only [ba,↓aa,cm,simprocAttr],by simp only [↓aa,cm,simprocAttr],0,by simp only [↓aa,cm,simprocAttr]<;>rfl,by omega,al.trans E,rfl⟩
   clear au ba bY iX hv o5 k6 E g0 aH;rintro r g ⟨FJ,FK,i,FL,au,E,dx⟩;unfold Ns;have k6:=L.ext E;by_cases aH:i<l.length
   . have g0:((i:Int) < (l.length:Int))=True:=anJ (by omega);obtain ⟨b,off,wl,dj,X,cz,ld⟩:=aQ.y7 k6 (k:=.i64) aH;have hN:=ld g (Ext.refl g);have dm:=iI aH (by unfold top at hle;omega);have bJ:=pO (anB aH);have kl:=cz.one;obtain ⟨g1,fc,bf,Z⟩:=je g [.int .i64 0,.int .i64 0,.int .i64 0,.str [],.cr] [.int .i64 l[i].k,.int .i64 l[i].n,.int .i64 l[i].a,.str l[i].s,wl];simp only [FJ,FK,FL,g0,dj,hN,fc,Z.g,kl.1,kl.2.1,↓aa,ae,simprocAttr];refine bq (Pg _ l[i] (anD _) (by omega) _ g1 (X.ext bf)) ?_;rintro x g2 ⟨rfl,aN⟩;by_cases bW:(200:Int) < (l[i].deep:Int)
     . simp only [FJ,FK,FL,anJ bW,↓aa,ae,simprocAttr];refine ⟨?_,E.trans (bf.trans aN)⟩;rw [anE];intro z;have:=an0.1 z _ (anB aH);simp only [anM] at this;omega
     . simp only [FJ,FK,FL,dm,anA bW,↓aa,ae,simprocAttr];refine ⟨⟨i+1,rfl,aH,E.trans (bf.trans aN),?_⟩,by omega⟩;rw [take_one aH,aoI,dx];simp;omega
   . have g0:((i:Int) < (l.length:Int))=False:=anA (by omega);rw [aos (by omega)] at dx;simp only [FJ,FK,FL,aw,g0,↓aa,ae,simprocAttr];exact ⟨by rw [anL dx],E⟩
def sV (c:UInt8):Bool:=decide (97<=c)&&decide (c<=122)
def kw (s:List UInt8):bt:=⟨match s with
 | c::_=>if sV c=true then 6 else 7
 | []=>7,0,0,s⟩
def dK (k:Int) (s:List UInt8):bt:=⟨k,0,0,s⟩
def ox (n:Int):bt:=⟨1,n,0,[]⟩
def dQ (s:List UInt8):Int:=if s=[61]\/s=[60]\/s=[60,61] then 5 else if s=[43]\/s=[45] then 6 else 7
def uv:List (Int × Int):=[(35,1),(29,1),(30,1),(27,1),(31,2),(37,3),(26,4),(39,8),(36,8),(28,9),(34,9),(15,1),(4,1),(3,2)]
def sT (k:Int):List (Int × Int)->Option Int
 | []=>none
 | (n,x)::l=>if k=n then some x else sT k l
def E0 (k:Int) (s:List UInt8) (len:Nat):Int:=match sT k uv with
 | some x=>x
 | none=>if k=16/\0<len then 2 else if k=25/\0<len then 9 else if k=38 then dQ s else if k<20 then 3 else 10
def aQ.kC (p:aQ):Int:=E0 p.k p.s p.l.length
abbrev dN:=aQ × List bt
def jI (b:Prop) [Decidable b] (c:dN):List bt:=if b/\c.1.k≠32/\c.1.k≠33 then kw [40]::(c.2++[kw [41]]) else c.2
def cO (least:Int) (c:dN):List bt:=jI (c.1.kC<least) c
def hL (least:Int) (cs:List dN) (i:Nat):List bt:=match cs[i]? with
 | some c=>cO least c
 | none=>[]
def ek (cs:List dN) (left:Int) (s:List UInt8) (right:Int):List bt:=hL left cs 0++kw s::hL right cs 1
def qP (f:dN->List bt) (b:List UInt8):List dN->List bt
 | []=>[]
 | c::r=>kw b::(f c++qP f b r)
def eD (f:dN->List bt) (b:List UInt8):List dN->List bt
 | []=>[]
 | c::r=>f c++qP f b r
def eY (f:dN->List bt):List dN->List bt
 | []=>[]
 | c::r=>f c++eY f r
def oD (n:Int):bt:=if n=1 then kw [116,114,117,101] else kw [102,97,108,115,101]
def hh (k:Int) (s:List UInt8) (cs:List dN):List bt:=
 if k=1 then [dK 5 s] else if k=4 then ek cs 2 [45,62] 1 else if k=3 then ek cs 3 [42] 2 else
 (if cs.length=1 then hL 3 cs 0 else [])++((if 1<cs.length then kw [40]::(eD (cO 1) [44] cs++[kw [41]]) else [])++[dK 3 s])
def gy (k n:Int) (s:List UInt8) (cs:List dN):List bt:=
 if k=10 then [kw [95]] else if k=11 then [dK 3 s] else if k=12 then [ox n] else if k=13 then [kw [40],kw [41]] else if k=14 then [oD n] else if k=15 then ek cs 2 [44] 1 else
 dK 4 s::eY (cO 3) cs
def j9 (cs:List dN):List bt:=match cs[0]? with
 | some c=>jI (c.1.kC<9\/c.1.k=25\/c.1.k=34) c
 | none=>[]
def ht (k:Int) (cs:List dN):List bt:=
 if k=27 then kw [102,117,110]::ek cs 1 [45,62] 1 else
 if k=29 then kw [108,101,116]::(ek cs 1 [61] 1++kw [105,110]::hL 1 cs 2) else
 if k=30 then kw [108,101,116]::kw [114,101,99]::(eD Prod.snd [97,110,100] (cs.take (cs.length-1))++kw [105,110]::hL 1 cs (cs.length-1)) else
 if k=31 then kw [105,102]::(hL 1 cs 0++kw [116,104,101,110]::(hL 3 cs 1++kw [101,108,115,101]::hL 3 cs 2)) else
 kw [40]::kw (if k=32 then [109,97,116,99,104] else [116,114,121])::(hL 1 cs 0++kw [119,105,116,104]::(eD Prod.snd [124] (cs.drop 1)++[kw [41]]))
def cK (k n:Int) (s:List UInt8) (cs:List dN):List bt:=
 if k=20 then [ox n] else if k=21 then [dK 2 s] else if k=22 then [kw [40],kw [41]] else if k=23 then [oD n] else if k=24 then [dK 3 s] else
 if k=25 then dK 4 s::eY (cO 10) cs else if k=26 then ek cs 5 [44] 4 else if k=35 then ek cs 2 [59] 1 else if k=37 then ek cs 4 [58,61] 2 else
 if k=38 then ek cs (if dQ s=5 then 6 else dQ s) s (dQ s+1) else if k=28 then j9 cs++hL 10 cs 1 else
 if k=34 then kw [114,97,105,115,101]::hL 10 cs 0 else if k=36 then kw [33]::hL 8 cs 0 else if k=39 then kw [45]::hL 8 cs 0 else ht k cs
def iU (c:dN):List bt:=kw [111,102]::cO 1 c
def f_ (k n:Int) (s:List UInt8) (cs:List dN):List bt:=
 if k=45 then ek cs 1 [45,62] 1 else if k=46 then dK 3 s::kw [61]::hL 1 cs 0 else
 if k=47\/k=51 then (if k=51 then [kw [101,120,99,101,112,116,105,111,110]] else [])++dK 4 s::eY iU cs else
 if k=52 then kw [108,101,116]::ek cs 1 [61] 1 else if k=53 then kw [108,101,116]::kw [114,101,99]::eD Prod.snd [97,110,100] cs else
 if k=50 then kw [116,121,112,101]::((if 1<n then [kw [40]] else [])++(eD Prod.snd [44] (cs.take n.toNat)++((if 1<n then [kw [41]] else [])++dK 3 s::kw [61]::eD Prod.snd [124] (cs.drop n.toNat)))) else []
def pe (k n:Int) (s:List UInt8) (cs:List dN):List bt:=
 if k<10 then hh k s cs else if k<20 then gy k n s cs else if k<45 then cK k n s cs else f_ k n s cs
mutual
def aQ.words:aQ->List bt
 | .mk k n _ s l=>pe k n s (a' l)
def a':List aQ->List dN
 | []=>[]
 | t::l=>(t,t.words)::a' l
end
theorem zR (p:aQ):p.words=pe p.k p.n p.s (a' p.l):=by cases p;simp only [aQ.words,aQ.k,aQ.n,aQ.s,aQ.l]
theorem rU:∀l:List aQ,a' l=l.map fun t=>(t,t.words)
 | []=>rfl
 | t::l=>by rw [a',rU l,aow]
theorem cE (l:List aQ):(a' l).length=l.length:=by rw [rU,anK]
theorem KF (l:List aQ) (i:Nat) (h:i<l.length):(a' l)[i]? =some (l[i],l[i].words):=by rw [rU,aoo,anv h];rfl
theorem eU (least:Int) (l:List aQ) (i:Nat) (h:i<l.length):hL least (a' l) i=cO least (l[i],l[i].words):=by unfold hL;rw [KF l i h]
def fT:List aQ->List bt
 | []=>[]
 | p::l=>p.words++kw [59,59]::fT l
def pN (l:List aQ):List UInt8 × Int:=if jU l=0 then (if (hX (fT l)).2=0 then (if 65536 < (hX (fT l)).1.length then ([],3) else ((hX (fT l)).1,0)) else ([],(hX (fT l)).2)) else ([],jU l)
theorem ag7 (p:aQ):1<=p.kC:=by
 unfold aQ.kC E0;cases h:sT p.k uv with
 | none=>simp only;unfold dQ;repeat' split<;>try omega
 | some x=>
   have:∀l:List (Int × Int),(∀y ∈ l,1<=y.2)->∀x,sT p.k l=some x->1<=x:=by
    intro l
    induction l with
    | nil=>intro _ x ar;cases ar
    | cons y l bC=>
      intro bc x ar;obtain ⟨n,z⟩:=y;simp only [sT] at ar
      split at ar
      . cases ar;exact bc _ aot
      . exact bC (fun y h0=>bc y (aoh _ h0)) x ar
   exact this uv (by decide) x h
theorem dp (c:dN):cO 1 c=c.2:=by unfold cO jI;rw [anE];have:=ag7 c.1;omega
abbrev c6 (p:aQ):Prop:=p.j5 dG=true
theorem TF:∀{gs:List Int} {l:List aQ},lH dG gs l=true->∀(i:Nat) (au:i<l.length) (g:Int),gs[i]? =some g->iY l[i].k g=true/\c6 l[i]
 | [],_,_,i,_,g,h=>by simp at h
 | g::gs,[],_,i,au,_,_=>by simp at au
 | g::gs,t::l,h,0,_,tH,e=>by simp only [lH,anu] at h;simp only [anR,ant] at e;subst e;exact h.1
 | g::gs,t::l,h,i+1,au,tH,e=>by simp only [lH,anu] at h;simp only [aov] at e;exact TF h.2 i (by simpa using au) tH e
structure VO (p:aQ):Prop where
 abz:fx p.k≠0
 Gf:rX dG p.k p.s=true
 num:iv p.k p.n p.l.length=true
 gs:(cQ p.k p.n p.l).2=true
 kids:lH dG (cQ p.k p.n p.l).1 p.l=true
theorem pG {p:aQ} (h:c6 p):VO p:=by obtain ⟨k,n,a,s,l⟩:=p;simp only [c6,aQ.j5,anu,anM] at h;obtain ⟨⟨⟨⟨⟨⟨J,ad⟩,aC⟩,bn⟩,b0⟩,eo⟩,fl⟩:=h;exact ⟨J,ad,aC,eo,fl⟩
theorem rN {p:aQ} (h:c6 p):(1<=p.k/\p.k<=4)\/(10<=p.k/\p.k<=16)\/(20<=p.k/\p.k<=39)\/p.k=45\/p.k=46\/p.k=47\/(50<=p.k/\p.k<=53):=by
 have:=(pG h).abz;unfold fx at this
 repeat' split at this
 all_goals omega
theorem iS {p:aQ} (h:c6 p) (ay:p.k=3\/p.k=4\/p.k=15\/p.k=26\/p.k=28\/p.k=35\/p.k=37\/p.k=38\/p.k=27\/p.k=45\/p.k=52):p.l.length=2:=by have:=(pG h).gs;rcases ay with e | e | e | e | e | e | e | e | e | e | e<;>rw [e] at this<;>simpa [cQ] using this
theorem qG {p:aQ} (h:c6 p) (ay:p.k=29\/p.k=31):p.l.length=3:=by have:=(pG h).gs;rcases ay with e | e<;>rw [e] at this<;>simpa [cQ] using this
theorem uq {p:aQ} (h:c6 p) (ay:p.k=34\/p.k=36\/p.k=39\/p.k=46):p.l.length=1:=by
 have:=(pG h).gs;rcases ay with e | e | e | e<;>rw [e] at this<;>simp [cQ] at this
 all_goals first | exact this | exact this.1
theorem B5 {p:aQ} (h:c6 p) (ay:p.k=16\/p.k=25\/p.k=47\/p.k=51):p.l.length<=1:=by have:=(pG h).gs;rcases ay with e | e | e | e<;>rw [e] at this<;>simpa [cQ] using this
theorem ur {p:aQ} (h:c6 p) (ay:p.k=30\/p.k=32\/p.k=33):2<=p.l.length:=by have:=(pG h).gs;rcases ay with e | e | e<;>rw [e] at this<;>simpa [cQ] using this
theorem EZ {p:aQ} (h:c6 p) (ay:p.k=50):0<=p.n/\p.n<=64/\p.n<p.l.length:=by have:=(pG h).num;rw [ay] at this;simp [iv] at this;omega
theorem J1 {p:aQ} (h:c6 p):p.k=1\/p.k=2\/p.k=3\/p.k=4\/p.k=10\/p.k=11\/p.k=12\/p.k=13\/p.k=14\/p.k=15\/p.k=16\/p.k=20\/p.k=21\/p.k=22\/p.k=23\/p.k=24\/p.k=25\/p.k=26\/p.k=27\/p.k=28\/p.k=29\/p.k=30\/p.k=31\/p.k=32\/p.k=33\/p.k=34\/p.k=35\/p.k=36\/p.k=37\/p.k=38\/p.k=39\/p.k=45\/p.k=46\/p.k=47\/p.k=50\/p.k=51\/p.k=52\/p.k=53:=by have:=rN h;omega
theorem uo {p:aQ} (h:c6 p) (i:Nat) (au:i<p.l.length):∃g,(cQ p.k p.n p.l).1[i]? =some g/\iY p.l[i].k g=true/\c6 p.l[i]:=by
 have F:=pG h;have hlen:p.l.length<=(cQ p.k p.n p.l).1.length:=by
  have eo:=F.gs;have ay:=J1 h;rcases ay with e | e | e | e | e | e | e | e | e | e | e | e | e | e | e | e | e | e | e | e | e | e | e | e | e | e | e | e | e | e | e | e | e | e | e | e | e | e<;>rw [e] at eo ⊢
  all_goals first
   | (have:=EZ h e;simp [cQ];omega;done)
   | (simp [cQ] at eo ⊢;try omega)
 have an:=anv (l:=(cQ p.k p.n p.l).1) (i:=i) (by omega);exact ⟨_,an,TF F.kids i au _ an⟩
theorem jj {p:aQ} (h:c6 p) {q:aQ} (aq:q ∈ p.l):c6 q:=by obtain ⟨i,au,rfl⟩:=apE aq;obtain ⟨_,_,_,z⟩:=uo h i au;exact z
def hs:List dN->Nat
 | []=>0
 | c::r=>c.2.length+4+hs r
theorem RB (b:Prop) [Decidable b] (c:dN):(jI b c).length<=c.2.length+2:=by
 unfold jI
 split
 . simp only [anz,anw,anH];omega
 . omega
theorem Hh (least:Int) (c:dN):(cO least c).length<=c.2.length+2:=RB _ c
theorem oP (least:Int):∀(cs:List dN) (i:Nat),(hL least cs i).length+hs (cs.drop (i+1))<=hs (cs.drop i)
 | [],i=>by simp [hL,hs]
 | c::cs,0=>by have:=Hh least c;simp only [hL,anR,aok,aoM,hs];omega
 | c::cs,i+1=>by have:=oP least cs i;simp only [hL,aov,aoM] at this ⊢;exact this
theorem Ud {f:dN->List bt} (aA:∀c,(f c).length<=c.2.length+3) (b:List UInt8):∀cs:List dN,(qP f b cs).length<=hs cs
 | []=>anD _
 | c::r=>by have J:=aA c;have ad:=Ud aA b r;simp only [qP,anz,anw,hs];omega
theorem zb {f:dN->List bt} (aA:∀c,(f c).length<=c.2.length+3) (b:List UInt8):∀cs:List dN,(eD f b cs).length<=hs cs
 | []=>anD _
 | c::r=>by have J:=aA c;have ad:=Ud aA b r;simp only [eD,anw,hs];omega
theorem E8 {f:dN->List bt} (aA:∀c,(f c).length<=c.2.length+3):∀cs:List dN,(eY f cs).length<=hs cs
 | []=>anD _
 | c::r=>by have J:=aA c;have ad:=E8 aA r;simp only [eY,anw,hs];omega
theorem JR (n:Nat):∀cs:List dN,hs (cs.take n)+hs (cs.drop n)=hs cs:=by
 induction n with
 | zero=>intro cs;simp [hs]
 | succ n bC=>
   intro cs;cases cs with
   | nil=>simp [hs]
   | cons c r=>have:=bC r;simp only [aoL,aoM,hs];omega
theorem qV (cs:List dN) (a b:Int) (s:List UInt8):(ek cs a s b).length+hs (cs.drop 2)<=hs cs+1:=by have a6:=oP a cs 0;have J:=oP b cs 1;unfold ek;simp only [aok,an8,Nat.reduceAdd] at a6 J;simp only [anw,anz];omega
theorem CL (c:dN):(Prod.snd c).length<=c.2.length+3:=by omega
theorem Hg (least:Int) (c:dN):(cO least c).length<=c.2.length+3:=by have:=Hh least c;omega
theorem aie (c:dN):(iU c).length<=c.2.length+3:=by have:=Hh 1 c;unfold iU;simp only [anz];omega
theorem ak_ (k:Int) (s:List UInt8) (cs:List dN):(hh k s cs).length<=hs cs+3:=by
 have a6:=oP 3 cs 0;have J:=qV cs 2 1 [45,62];have ad:=qV cs 3 2 [42];have aC:=zb (Hg 1) [44] cs;simp only [aok,an8] at a6;unfold hh
 split
 . simp
 . split
   . omega
   . split
     . omega
     . by_cases bW:cs.length=1
       . rw [anL bW,anE (by omega)];simp only [anw,anz,anH];omega
       . rw [anE bW];split<;>simp only [anw,anz,anH]<;>omega
theorem ai0 (k n:Int) (s:List UInt8) (cs:List dN):(gy k n s cs).length<=hs cs+3:=by
 have J:=qV cs 2 1 [44];have aC:=E8 (Hg 3) cs;unfold gy
 repeat' split
 all_goals try simp only [anz,anH]
 all_goals omega
theorem Y3 (cs:List dN):(j9 cs++hL 10 cs 1).length<=hs cs:=by
 have J:=oP 10 cs 1;cases cs with
 | nil=>simp [j9,hL,hs]
 | cons c r=>
   have ad:=RB (c.1.kC<9\/c.1.k=25\/c.1.k=34) c;simp only [j9,anR,anw,aoM,aok,hs] at J ⊢;omega
theorem ahk (k:Int) (cs:List dN):(ht k cs).length<=hs cs+6:=by
 have J:=qV cs 1 1 [45,62];have ad:=qV cs 1 1 [61];have aC:=oP 1 cs 2;have bn:=zb CL [97,110,100] (cs.take (cs.length-1));have b0:=oP 1 cs (cs.length-1);have eo:=JR (cs.length-1) cs;have fl:=oP 1 cs 0;have qi:=oP 3 cs 1;have yh:=oP 3 cs 2;have Ee:=zb CL [124] (cs.drop 1);simp only [aok,an8,Nat.reduceAdd] at aC fl qi yh;have H_:=JR 1 cs;unfold ht
 split
 . simp only [anz];omega
 . split
   . simp only [anz,anw];omega
   . split
     . simp only [anz,anw];omega
     . split
       . simp only [anz,anw];omega
       . simp only [anz,anw,anH];omega
theorem adN {c:Prop} [Decidable c] {x y:List bt} {N:Nat} (J:x.length<=N) (ad:y.length<=N):(if c then x else y).length<=N:=by split<;>assumption
theorem aaC (k n:Int) (s:List UInt8) (cs:List dN):(cK k n s cs).length<=hs cs+6:=by
 have J:=qV cs 5 4 [44];have ad:=qV cs 2 1 [59];have aC:=qV cs 4 2 [58,61];have bn:=qV cs (if dQ s=5 then 6 else dQ s) (dQ s+1) s;have b0:=Y3 cs;have eo:=oP 10 cs 0;have fl:=oP 8 cs 0;have qi:=ahk k cs;have yh:=E8 (Hg 10) cs;simp only [aok,an8] at eo fl;unfold cK;generalize (if dQ s=5 then 6 else dQ s)=q at *
 repeat' (with_reducible apply adN)
 all_goals try simp only [anz,anH]
 all_goals omega
theorem ZW (k n:Int) (s:List UInt8) (cs:List dN):(f_ k n s cs).length<=hs cs+6:=by
 have J:=qV cs 1 1 [45,62];have ad:=qV cs 1 1 [61];have aC:=oP 1 cs 0;have bn:=E8 aie cs;have b0:=zb CL [97,110,100] cs;have eo:=zb CL [44] (cs.take n.toNat);have fl:=zb CL [124] (cs.drop n.toNat);have qi:=JR n.toNat cs;simp only [aok,an8] at aC;unfold f_
 repeat' split
 all_goals try simp only [anz,anH,anw]
 all_goals omega
theorem Zy (k n:Int) (s:List UInt8) (cs:List dN):(pe k n s cs).length<=hs cs+6:=by
 have J:=ak_ k s cs;have ad:=ai0 k n s cs;have aC:=aaC k n s cs;have bn:=ZW k n s cs;unfold pe
 repeat' split
 all_goals omega
mutual
theorem Vj:∀p:aQ,p.words.length+4<=10 * p.size
 | .mk k n a s l=>by have J:=Zy k n s (a' l);have ad:=R2 l;simp only [aQ.words,aQ.size];omega
theorem R2:∀l:List aQ,hs (a' l)<=10 * e9 l
 | []=>by simp [a',hs]
 | t::l=>by have J:=Vj t;have ad:=R2 l;simp only [a',hs,e9];omega
end
theorem CT:∀l:List aQ,(fT l).length<=10 * e9 l
 | []=>by simp [fT]
 | t::l=>by have J:=Vj t;have ad:=CT l;simp only [fT,e9,anw,anz];omega
theorem JS:(kw [40]).may=true:=by decide
theorem JT:(kw [41]).may=true:=by decide
theorem JU:(kw [44]).may=true:=by decide
theorem agv:(kw [45,62]).may=true:=by decide
theorem agt:(kw [42]).may=true:=by decide
theorem agz:(kw [95]).may=true:=by decide
theorem ago:(kw [116,114,117,101]).may=true:=by decide
theorem agf:(kw [102,97,108,115,101]).may=true:=by decide
theorem age:(kw [102,117,110]).may=true:=by decide
theorem agj:(kw [108,101,116]).may=true:=by decide
theorem agy:(kw [61]).may=true:=by decide
theorem agi:(kw [105,110]).may=true:=by decide
theorem agl:(kw [114,101,99]).may=true:=by decide
theorem JV:(kw [97,110,100]).may=true:=by decide
theorem agh:(kw [105,102]).may=true:=by decide
theorem agn:(kw [116,104,101,110]).may=true:=by decide
theorem agc:(kw [101,108,115,101]).may=true:=by decide
theorem agk:(kw [109,97,116,99,104]).may=true:=by decide
theorem agp:(kw [116,114,121]).may=true:=by decide
theorem agr:(kw [119,105,116,104]).may=true:=by decide
theorem R0:(kw [124]).may=true:=by decide
theorem agx:(kw [59]).may=true:=by decide
theorem agw:(kw [58,61]).may=true:=by decide
theorem agm:(kw [114,97,105,115,101]).may=true:=by decide
theorem ags:(kw [33]).may=true:=by decide
theorem agu:(kw [45]).may=true:=by decide
theorem RZ:(kw [111,102]).may=true:=by decide
theorem agd:(kw [101,120,99,101,112,116,105,111,110]).may=true:=by decide
theorem agq:(kw [116,121,112,101]).may=true:=by decide
theorem R1:(kw [59,59]).may=true:=by decide
theorem agB {s:List UInt8} (h:opsL.contains s=true):(kw s).may=true:=by
 have hm:s ∈ opsL:=by simpa using h
 exact (show ∀s ∈ opsL,(kw s).may=true by decide) s hm
abbrev A (ws:List bt):Prop:=ws.all bt.may=true
def nK (cs:List dN):Prop:=∀c ∈ cs,A c.2
theorem Lp {k:Int} {s:List UInt8} (ay:k=3\/k=4\/k=5) (h:dG k s=true):(dK k s).may=true:=by rcases ay with rfl | rfl | rfl<;>simp [bt.may,dK,jl,h]
theorem ah1 {n:Int} (h:(decide (-1073741824<=n)&&decide (n<=1073741823))=true):(ox n).may=true:=by unfold bt.may ox jl;rw [anL rfl];simpa using h
theorem RA {b:Prop} [Decidable b] {c:dN} (h:A c.2):A (jI b c):=by
 unfold jI A
 split
 . simp only [aoy,aoI,List.all_nil,JS,JT,aoz,aoC];exact h
 . exact h
theorem Dz {least:Int} {c:dN} (h:A c.2):A (cO least c):=RA h
theorem Hc {cs:List dN} (h:nK cs) (least:Int) (i:Nat):A (hL least cs i):=by
 unfold hL;cases ao:cs[i]? with
 | none=>rfl
 | some c=>exact Dz (h c (aob ao))
theorem Uc {f:dN->List bt} (aA:∀c:dN,A c.2->A (f c)) {b:List UInt8} (aj:(kw b).may=true):∀{cs:List dN},nK cs->A (qP f b cs)
 | [],_=>rfl
 | c::r,h=>by have J:(f c).all bt.may=true:=aA c (h c aot);have ad:(qP f b r).all bt.may=true:=Uc aA aj fun d aZ=>h d (aoh _ aZ);simp only [A,qP,aoy,aoI,aj,J,ad,aoz]
theorem B9 {f:dN->List bt} (aA:∀c:dN,A c.2->A (f c)) {b:List UInt8} (aj:(kw b).may=true):∀{cs:List dN},nK cs->A (eD f b cs)
 | [],_=>rfl
 | c::r,h=>by have J:(f c).all bt.may=true:=aA c (h c aot);have ad:(qP f b r).all bt.may=true:=Uc aA aj fun d aZ=>h d (aoh _ aZ);simp only [A,eD,aoI,J,ad,aoz]
theorem J6 {f:dN->List bt} (aA:∀c:dN,A c.2->A (f c)):∀{cs:List dN},nK cs->A (eY f cs)
 | [],_=>rfl
 | c::r,h=>by have J:(f c).all bt.may=true:=aA c (h c aot);have ad:(eY f r).all bt.may=true:=J6 aA fun d aZ=>h d (aoh _ aZ);simp only [A,eY,aoI,J,ad,aoz]
theorem ak9 {cs:List dN} (h:nK cs) (a b:Int) {s:List UInt8} (aL:(kw s).may=true):(ek cs a s b).all bt.may=true:=by have J:(hL a cs 0).all bt.may=true:=Hc h a 0;have ad:(hL b cs 1).all bt.may=true:=Hc h b 1;simp only [ek,aoI,aoy,aL,J,ad,aoz]
theorem Y2 {cs:List dN} (h:nK cs):(j9 cs).all bt.may=true:=by
 unfold j9;cases ao:cs[0]? with
 | none=>rfl
 | some c=>exact RA (h c (aob ao))
theorem aid {c:dN} (h:A c.2):A (iU c):=by have J:(cO 1 c).all bt.may=true:=Dz h;simp only [A,iU,aoy,RZ,J,aoz]
theorem ak6 (n:Int):(oD n).may=true:=by unfold oD;split<;>decide
theorem nK.take {cs:List dN} (h:nK cs) (n:Nat):nK (cs.take n):=fun c ao=>h c (aoq ao)
theorem nK.drop {cs:List dN} (h:nK cs) (n:Nat):nK (cs.drop n):=fun c ao=>h c (aoD ao)
theorem BK {c:Prop} [Decidable c] {x y:List bt} (J:x.all bt.may=true) (ad:y.all bt.may=true):(if c then x else y).all bt.may=true:=by split<;>assumption
theorem Zx {p:aQ} (h:c6 p) {cs:List dN} (ao:nK cs):(pe p.k p.n p.s cs).all bt.may=true:=by
 have F:=pG h;have aE:=F.Gf;have aX:=F.num;have a0:∀(least:Int) (i:Nat),(hL least cs i).all bt.may=true:=fun least i=>Hc ao least i;have t0:∀(a b:Int) (s:List UInt8),(kw s).may=true->(ek cs a s b).all bt.may=true:=fun a b s aL=>ak9 ao a b aL;have m0:∀least:Int,(eY (cO least) cs).all bt.may=true:=fun least=>J6 (fun c z=>Dz z) ao;have m1:(eY iU cs).all bt.may=true:=J6 (fun c z=>aid z) ao;have gH:(eD (cO 1) [44] cs).all bt.may=true:=B9 (fun c z=>Dz z) JU ao;have jK:(eD Prod.snd [97,110,100] cs).all bt.may=true:=B9 (fun c z=>z) JV ao;have B0:∀n,(eD Prod.snd [97,110,100] (cs.take n)).all bt.may=true:=fun n=>B9 (fun c z=>z) JV (ao.take n);have R5:∀n,(eD Prod.snd [124] (cs.drop n)).all bt.may=true:=fun n=>B9 (fun c z=>z) R0 (ao.drop n);have agC:∀n,(eD Prod.snd [44] (cs.take n)).all bt.may=true:=fun n=>B9 (fun c z=>z) JU (ao.take n);have YZ:=Y2 ao;have bW:(if cs.length=1 then hL 3 cs 0 else []).all bt.may=true:=BK (a0 _ _) rfl;have cu:(if 1<cs.length then kw [40]::(eD (cO 1) [44] cs++[kw [41]]) else []).all bt.may=true:=BK (by simp only [aoy,aoI,List.all_nil,gH,JS,JT,aoz]) rfl;have c3:(if 1<p.n then [kw [40]] else []).all bt.may=true:=BK (by decide) rfl;have hM:(if 1<p.n then [kw [41]] else []).all bt.may=true:=BK (by decide) rfl;rcases J1 h with e | e | e | e | e | e | e | e | e | e | e | e | e | e | e | e | e | e | e | e | e | e | e | e | e | e | e | e | e | e | e | e | e | e | e | e | e | e<;>rw [e] at aE aX ⊢
 all_goals simp only [rX,iv,Int.reduceEq,apm,apA,apO,apP,apR,an7,an4,reduceCtorEq] at aE aX
 all_goals simp only [pe,hh,gy,cK,f_,ht,Int.reduceLT,Int.reduceEq,apm,apA,apO,apP,apR,an7,an4]
 all_goals (repeat' (with_reducible apply BK))<;>try simp only [aoy,aoI,List.all_nil,an_,anP,bW,cu,c3,hM,a0,m0,m1,gH,jK,B0,R5,agC,YZ,ak6,JS,JT,JU,agv,agt,agz,ago,agf,age,agj,agy,agi,agl,JV,agh,agn,agc,agk,agp,agr,R0,agx,agw,agm,ags,agu,RZ,agd,agq,R1,aoz,aoC,Bool.and_self]
 all_goals first
  | exact Lp (.inl rfl) aE
  | exact Lp (.inr (.inl rfl)) aE
  | exact Lp (.inr (.inr rfl)) aE
  | exact ah1 aX
  | exact t0 _ _ _ (by decide)
  | exact t0 _ _ _ (agB aE)
  | (simp only [anM] at aE;simp [bt.may,dK,jl,aE])
mutual
theorem Vk:∀p:aQ,c6 p->p.words.all bt.may=true
 | .mk k n a s l,h=>Zx h (R3 l fun q aq=>jj h aq)
theorem R3:∀l:List aQ,(∀q ∈ l,c6 q)->nK (a' l)
 | [],_=>fun c ao=>by cases ao
 | t::l,h=>fun c ao=>by
   rcases an2.1 ao with rfl | ao
   . exact Vk t (h t aot)
   . exact R3 l (fun q aq=>h q (aoh _ aq)) c ao
end
theorem Gh:∀l:List aQ,(∀q ∈ l,c6 q)->(fT l).all bt.may=true
 | [],_=>rfl
 | t::l,h=>by have J:=Vk t (h t aot);have ad:=Gh l fun q aq=>h q (aoh _ aq);simp only [fT,aoI,aoy,J,ad,R1,aoz]
theorem SM {w:bt} (h:w.may=true):w.text.length<=4096:=by
 unfold bt.may jl at h
 split at h
 . simp only [anu,anM] at h;rw [h.1.1];simp
 . split at h
   . simp only [anu,anM] at h;exact h.2
   . split at h
     . unfold dG at h;simp only [anu,anM] at h;omega
     . split at h
       . simp only [anu] at h;have hm:w.text ∈ iR:=by have:=h.2;unfold hr at this;simpa using this
         exact (show ∀t ∈ iR,t.length<=4096 by decide) _ hm
       . split at h
         . simp only [anu] at h;have hm:w.text ∈ gK:=by simpa using h.2
           exact (show ∀t ∈ gK,t.length<=4096 by decide) _ hm
         . cases h
theorem Vp {l:List aQ} (h:∀q ∈ l,c6 q):hX (fT l)=(Lib.join ((fT l).map bt.out) [32],0):=by unfold hX;rw [Gh l h];rfl
theorem alp (ws:List bt) (w:bt):j7 (ws++[w])=j7 ws++w.enc:=by
 induction ws with
 | nil=>simp [j7]
 | cons x ws bC=>rw [anO,j7,bC,j7,anG]
abbrev eO (pre:List V) (b:Nat) (h:ah) (aP:V) (ws:List bt):Prop:=fM pre b 4 h aP ws.length (j7 ws)
abbrev eT (pre:List V) (b:Nat) (h:ah) (aP:V) (ab:ah) (di:V) (ws:List bt):Prop:=jR pre b 4 h aP ab di ws.length (j7 ws)
def ix (pre:List V) (b:Nat) (h:ah) (aP:V) (ws A:List bt) (x:V) (ab:ah):Prop:=x=.tuple []/\∃di,eT pre b h aP ab di (ws++A)
theorem zU {pre:List V} {b:Nat} {h:ah} {aP:V} {ws:List bt} (W:eO pre b h aP ws) (w:bt) (hlen:ws.length+1<=1000000000):
 ∃v J,jz 4 aP (.slice (aD h.next) 0 1 1) (h.new (.a_ w.enc 0 false))=.val v J/\J.get (aD b)=.a_ (pre++[aP]) 0 false/\eT pre b h aP (J.set (aD b) (.a_ (pre++[v]) 0 false)) v (ws++[w]):=by
 obtain ⟨v,J,a,bV,c⟩:=fM.one W (by decide) (cs:=w.enc) (by unfold top;omega) rfl rfl;refine ⟨v,J,a,bV,?_⟩;unfold eT;rw [alp,anw];exact c
theorem oC (k:Int) (s:List UInt8) (b:Nat) (bk:V) (h:ah) (aP:V) (ws:List bt) (W:eO [bk] b h aP ws) (hlen:ws.length+1<=1000000000) (hm:bk.one=true/\bk.cells=[bk]/\bk.fR=true):
 b8 Tryz.prog 68 [.ptr (aD b) 0,.int .i64 k,.str s] h (ix [bk] b h aP ws [dK k s]):=by
 obtain ⟨v,J,bP,a2,a3⟩:=zU W (dK k s) hlen;have g:h.get (aD b)=.a_ [bk,aP] 0 false:=W.g;have g1:J.get (aD b)=.a_ [bk,aP] 0 false:=a2;have ol:=W.lone;have jo:=a3.w.lone;simp only [dK,bt.enc] at bP;refine Yt.z rfl (ck ?_);unfold Og;simp only [g,g1,bP,ol,jo,hm.1,hm.2.1,↓aa,ae,simprocAttr];exact ⟨rfl,_,a3⟩
theorem Tz (n:Int) (b:Nat) (bk:V) (h:ah) (aP:V) (ws:List bt) (W:eO [bk] b h aP ws) (hlen:ws.length+1<=1000000000) (hm:bk.one=true/\bk.cells=[bk]/\bk.fR=true):
 b8 Tryz.prog 73 [.ptr (aD b) 0,.int .i64 n] h (ix [bk] b h aP ws [ox n]):=by
 obtain ⟨v,J,bP,a2,a3⟩:=zU W (ox n) hlen;have g:h.get (aD b)=.a_ [bk,aP] 0 false:=W.g;have g1:J.get (aD b)=.a_ [bk,aP] 0 false:=a2;have ol:=W.lone;have jo:=a3.w.lone;simp only [ox,bt.enc] at bP;refine Yy.z rfl (ck ?_);unfold Om;simp only [g,g1,bP,ol,jo,hm.1,hm.2.1,↓aa,ae,simprocAttr];exact ⟨rfl,_,a3⟩
structure lT (a b:Nat) (h:ah) (aP:V) (L:List (List UInt8)):Prop where
 g:h.get (aD a)=.a_ (ed L) 0 false
 ne:a≠b
 dq:¬aP.bh (aD a)
 lt:a<h.next
theorem lT.hB {a b:Nat} {pre:List V} {h ab:ah} {aP di:V} {i':List bt} {L:List (List UInt8)} (A:lT a b h aP L) (E:eT pre b h aP ab di i'):lT a b ab di L:=by
 have a1:Old h (aD a):=hE A.lt;refine ⟨by rw [E.get a1 (fun e=>A.ne (by have:=congrArg cY e;rwa [ee,ee] at this)) A.dq];exact A.g,A.ne,fun z=>?_,ao3 A.lt E.m.next⟩;rcases E.f _ z with y | y
 . exact A.dq y
 . rw [ee] at y;have:=A.lt;omega
theorem lT.mk' {b:Nat} {pre:List V} {h:ah} {aP:V} {ws:List bt} (W:eO pre b h aP ws) (L:List (List UInt8)):lT h.next b (h.new (.a_ (ed L) 0 false)) aP L:=
 ⟨jD _,by have:=W.lt;omega,fun z=>by have:=W.o.v.cJ z;unfold Old at this;rw [ee] at this;omega,by rw [gI];omega⟩
theorem RV (L:List (List UInt8)) (cB:∀s ∈ L,s≠[]) (aX:L.length<=100000) (a b:Nat) (bk:V) (h:ah) (aP:V) (ws:List bt) (W:eO [bk] b h aP ws) (hlen:ws.length+L.length<=1000000000) (hm:bk.one=true/\bk.cells=[bk]/\bk.fR=true)
 (A:lT a b h aP L) {K:V->ah->Prop} (dW:∀ab,ix [bk] b h aP ws (L.map kw) (.tuple []) ab->K (.tuple []) ab):
 gO Tryz.prog Hu (bA.a_ [.ptr (aD b) 0,.slice (aD a) 0 L.length L.length]) h fun e r ab=>e.ends/\∃ai,kt r ab []=some ai/\K (oneOf ai) ab:=by
 refine ck ?_;unfold Hu;simp only [↓aa,ae,simprocAttr];refine fE (fun r g=>r 0=.ptr (aD b) 0/\r 7=.slice (aD a) 0 L.length L.length/\r 8=.int .i64 L.length/\∃(i:Nat) (di:V),r 9=.int .i64 i/\i<=L.length/\eT [bk] b h aP g di (ws++(L.take i).map kw)) (fun r g=>L.length - (r 9).toN) ?_ ?_
 . exact ⟨by simp only [↓aa,cm,simprocAttr],by simp only [↓aa,cm,simprocAttr],by simp only [↓aa,cm,simprocAttr],0,aP,by simp only [↓aa,cm,simprocAttr]<;>rfl,by omega,by simpa [eT] using fM.refl W⟩
 rintro r g ⟨ba,hx,dS,i,jk,iX,au,E⟩;unfold Nv;have aG:=A.hB E;by_cases aH:i<L.length
 . have g0:((i:Int) < (L.length:Int))=True:=anJ (by omega);have dm:=iI aH (by omega);have S:e3 g 1 (.slice (aD a) 0 L.length L.length) L.length (ed L):=⟨by rw [uX];omega,rfl,hE aG.lt,ed L,.inr ⟨0,false,aG.g⟩,by rw [uX];omega,by simp⟩;obtain ⟨b9,dc,hd,dp⟩:=S.dj (k:=.i64) aH;have ep:=dp.ep (i:=i * 1) (by rw [uX];omega);simp only [ao4] at ep hd;have Bj:(ed L)[i]'(by rw [uX];exact aH)=.str L[i]:=by
    have:=Gc aH;rw [anv (by rw [uX];exact aH)] at this;exact aoN this
   rw [Bj] at ep;have eC:=cB _ (anB aH);have Jl:(L.take (i+1)).map kw=(L.take i).map kw++[kw L[i]]:=by rw [List.take_succ_eq_append_getElem aH,apb];rfl
   generalize aL:L[i]=s at *;obtain ⟨c,rs,rfl⟩:∃c rs,s=c::rs:=by
    cases s with
    | nil=>exact absurd rfl eC
    | cons c rs=>exact ⟨c,rs,rfl⟩
   have acM:(ws++(L.take i).map kw).length+1<=1000000000:=by rw [anw,anK,aod];omega
   obtain ⟨v,g1,bP,a2,a3⟩:=zU E.w (kw (c::rs)) acM;have H6:g.get (aD b)=.a_ [bk,jk] 0 false:=E.w.g;have H7:g1.get (aD b)=.a_ [bk,jk] 0 false:=a2;have ol:=E.w.lone;have jo:=a3.w.lone;rw [anG,<-Jl] at a3;have aco:(kw (c::rs)).enc=[.int .i64 (if sV c=true then 6 else 7),.int .i64 0,.int .i64 0,.str (c::rs)]:=rfl;rw [aco] at bP;have tB:(97<=(c.toNat:Int))=(97<=c):=propext ⟨fun q=>by show (97:UInt8).toNat<=c.toNat;simp;omega,fun q=>by have fH:(97:UInt8).toNat<=c.toNat:=q;simp at fH;omega⟩;have bW:((c.toNat:Int)<=122)=(c<=122):=propext ⟨fun q=>by show c.toNat<=(122:UInt8).toNat;simp;omega,fun q=>by have fH:c.toNat<=(122:UInt8).toNat:=q;simp at fH;omega⟩;have bJ:((0:Int) < ((rs.length+1:Nat):Int))=True:=anJ (by omega);by_cases A6:97<=c
   . by_cases Ef:c<=122
     . have aw:sV c=true:=by unfold sV;rw [aoc A6,aoc Ef];rfl
       rw [anL aw] at bP;have AJ:=tB.trans (anJ A6);have Hs:=bW.trans (anJ Ef);simp only [ba,hx,dS,iX,g0,dm,bJ,an7,hd,ep,H6,H7,bP,ol,jo,hm.1,hm.2.1,AJ,Hs,↓aa,ae,simprocAttr];exact ⟨⟨i+1,v,rfl,aH,E.trans a3⟩,by omega⟩
     . have aw:¬sV c=true:=by unfold sV;rw [aoe Ef,aoO];simp
       rw [anE aw] at bP;have AJ:=tB.trans (anJ A6);have Hs:=bW.trans (anA Ef);simp only [ba,hx,dS,iX,g0,dm,bJ,an7,hd,ep,H6,H7,bP,ol,jo,hm.1,hm.2.1,AJ,Hs,↓aa,ae,simprocAttr];exact ⟨⟨i+1,v,rfl,aH,E.trans a3⟩,by omega⟩
   . have aw:¬sV c=true:=by unfold sV;rw [aoe A6,aop];simp
     rw [anE aw] at bP;have AJ:=tB.trans (anA A6);simp only [ba,hx,dS,iX,g0,dm,bJ,an7,hd,ep,H6,H7,bP,ol,jo,hm.1,hm.2.1,AJ,↓aa,ae,simprocAttr];exact ⟨⟨i+1,v,rfl,aH,E.trans a3⟩,by omega⟩
 . have g0:((i:Int) < (L.length:Int))=False:=anA (by omega);rw [aos (by omega)] at E;simp only [ba,hx,dS,iX,g0,↓aa,ae,simprocAttr];exact dW _ ⟨rfl,_,E⟩
theorem uk (L:List (List UInt8)) (cB:∀s ∈ L,s≠[]) (aX:L.length<=100000) (a b:Nat) (bk:V) (h:ah) (aP:V) (ws:List bt) (W:eO [bk] b h aP ws) (hlen:ws.length+L.length<=1000000000) (hm:bk.one=true/\bk.cells=[bk]/\bk.fR=true)
 (A:lT a b h aP L):b8 Tryz.prog 24 [.ptr (aD b) 0,.slice (aD a) 0 L.length L.length] h (ix [bk] b h aP ws (L.map kw)):=
 Nu.z rfl (RV L cB aX a b bk h aP ws W hlen hm A fun ab k=>k)
theorem aft (L:List (List UInt8)) (cB:∀s ∈ L,s≠[]) (aX:L.length<=100000) (a b:Nat) (bk:V) (h:ah) (aP:V) (ws:List bt) (W:eO [bk] b h aP ws) (hlen:ws.length+L.length<=1000000000) (hm:bk.one=true/\bk.cells=[bk]/\bk.fR=true)
 (A:lT a b h aP L):u9 Tryz.prog 24 [.ptr (aD b) 0,.slice (aD a) 0 L.length L.length] none h fun u ab=>u=none/\ix [bk] b h aP ws (L.map kw) (.tuple []) ab:=
 Nu.d rfl (RV (K:=fun _ ab=>none=none/\ix [bk] b h aP ws (L.map kw) (.tuple []) ab) L cB aX a b bk h aP ws W hlen hm A fun ab k=>⟨rfl,k⟩)
abbrev Lone (bk:V):Prop:=bk.one=true/\bk.cells=[bk]/\bk.fR=true
theorem U1 (n:Int) (b:Nat) (bk:V) (h:ah) (aP:V) (ws:List bt) (W:eO [bk] b h aP ws) (hlen:ws.length+1<=1000000000) (hm:Lone bk):
 b8 Tryz.prog 74 [.ptr (aD b) 0,.int .i64 n] h (ix [bk] b h aP ws [oD n]):=by
 refine Yz.z rfl (ck ?_);unfold On;by_cases aX:n=1
 . have l5:=anJ aX;have e:=(Ext.refl h).new (.a_ (ed [[116,114,117,101]]) 0 false);have ay:=uk [[116,114,117,101]] (by decide) (by decide) h.next b bk (h.new (.a_ (ed [[116,114,117,101]]) 0 false)) aP ws (W.ext e) hlen hm (lT.mk' W _)
   simp only [l5,↓aa,ae,simprocAttr];refine bq ay ?_;rintro x J ⟨rfl,jk,E⟩;simp only [↓aa,ae,simprocAttr];refine ⟨rfl,jk,?_⟩;rw [oD,anL aX];exact E.b' e
 . have l5:=anA aX;have e:=(Ext.refl h).new (.a_ (ed [[102,97,108,115,101]]) 0 false);have ay:=uk [[102,97,108,115,101]] (by decide) (by decide) h.next b bk (h.new (.a_ (ed [[102,97,108,115,101]]) 0 false)) aP ws (W.ext e) hlen hm (lT.mk' W _)
   simp only [l5,↓aa,ae,simprocAttr];refine bq ay ?_;rintro x J ⟨rfl,jk,E⟩;simp only [↓aa,ae,simprocAttr];refine ⟨rfl,jk,?_⟩;rw [oD,anE aX];exact E.b' e
theorem Kt (s:List UInt8) (h:ah):b8 Tryz.prog 75 [.str s] h fun x ab=>x=.int .i64 (dQ s)/\ab=h:=by
 refine YA.z rfl (ck ?_);unfold Oo dQ;by_cases bP:s=[61]
 . rw [anL (.inl bP)];simp only [anJ bP,↓aa,ae,simprocAttr]
   try (first | rfl | exact ⟨rfl,rfl⟩)
 by_cases a2:s=[60]
 . rw [anL (.inr (.inl a2))];simp only [anA bP,anJ a2,↓aa,ae,simprocAttr]
   try (first | rfl | exact ⟨rfl,rfl⟩)
 by_cases a3:s=[60,61]
 . rw [anL (.inr (.inr a3))];simp only [anA bP,anA a2,anJ a3,↓aa,ae,simprocAttr]
   try (first | rfl | exact ⟨rfl,rfl⟩)
 have aX:¬(s=[61]\/s=[60]\/s=[60,61]):=by
  rintro (z | z | z)
  . exact bP z
  . exact a2 z
  . exact a3 z
 rw [anE aX];by_cases a4:s=[43]
 . rw [anL (.inl a4)];simp only [anA bP,anA a2,anA a3,anJ a4,↓aa,ae,simprocAttr]
   try (first | rfl | exact ⟨rfl,rfl⟩)
 by_cases a5:s=[45]
 . rw [anL (.inr a5)];simp only [anA bP,anA a2,anA a3,anA a4,anJ a5,↓aa,ae,simprocAttr]
   try (first | rfl | exact ⟨rfl,rfl⟩)
 rw [anE (by rintro (z | z);exact a4 z;exact a5 z)];simp only [anA bP,anA a2,anA a3,anA a4,anA a5,↓aa,ae,simprocAttr]
 try (first | rfl | exact ⟨rfl,rfl⟩)
def E2:List (Int × List D):=uv.map fun x=>(x.1,[.i .i64 x.2])
theorem aaO (k:Int):mQ k E2=(sT k uv).map fun x=>[.i .i64 x]:=by
 unfold E2
 induction uv with
 | nil=>rfl
 | cons y l bC=>
   obtain ⟨n,x⟩:=y;simp only [aow,mQ,sT];by_cases q:k=n
   . rw [anL q,anL q];rfl
   . rw [anE q,anE q];exact bC
def rJ:V->Bool
 | .int .i64 _=>true
 | _=>false
def vE:cn->Bool
 | .mp es _=>es.all fun m=>rJ m.v
 | .iF es=>es.all fun m=>rJ m.v
 | _=>false
theorem PW {e:ef} {k y:V}:∀{es:List cM},(es.all fun m=>rJ m.v)=true->kQ e k es=some (some y)->rJ y=true
 | [],_,h=>by simp [kQ] at h
 | m::es,aX,h=>by
   simp only [aoy,anu] at aX;simp only [kQ] at h;cases ao:e.run k m.k with
   | none=>rw [ao] at h;cases h
   | some b=>
     rw [ao] at h;cases b with
     | true=>simp only [anC,ant] at h;subst h;exact aX.1
     | false=>exact PW aX.2 h
theorem PV {e:ef} {k y:V}:∀{es:List cM},(es.all fun m=>rJ m.v)=true->kP e k es=some (some y)->rJ y=true
 | [],_,h=>by simp [kP] at h
 | m::es,aX,h=>by
   simp only [aoy,anu] at aX;simp only [kP] at h;cases hu:kP e k es with
   | none=>rw [hu] at h;cases h
   | some r=>
     rw [hu] at h;cases ao:e.run k m.k with
     | none=>rw [ao] at h;cases h
     | some b=>
       rw [ao] at h;cases b with
       | true=>
         cases r with
         | none=>simp only [anC,ant] at h;subst h;exact aX.1
         | some _=>cases h
       | false=>
         simp only [anN,ant] at h;subst h;exact PV aX.2 hu
theorem ahm {h:ah} {b:aU} {e:ef} {k z y:V} (aX:vE (h.get b)=true) (e7:kD e z true h (.map b) k=some (.tuple [y,.bool true])):rJ y=true:=by
 unfold kD at e7;simp only at e7;cases aj:h.get b<;>rw [aj] at e7 aX<;>simp only [vE] at aX<;>try (cases aX;done)
 . simp only [nF,rR,aj,cn.lD] at e7;rename_i es clock;cases aA:kQ e k es with
   | none=>rw [aA] at e7;cases e7
   | some r=>
     rw [aA] at e7;cases r with
     | none=>simp only [anC,ant,V.tuple.injEq,aoY] at e7;exact absurd e7.2.1 (by simp)
     | some v=>
       simp only [anC,ant,V.tuple.injEq,aoY,apI] at e7;subst e7;exact PW aX aA
 . rename_i es;simp only at e7;cases aA:kP e k es with
   | none=>rw [aA] at e7;cases e7
   | some r=>
     rw [aA] at e7;cases r with
     | none=>simp only [anC,ant,V.tuple.injEq,aoY] at e7;exact absurd e7.2.1 (by simp)
     | some v=>
       simp only [anC,ant,V.tuple.injEq,aoY,apI] at e7;subst e7;exact PV aX aA
structure hK (F:aU->Prop) (h:ah) (v:V):Prop where
 i:kN F h E2 v
 n:∃b,v=.map b/\F b/\Old h b/\vE (h.get b)=true
theorem hK.ext {F:aU->Prop} {h ab:ah} {v:V} (M:hK F h v) (e:Ext h ab):hK F ab v:=by obtain ⟨b,ag,av,aJ,bU⟩:=M.n;exact ⟨M.i.ext e,b,ag,av,e.cJ aJ,by rw [e.get b aJ];exact bU⟩
theorem hK.mod {F dn M:aU->Prop} {h ab:ah} {v:V} (m:Mod M h ab) (dE:∀b,F b->Old h b->¬M b/\dn b) (H:hK F h v):hK dn ab v:=by obtain ⟨b,ag,av,aJ,bU⟩:=H.n;obtain ⟨de,kX⟩:=dE b av aJ;exact ⟨H.i.mod m dE,b,ag,kX,m.cJ aJ,by rw [m.get b aJ de];exact bU⟩
theorem hK.hB {pre:List V} {b:Nat} {h ab:ah} {aP di v:V} {ws i':List bt} (M:hK (dU b) h v) (E:eT pre b h aP ab di i') (W:eO pre b h aP ws):hK (dU b) ab v:=M.mod E.m (E.gw W)
def S8 (ao:ah) (v:V):Bool:=zm ao 1000 E2 v&&(match v with
 | .map b=>vE (ao.get b)
 | _=>false)
set_option maxRecDepth 100000 in
theorem ag9:Cn ctx 100000 22 S8=true:=by kernel_rfl
theorem ad8 (n:Nat) (v:V):rJ (v.df n)=rJ v:=by cases v<;>rfl
theorem aak (n:Nat) (k:cn):vE (k.df n)=vE k:=by
 cases k<;>first
  | rfl
  | simp only [cn.df,vE,List.all_map,Function.comp_def,cM.df,ad8]
theorem ag8 (h:ah):b8 Tryz.prog 22 [] h fun x ab=>Ext h ab/\hK (p8 h) ab x:=by
 obtain ⟨v,ao,q,c⟩:=OU (C:=ctx) follows uB FD (by kernel_rfl) (by kernel_rfl) ⟨_,Tryz.func22,by kernel_rfl⟩ ag9 h;unfold S8 at q;rw [anu] at q;have M:=(S9 (h:=h) q.1).mX (dn:=p8 h) fun b q=>q.1;refine ⟨_,_,c,Ma _ _,M,?_⟩;obtain ⟨b,es,al,aN,cj,gl,jf⟩:=M.ex;refine ⟨b,al,jf,aN,?_⟩;obtain ⟨ag,av⟩:=q;cases v<;>simp only [V.df] at al<;>try (cases al;done)
 rename_i nT;simp only [zm,anu] at ag;have J:cY nT<ao.next:=an9 ag.1.1
 have an:=G9 h ao J;rw [uI] at an;simp only [V.map.injEq] at al;rw [<-al];unfold k0;rw [an,aak];exact av
theorem kN.lone {F:aU->Prop} {h:ah} {eH:List (Int × List D)} {v:V} (M:kN F h eH v):Lone v:=by obtain ⟨b,es,rfl,_⟩:=M.ex;exact ⟨rfl,rfl,rfl⟩
abbrev bN (p:aQ) (eS:V):List V:=[.int .i64 p.k,.int .i64 p.n,.int .i64 p.a,.str p.s,eS]
theorem B6 {F dn:aU->Prop} (p:aQ) (bk w:V) (h:ah) (M:hK F h bk) (X:cg dn h p.enc (bN p w)):b8 Tryz.prog 77 [bk,.agg (bN p w)] h fun x ab=>x=.int .i64 p.kC/\Ext h ab:=by
 obtain ⟨eS,e,cz,yP⟩:=aQ.open X;obtain rfl:w=eS:=by simp only [bN,List.cons.injEq] at e;exact e.2.2.2.2.1
 have ol:=cz.one;have aw:=cz.len;rw [anK] at aw;obtain ⟨J,ag,al,aG⟩:=f' h (bN p w);simp only [bN] at ag aG ⊢;refine YC.z rfl (ck ?_);unfold Ot;have look:=(M.i.ext al).look p.k (.int .i64 0) true;rw [aaO] at look;unfold aQ.kC E0;cases aK:sT p.k uv with
 | some x=>
   rw [aK] at look;rcases look with ⟨bp,_⟩ | ⟨ds,y,qm,Y,e7⟩
   . cases bp
   . rw [anC] at e7;replace e7:kD nO.int.eq _ true J bk _=_:=e7;simp only [ao2,ant] at qm;subst qm;obtain ⟨_,he,L3⟩:=Y.int;obtain rfl:=L3.no;obtain ⟨b,rfl,_,_,aj⟩:=(M.ext al).n;have au:=ahm aj e7;obtain rfl:y=.int .i64 x:=by
      cases y<;>simp only [rJ] at au<;>try (cases au;done)
      rename_i dB n;cases dB<;>simp only at au<;>try (cases au;done)
      simp only [V.cells,aoY,V.int.injEq,api,apI] at he;rw [he]
     simp only [ag,ol,aG.g,e7,↓aa,ae,simprocAttr];exact al
 | none=>
   rw [aK] at look;rcases look with ⟨_,e7⟩ | ⟨_,_,bp,_⟩
   rotate_left
   . cases bp
   rw [anC] at e7;replace e7:kD nO.int.eq _ true J bk _=_:=e7;by_cases JK:p.k=16
   . have ug:=anJ JK;have uh:=anA (show ¬p.k=25 by omega);have ui:=anA (show ¬p.k=38 by omega);have wM:=anJ (show p.k<20 by omega);by_cases hlen:0<p.l.length
     . have l3:((0:Int) < (p.l.length:Int))=True:=anJ (by omega);rw [anL ⟨JK,hlen⟩];simp only [ag,ol,aG.g,e7,aw,l3,ug,↓aa,ae,simprocAttr];exact al
     . have l3:((0:Int) < (p.l.length:Int))=False:=anA (by omega);rw [anE (by omega),anE (by omega),anE (by omega),anL (by omega)];simp only [ag,ol,aG.g,e7,aw,l3,ug,uh,ui,wM,↓aa,ae,simprocAttr];exact al
   . have ug:=anA JK;rw [anE (by omega)];by_cases JL:p.k=25
     . have uh:=anJ JL;have ui:=anA (show ¬p.k=38 by omega);have wM:=anA (show ¬p.k<20 by omega);by_cases hlen:0<p.l.length
       . have l3:((0:Int) < (p.l.length:Int))=True:=anJ (by omega);rw [anL ⟨JL,hlen⟩];simp only [ag,ol,aG.g,e7,aw,l3,ug,uh,↓aa,ae,simprocAttr];exact al
       . have l3:((0:Int) < (p.l.length:Int))=False:=anA (by omega);rw [anE (by omega),anE (by omega),anE (by omega)];simp only [ag,ol,aG.g,e7,aw,l3,ug,uh,ui,wM,↓aa,ae,simprocAttr];exact al
     . have uh:=anA JL;rw [anE (by omega)];by_cases ER:p.k=38
       . have ui:=anJ ER;rw [anL ER];simp only [ag,ol,aG.g,e7,aw,ug,uh,ui,↓aa,ae,simprocAttr];refine bq (Kt p.s J) ?_;rintro x ad ⟨rfl,rfl⟩;simp only [↓aa,ae,simprocAttr];exact al
       . have ui:=anA ER;rw [anE ER];by_cases EP:p.k<20
         . have wM:=anJ EP;rw [anL EP];simp only [ag,ol,aG.g,e7,aw,ug,uh,ui,wM,↓aa,ae,simprocAttr];exact al
         . have wM:=anA EP;rw [anE EP];simp only [ag,ol,aG.g,e7,aw,ug,uh,ui,wM,↓aa,ae,simprocAttr];exact al
end
end Go.Proofs.YtefceblncmdkhaaGreatDoor
