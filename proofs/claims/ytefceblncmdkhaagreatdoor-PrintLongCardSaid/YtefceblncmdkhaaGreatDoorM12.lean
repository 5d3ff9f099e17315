/- The chapter's functions, walked by the abstract machine: plain lemmas, no condition. Printed by a program from longer texts: names made short. -/
import Derived.Test.YtefceblncmdkhaaGreatDoorM10
import Derived.Test.YtefceblncmdkhaaGreatDoorM11
import Derived.Test.YtefceblncmdkhaaGreatDoorM8
import Derived.Test.YtefceblncmdkhaaGreatDoorM6
set_option linter.unusedSectionVars false
set_option linter.unusedSimpArgs false
set_option linter.unusedVariables false
set_option maxHeartbeats 64000000
noncomputable section
namespace Go.Proofs.YtefceblncmdkhaaGreatDoor
section
open Go bd
def SN (n:Nat):Bool:=match sg ctx 1000 99 [.int .u64 1,.int .u64 n] ah.empty with
 | .val (.tuple [.int .u64 a,.int .u64 b]) ao=>tZ a 0&&tZ b n&&Nat.beq ao.next 0
 | _=>false
set_option maxRecDepth 100000 in
theorem ahf:(List.range 65).all SN=true:=by kernel_rfl
theorem ahe (n:Nat) (aX:n<=64) (h:ah):b' Tryz.prog 99 [.int .u64 1,.int .u64 n] h fun x aa=>x=.tuple [.int .u64 0,.int .u64 n]/\aa=h:=by
 have q:=anr.1 ahf n (aoy.2 (by omega));unfold SN at q
 split at q
 . rename_i a b ao he;simp only [amX] at q;obtain ⟨⟨ag,av⟩,aI⟩:=q;have ag:=Eu ag;have av:=Eu av;have aI:=anP aI;have c:=aal (C:=ctx) follows uA Ft (n:=1000) (f:=99) (by rfl) (by kernel_rfl) (by kernel_rfl) ⟨_,Tryz.func99,by kernel_rfl⟩ he h;refine ⟨_,_,c,?_,?_⟩
   . simp only [V.dd,lL,ag,av]
   . unfold ah.app;rw [aI];rfl
 . cases q
theorem ah9 (z:Int):∀i:Nat,fq (List.replicate i (V.int .i64 z))=true:=fun i=>by
 induction i with
 | zero=>rfl
 | succ i bA=>simpa [aoR,fq,V.one] using bA
theorem aj5 {i m n:Nat} {z y:V} (J:m<=i) (ad:i+m<=n):jF (List.replicate i z++List.replicate (n-i) y) i (List.take m (List.replicate i z))=List.replicate (i+m) z++List.replicate (n - (i+m)) y:=by
 apply List.ext_getElem?;intro q;have hm:(List.take m (List.replicate i z)).length=m:=by rw [anH,am5];omega
 rw [aj4 _ _ _ (by rw [hm,amZ,am5,am5];omega),hm];by_cases a:q<i
 . rw [anb a,anp (by rw [am5];exact a),anp (by rw [am5];omega),aok,aok,anb a,anb (by omega)]
 . rw [am7 a];by_cases b:q<i+m
   . rw [anb b,an8 (by omega),aok,anb (by omega),anp (by rw [am5];omega),aok,anb b]
   . rw [am7 b,ano (by rw [am5];omega),ano (by rw [am5];omega),am5,am5,aok,aok];by_cases c:q<n
     . rw [anb (by omega),anb (by omega)]
     . rw [am7 (by omega),am7 (by omega)]
theorem ai' (v:V) (z:Int) (n:Nat) (aX:n<=64) (h:ah) (H:e9 h 1 v 1 [.int .i64 z]):b' Tryz.prog 66 [v,.int .i64 n] h fun x aa=>cq Any aa 1 ((List.replicate n z).map bd.nV) x/\Ext h aa:=by
 refine XS.z rfl (cp ?_);unfold NP;have f0:((n:Int)<0)=False:=am2 (by omega);have b4:IntKind.u64.wrap (n:Int)=(n:Int):=by rw [IntKind.wrap_u64];omega
 have b1:IntKind.i64.wrap (n:Int)=(n:Int):=wrap_i64 (by omega) (by omega);have aB:IntKind.u64.wrap 1=1:=by decide
 have f1:((9223372036854775807:Int) < (n:Int))=False:=am2 (by omega);have ax:mJ v=some (.int .i64 1):=H.len;simp only [f0,ax,aB,b4,↓ab,ae,simprocAttr];refine bw (ahe n aX h) ?_;rintro x J ⟨rfl,rfl⟩;obtain ⟨ad,av,aN,g2⟩:∃H,J.new (.a_ (List.replicate n (.int .i64 0)) 0 false)=H/\Ext J H/\Has H J.next (List.replicate n (.int .i64 0)):=gb J _
 have mk:=ag5 (h:=J) (n:=n) (z:=.int .i64 0) (k:=.i64) (bx:=.i64) (by omega);rw [av] at mk;have hlen:(List.replicate n (V.int .i64 0)).length=n:=am5;have AE:=copy_eq (h:=ad) (b:=aC J.next) (off:=0) (l:=n) (c:=n) (H.ext aN) g2.g (by rw [hlen,anB];exact Nat.min_le_right _ _) rfl;simp only [f0,f1,b1,mk,AE,↓ab,ae,simprocAttr];refine fS (fun r g=>r 7=.slice (aC J.next) 0 n n/\∃i:Nat,r 8=.int .i64 i/\i<=n/\(1<=n->1<=i)/\Has g J.next (List.replicate i (V.int .i64 z)++List.replicate (n-i) (V.int .i64 0))/\Ext J g) (fun r g=>n - (r 8).toN) ?_ ?_
 . refine ⟨by simp only [↓ab,cx,simprocAttr],Nat.min 1 n,by simp only [↓ab,cx,simprocAttr],Nat.min_le_right _ _,fun q=>by rw [show Nat.min 1 n=1 from Nat.min_eq_left q];omega,?_,aN.set (am6 _) _⟩;have:=g2.put (jF (List.replicate n (V.int .i64 0)) 0 (List.take (Nat.min 1 n) [V.int .i64 z]));by_cases bG:n=0
   . subst bG;exact this
   . rw [show Nat.min 1 n=1 from Nat.min_eq_left (by omega)] at this ⊢;obtain ⟨m,rfl⟩:∃m,n=m+1:=⟨n-1,by omega⟩;exact this
 rintro r g ⟨hq,i,eg,au,da,G,E⟩;unfold NQ;by_cases aL:i<n
 . have g0:((i:Int) < (n:Int))=True:=am_ (by omega);have PX:=da (by omega);have S:e9 g 1 (.slice (aC J.next) 0 i n) i (List.replicate i (V.int .i64 z)):=by
    refine ⟨by rw [am5,aov],rfl,hB G.lt,_,.inr ⟨0,false,G.g⟩,by rw [amZ,am5];omega,?_⟩;rw [anN,aoW rfl]
   have AE:=copy_eq (h:=g) (b:=aC J.next) (off:=i) (l:=n-i) (c:=n-i) S G.g (by rw [amZ,am5,am5];have:Nat.min i (n-i)<=n-i:=Nat.min_le_right _ _;omega) (ah9 z i);have Bc:Nat.min i (n-i)<=i:=Nat.min_le_left _ _;have oX:Nat.min i (n-i)<=n-i:=Nat.min_le_right _ _;have al4:1<=Nat.min i (n-i):=Nat.le_min.2 ⟨PX,by omega⟩;generalize Nat.min i (n-i)=m at *;have dt:IntKind.i64.wrap ((i:Int) + ((m:Nat):Int))=((i+m:Nat):Int):=by rw [wrap_i64 (by omega) (by omega)];omega
   have bW:=Zd (b:=aC J.next) (k:=.i64) aL;have cw:=Zc (b:=aC J.next) (k:=.i64) au PX;simp only [hq,eg,g0,bW,cw,AE,dt,↓ab,ae,simprocAttr];refine ⟨⟨i+m,rfl,by omega,fun _=>by omega,?_,E.set (am6 _) _⟩,by omega⟩;have:=G.put (jF (List.replicate i (V.int .i64 z)++List.replicate (n-i) (V.int .i64 0)) i (List.take m (List.replicate i (V.int .i64 z))));rw [aj5 Bc (by omega)] at this ⊢;exact this
 . have g0:((i:Int) < (n:Int))=False:=am2 (by omega);have:i=n:=by omega
   subst this;simp only [hq,eg,g0,↓ab,ae,simprocAttr];refine ⟨e9.hr (l:=List.replicate i z) ?_ (fun b o l c e=>by cases e;exact am6 _) (by rw [am5];unfold top;omega),E⟩;have al:=G.g;rw [aoG,List.replicate_zero,anC] at al;have au:mG (List.replicate i z)=List.replicate i (V.int .i64 z):=by unfold mG;rw [List.map_replicate]
   rw [au,am5];exact ⟨by rw [am5,aov],rfl,hB G.lt,_,.inr ⟨0,false,al⟩,by rw [am5];omega,by rw [anN,aox]⟩
theorem akt (oZ:Int) (s:List UInt8) (h:ah):b' Tryz.prog 65 [.int .i64 oZ,.str s] h fun x aa=>x=.bool (zB dB oZ s)/\Ext h aa:=by
 refine XR.z rfl (cp ?_);unfold NO zB;by_cases bR:oZ=1
 . simp only [am_ bR,anz,↓ab,ae,simprocAttr];refine bw (K8 3 (by simp) s h) ?_;rintro x J ⟨rfl,an⟩;simp only [↓ab,ae,simprocAttr];exact an
 by_cases a2:oZ=2
 . simp only [am2 bR,am_ a2,anz,anw,↓ab,ae,simprocAttr];refine bw (K8 4 (by simp) s h) ?_;rintro x J ⟨rfl,an⟩;simp only [↓ab,ae,simprocAttr];exact an
 by_cases a3:oZ=3
 . simp only [am2 bR,am2 a2,am_ a3,anz,anw,↓ab,ae,simprocAttr];refine bw (K8 5 (by simp) s h) ?_;rintro x J ⟨rfl,an⟩;simp only [↓ab,ae,simprocAttr];exact an
 by_cases a4:oZ=4
 . have aZ:decide (s.length<=4096)=decide ((s.length:Int)<=4096):=decide_eq_decide.2 ⟨fun q=>by omega,fun q=>by omega⟩;simp only [am2 bR,am2 a2,am2 a3,am_ a4,aZ,anz,anw,↓ab,ae,simprocAttr];exact Ext.refl _
 by_cases a5:oZ=5
 . obtain ⟨J,ag,an,Y⟩:=sT h 1 8 [.str [43],.str [45],.str [42],.str [47],.str [109,111,100],.str [61],.str [60],.str [60,61]] rfl (by unfold top;omega);simp only [am2 bR,am2 a2,am2 a3,am2 a4,am_ a5,ag,anz,anw,↓ab,ae,simprocAttr];refine ey (Oy s opsL _ J Y.v (by decide)) ?_;simp only [↓ab,ae,simprocAttr];exact an
 . simp only [am2 bR,am2 a2,am2 a3,am2 a4,am2 a5,anw,↓ab,ae,simprocAttr];exact Ext.refl _
theorem iF.open {F:aU->Prop} {h:ah} {r:iF} {ai:List V} (H:cj F h r.enc ai):∃lW aP,ai=[lW,.int .i64 r.rest,.int .i64 r.least,.int .i64 r.lA,aP,.int .i64 r.bO,.int .i64 r.au,.int .i64 r.s]/\cq F h 1 (r.first.map bd.nV) lW/\cq F h 1 (r.last.map bd.nV) aP:=by unfold iF.enc at H;obtain ⟨lW,_,rfl,r3,H1⟩:=H.ek;obtain ⟨_,rfl,c6⟩:=H1.int;obtain ⟨_,rfl,Gk⟩:=c6.int;obtain ⟨_,rfl,Gl⟩:=Gk.int;obtain ⟨aP,_,rfl,b6,Gm⟩:=Gl.ek;obtain ⟨_,rfl,Va⟩:=Gm.int;obtain ⟨_,rfl,Vb⟩:=Va.int;obtain ⟨_,rfl,Vc⟩:=Vb.int;obtain rfl:=Vc.no;exact ⟨lW,aP,rfl,r3,b6⟩
theorem ag_ {t:aS} (h:pK t.k=none):t.may dB=false:=by cases t;rw [aS.may];simp only [aS.k] at h;rw [h]
theorem aha {t:aS} {r:iF} (h:pK t.k=some r):t.may dB=(A4 dB r t.k t.n t.a t.s&&lx r t.k t.n t.l.length&&ow dB (oT r t.k t.n t.l.length) t.l):=by cases t;rw [aS.may];simp only [aS.k] at h;rw [h];rfl
theorem ajw {k:Int} {r:iF} (h:pK k=some r):r.first.length<=3/\r.last.length<=1/\0<=r.least/\(k=50->r.bO=0/\r.au=64):=by
 have hm:=FP (l:=s6) h;simp only [s6,ans,aoi,List.not_mem_nil,aoN] at hm;rcases hm with h | h | h | h | h | h | h | h | h | h | h | h | h | h | h | h | h | h | h | h | h | h | h | h | h | h | h | h | h | h | h | h | h | h | h | h | h | h<;>
 obtain ⟨rfl,rfl⟩:=h<;>simp
theorem aa6 {r:iF} {k n:Int} {len i:Nat} (a1:0<=hE r k n len) (au:i<len):(oT r k n len)[i]? =some (if aA:i < (firstM r k n).length then (firstM r k n)[i] else if i < (firstM r k n).length + (hE r k n len).toNat then r.rest else (r.last[i - ((firstM r k n).length + (hE r k n len).toNat)]?.getD 0)):=by
 have hlen:(len:Int)=(firstM r k n).length+hE r k n len+r.last.length:=by unfold hE;omega
 unfold oT;by_cases a:i < (firstM r k n).length
 . rw [dif_pos a,ana,anp a,amY a]
 . rw [dif_neg a];by_cases b:i < (firstM r k n).length + (hE r k n len).toNat
   . rw [anb b,anp (by rw [amZ,am5];exact b),ano (by omega),aok,anb (by omega)]
   . rw [am7 b,ano (by rw [amZ,am5];omega),amZ,am5];rw [amY (by omega)];rfl
theorem aa7 {r:iF} {k n:Int} {len:Nat} (a1:0<=hE r k n len):(oT r k n len).length=len:=by
 have hlen:(len:Int)=(firstM r k n).length+hE r k n len+r.last.length:=by unfold hE;omega
 unfold oT;rw [amZ,amZ,am5];omega
theorem Ak (b:aU) (o:Nat):(sN 2 1).run (.ptr b o) (.int .i64 0)=some (.ptr b o):=rfl
theorem Al (b:aU) (o:Nat):(sN 2 1).run (.ptr b o) (.int .i64 1)=some (.ptr b (o+1)):=rfl
theorem So:∀(N:Nat) (t:aS),t.size<=N->N<=1000000000->∀(bg:V) (F:aU->Prop) (ai:List V) (h:ah),kL F h FQ bg->cj Any h t.enc ai->b' Tryz.prog 36 [bg,.agg ai] h fun x aa=>x=.bool (t.may dB)/\Ext h aa
 | 0,t,aM,_,_,_,_,_,_,_=>by have:=w3 t;omega
 | N+1,t,aM,H9,bg,F,ai,h,M,H=>by
   have CK:=H;obtain ⟨e3,rfl,L,_⟩:=aS.open H;have aK:N<=1000000000:=by omega
   have ol:=L.one;have ax:=L.len;have hle:=L.le;rw [anc] at ax hle;have cy:=size_eq t;have kv:=Fu t.l;refine Xs.z rfl (cp ?_);unfold Nd;obtain ⟨J,ag,an,tq⟩:=gb h [.int .i64 t.k,.int .i64 t.n,.int .i64 t.a,.str t.s,e3];have look:=(M.ext an).look t.k (.agg [.cc,.int .i64 0,.int .i64 0,.int .i64 0,.cc,.int .i64 0,.int .i64 0,.int .i64 0]) true;rw [aag] at look;cases aJ:pK t.k with
   | none=>
     rw [aJ] at look;rcases look with ⟨_,e0⟩ | ⟨_,_,bo,_⟩
     . rw [am4] at e0;replace e0:kA nL.int.eq _ true J bg _=_:=e0;rw [ag_ aJ];obtain ⟨ad,av,aN,br⟩:=jq J [.cc,.int .i64 0,.int .i64 0,.int .i64 0,.cc,.int .i64 0,.int .i64 0,.int .i64 0] [.cc,.int .i64 0,.int .i64 0,.int .i64 0,.cc,.int .i64 0,.int .i64 0,.int .i64 0];simp only [ol.1,ol.2.1,ag,av,tq.g,e0,↓ab,ae,simprocAttr];exact an.trans aN
     . cases bo
   | some r=>
   rw [aJ] at look;rcases look with ⟨bo,_⟩ | ⟨ds,y,qf,Y,e0⟩
   . cases bo
   rw [am4] at e0;replace e0:kA nL.int.eq _ true J bg _=_:=e0;obtain rfl:r.enc=ds:=an9 qf;rw [aha aJ];obtain ⟨amz,amA,amB,aju⟩:=ajw aJ;obtain ⟨lW,aP,bc,Lm,Ly⟩:=iF.open Y;have of:=Lm.one;have jf:=Ly.one;obtain ⟨ad,av,aN,br⟩:=jq J [.cc,.int .i64 0,.int .i64 0,.int .i64 0,.cc,.int .i64 0,.int .i64 0,.int .i64 0] [lW,.int .i64 r.rest,.int .i64 r.least,.int .i64 r.lA,aP,.int .i64 r.bO,.int .i64 r.au,.int .i64 r.s];have xE:=tq.ext aN;have aH:=an.trans aN;unfold A4;by_cases bW:t.n<r.bO
   . rw [anL (show ¬r.bO<=t.n by omega)];simp only [ol.1,ol.2.1,ag,av,tq.g,xE.g,br.g,Ak,Al,e0,bc,of.1,jf.1,am_ bW,anR,↓ab,ae,simprocAttr];exact aH
   by_cases cw:r.au<t.n
   . rw [anL (show ¬t.n<=r.au by omega)];simp only [ol.1,ol.2.1,ag,av,tq.g,xE.g,br.g,Ak,Al,e0,bc,of.1,jf.1,am2 bW,am_ cw,anR,aob,↓ab,ae,simprocAttr];exact aH
   by_cases c3:t.a<0
   . rw [anL (show ¬0<=t.a by omega)];simp only [ol.1,ol.2.1,ag,av,tq.g,xE.g,br.g,Ak,Al,e0,bc,of.1,jf.1,am2 bW,am2 cw,am_ c3,anR,aob,↓ab,ae,simprocAttr];exact aH
   by_cases gV:65536<t.a
   . rw [anL (show ¬t.a<=65536 by omega)];simp only [ol.1,ol.2.1,ag,av,tq.g,xE.g,br.g,Ak,Al,e0,bc,of.1,jf.1,am2 bW,am2 cw,am2 c3,am_ gV,anR,aob,↓ab,ae,simprocAttr];exact aH
   rw [anG (show r.bO<=t.n by omega),anG (show t.n<=r.au by omega),anG (show 0<=t.a by omega),anG (show t.a<=65536 by omega)];simp only [ol.1,ol.2.1,ag,av,tq.g,xE.g,br.g,Ak,Al,e0,bc,of.1,jf.1,am2 bW,am2 cw,am2 c3,am2 gV,an2,↓ab,ae,simprocAttr];refine bw (akt r.s t.s ad) ?_;rintro x aD ⟨rfl,cv⟩;have GJ:=xE.ext cv;have ch:=br.ext cv;have bM:=aH.trans cv;cases c5:zB dB r.s t.s with
   | false=>
     simp only [anR,↓ab,ae,simprocAttr];exact bM
   | true=>
   have U_:cq Any aD 1 (r.first.map bd.nV) lW:=(Lm.ext (aN.trans cv)).nH fun _ _=>trivial;have GF:cq Any aD 1 (r.last.map bd.nV) aP:=(Ly.ext (aN.trans cv)).nH fun _ _=>trivial;have wA:∀(dn:List Int),dn.length<=64->IntKind.i64.wrap (IntKind.i64.wrap ((t.l.length:Int) - (dn.length:Int)) - (r.last.length:Int))=(t.l.length:Int)-dn.length-r.last.length:=fun dn pq=>by rw [wrap_i64 (n:=(t.l.length:Int) - (dn.length:Int)) (by omega) (by omega),wrap_i64 (by omega) (by omega)]
   have Qv:=GF.len;rw [anc] at Qv;by_cases Ax:t.k=50;obtain ⟨ame,al1⟩:=aju Ax;obtain ⟨n,aX⟩:=Int.eq_ofNat_of_zero_le (show 0<=t.n by omega);obtain ⟨bn,bU,hh,Z⟩:=sT aD 1 1 [.int .i64 8] rfl (by unfold top;omega);have LB:=GJ.ext hh;have g3:=GJ.g;have g4:=LB.g;rw [aX] at g3 g4;simp only [g3,g4,ch.g,bU,am_ Ax,aX,↓ab,ae,simprocAttr];refine bw (ai' _ 8 n (by omega) bn Z.v) ?_;rintro DV b0 ⟨zU,ko⟩;have A5:firstM r t.k t.n=List.replicate n 8:=by unfold firstM;rw [anb Ax,aX];rfl
   rw [<-A5] at zU;have vj:=LB.ext ko;have fA:=(ch.ext hh).ext ko;have cM:=(bM.trans hh).trans ko;have Lz:=(GF.ext hh).ext ko;have Qd:(firstM r t.k t.n).length<=64:=by rw [A5,am5];omega
   rw [<-aX]
   rotate_left
   have A5:firstM r t.k t.n=r.first:=by unfold firstM;rw [am7 Ax]
   have zU:=U_;rw [<-A5] at zU;have vj:=GJ;have fA:=ch;have cM:=bM;have Lz:=GF;have Qd:(firstM r t.k t.n).length<=64:=by rw [A5];omega
   simp only [vj.g,fA.g,am2 Ax,↓ab,ae,simprocAttr]
   all_goals
    have kR:=zU.len;rw [anc] at kR;have qw:=wA (firstM r t.k t.n) Qd;simp only [vj.g,fA.g,ax,kR,Qv,qw,↓ab,ae,simprocAttr];have yC:hE r t.k t.n t.l.length=(t.l.length:Int) - (firstM r t.k t.n).length-r.last.length:=rfl;rw [<-yC];by_cases d1:hE r t.k t.n t.l.length<r.least
    . have cG:lx r t.k t.n t.l.length=false:=by unfold lx;rw [anL (by omega)];rfl
      simp only [am_ d1,cG,aob,anR,vj.g,fA.g,↓ab,ae,simprocAttr];exact cM
    by_cases d2:r.lA<hE r t.k t.n t.l.length
    . have cG:lx r t.k t.n t.l.length=false:=by unfold lx;rw [anL (show ¬hE r t.k t.n t.l.length<=r.lA by omega),aob]
      simp only [am2 d1,am_ d2,cG,aob,anR,vj.g,fA.g,↓ab,ae,simprocAttr];exact cM
    have cG:lx r t.k t.n t.l.length=true:=by unfold lx;rw [anG (show r.least<=_ by omega),anG (show hE r t.k t.n t.l.length<=r.lA by omega)];rfl
    have a1:0<=hE r t.k t.n t.l.length:=by omega
    simp only [am2 d1,am2 d2,cG,ax,an2,vj.g,fA.g,↓ab,ae,simprocAttr];have su:=aa7 a1;have aay:=fun (i:Nat) (au:i<t.l.length)=>aa6 (r:=r) (k:=t.k) (n:=t.n) a1 au;have amb:hE r t.k t.n t.l.length<=t.l.length:=by unfold hE;omega
    have I8:(t.l.length:Int)=(firstM r t.k t.n).length+hE r t.k t.n t.l.length+r.last.length:=by unfold hE;omega
    generalize oT r t.k t.n t.l.length=gs at *;generalize hE r t.k t.n t.l.length=rest at *;obtain ⟨ij,rfl⟩:=Int.eq_ofNat_of_zero_le a1;generalize firstM r t.k t.n=cl at *
    refine fS (fun R g=>R 0=bg/\R 3=.ptr (aC h.next) 0/\R 5=.ptr (aC J.next) 0/\R 8=.int .i64 ij/\R 85=e3/\R 86=.int .i64 t.l.length/\(∃DV,R 7=DV/\cq Any g 1 (cl.map bd.nV) DV)/\cq Any g 1 (r.last.map bd.nV) aP/\
     Has g h.next [.int .i64 t.k,.int .i64 t.n,.int .i64 t.a,.str t.s,e3]/\Has g J.next [lW,.int .i64 r.rest,.int .i64 r.least,.int .i64 r.lA,aP,.int .i64 r.bO,.int .i64 r.au,.int .i64 r.s]/\Ext h g/\
     ∃i:Nat,R 87=.int .i64 i/\i<=t.l.length/\ow dB gs t.l=ow dB (gs.drop i) (t.l.drop i)) (fun R g=>t.l.length - (R 87).toN) ?_ ?_
    . exact ⟨by simp only [↓ab,cx,simprocAttr],by simp only [↓ab,cx,simprocAttr],by simp only [↓ab,cx,simprocAttr],by simp only [↓ab,cx,simprocAttr]<;>rfl,by simp only [↓ab,cx,simprocAttr],by simp only [↓ab,cx,simprocAttr],⟨_,by simp only [↓ab,cx,simprocAttr],zU⟩,Lz,vj,fA,cM,0,by simp only [↓ab,cx,simprocAttr]<;>rfl,by omega,rfl⟩
    rintro R g ⟨bb,bX,dC,eg,uL,uM,⟨DV,hq,Gj⟩,k5,P,B,E,i,uN,au,bC⟩;unfold Nf;by_cases aL:i<t.l.length
    . have g0:((i:Int) < (t.l.length:Int))=True:=am_ (by omega);obtain ⟨b,off,wl,dG,X,cN,ld,_,_,_⟩:=aS.mH (L.ext E) (k:=.i64) aL;have hJ:=ld g (Ext.refl g);have lE:=cN.one;have dt:=jG aL (by unfold top at hle;omega);have ab9:=h1 (t:=t) (am3 aL);have kR:=Gj.len;rw [anc] at kR;obtain ⟨g1,fe,bk,Z⟩:=jq g [.int .i64 0,.int .i64 0,.int .i64 0,.str [],.cc] [.int .i64 t.l[i].k,.int .i64 t.l[i].n,.int .i64 t.l[i].a,.str t.l[i].s,wl];have tq:=P.ext bk;have Gh:=B.ext bk;have oU:=aay i aL;have G:gs[i]? =some gs[i]:=amY (by omega);rw [ant aL,ant (show i<gs.length by omega),ow] at bC;rw [G] at oU;have oU:=an9 oU;generalize gs[i]=Lo at *;have b4:IntKind.i64.wrap ((cl.length:Int) + (ij:Int))=((cl.length+ij:Nat):Int):=by rw [wrap_i64 (by omega) (by omega)];omega
      by_cases bR:i<cl.length;have Dc:((i:Int) < (cl.length:Int))=True:=am_ (by omega);obtain ⟨cF,SJ,ob,um⟩:=(Gj.ext bk).Jq (k:=.i64) bR;have d2:=um g1 (Ext.refl g1);rw [dif_pos bR] at oU;rw [<-oU] at d2;simp only [bb,bX,dC,hq,eg,uL,uM,uN,g0,dG,hJ,lE.1,lE.2.1,fe,Z.g,Gh.g,kR,Dc,ob,d2,↓ab,ae,simprocAttr]
      rotate_left
      rw [dif_neg bR] at oU;have Dc:((i:Int) < (cl.length:Int))=False:=am2 (by omega);by_cases a2:cl.length+ij<=i;have GO:(((cl.length+ij:Nat):Int)<=(i:Int))=True:=am_ (by omega);have b1:IntKind.i64.wrap (IntKind.i64.wrap ((i:Int) - (cl.length:Int)) - (ij:Int))=((i - (cl.length+ij):Nat):Int):=by rw [wrap_i64 (n:=(i:Int) - (cl.length:Int)) (by omega) (by omega),wrap_i64 (by omega) (by omega)];omega
      obtain ⟨cF,SJ,ob,um⟩:=(k5.ext bk).Jq (k:=.i64) (i:=i - (cl.length+ij)) (by omega);have d2:=um g1 (Ext.refl g1);rw [am7 (by omega),am9,amY (by omega),aop] at oU;rw [<-oU] at d2;simp only [bb,bX,dC,hq,eg,uL,uM,uN,g0,dG,hJ,lE.1,lE.2.1,fe,Z.g,Gh.g,kR,Dc,GO,b4,b1,ob,d2,↓ab,ae,simprocAttr]
      rotate_left
      have GO:(((cl.length+ij:Nat):Int)<=(i:Int))=False:=am2 (by omega);rw [anb (by omega)] at oU;simp only [bb,bX,dC,hq,eg,uL,uM,uN,g0,dG,hJ,lE.1,lE.2.1,fe,Z.g,Gh.g,kR,Dc,GO,b4,<-oU,↓ab,ae,simprocAttr]
      all_goals
       refine bw (adF t.l[i] Lo _ g1 (X.ext bk)) ?_;rintro x g2 ⟨rfl,aN⟩;have fJ:=Z.ext aN;have Gd:=bk.trans aN;cases NU:ua t.l[i].k Lo with
       | false=>
         rw [NU,anR,anR] at bC;simp only [bb,bX,dC,eg,uL,uM,uN,fJ.g,↓ab,ae,simprocAttr];exact ⟨by rw [bC],E.trans Gd⟩
       | true=>
         simp only [bb,bX,dC,eg,uL,uM,uN,fJ.g,lE.1,lE.2.1,↓ab,ae,simprocAttr];refine bw (So N t.l[i] (by omega) aK bg F _ g2 (M.ext (E.trans Gd)) (X.ext Gd)) ?_;rintro x g3 ⟨rfl,cv⟩;have xn:=Gd.trans cv;cases oR:t.l[i].may dB with
         | false=>
           rw [oR,aob,anR] at bC;simp only [bb,bX,dC,eg,uL,uM,uN,↓ab,ae,simprocAttr];exact ⟨by rw [bC],E.trans xn⟩
         | true=>
           rw [NU,oR,an2,an2] at bC;simp only [bb,bX,dC,hq,eg,uL,uM,uN,dt,↓ab,ae,simprocAttr];exact ⟨⟨Gj.ext xn,k5.ext xn,P.ext xn,(by first | exact B.ext xn | (rw [oU];exact B.ext xn)),E.trans xn,i+1,rfl,aL,bC⟩,by omega⟩
    . have g0:((i:Int) < (t.l.length:Int))=False:=am2 (by omega);rw [anD (show t.l.length<=i by omega),ow] at bC;simp only [bb,bX,dC,eg,uL,uM,uN,g0,↓ab,ae,simprocAttr];exact ⟨by rw [bC],E⟩
def iG (l:List aS):Int:=if l.all (fun t=>decide (fo t.k=7)&&t.may dB) then (if l.all (fun t=>decide (t.deep<=200)) then 0 else 260) else 2
theorem YO (l:List aS) (aM:gg l<=1000000000):w6 l=iG l:=by
 have:∀t ∈ l,t.jE dB=t.may dB:=fun t aE=>EZ _ t (am6 _) (by have:=rT aE;omega);unfold w6 iG;have e:l.all (fun t=>decide (fo t.k=7)&&t.jE dB)=l.all (fun t=>decide (fo t.k=7)&&t.may dB):=by rw [anT,anr,anr];exact ⟨fun q t aE=>by rw [<-this t aE];exact q t aE,fun q t aE=>by rw [this t aE];exact q t aE⟩
 rw [e]
theorem YN (l:List aS) (aM:gg l<=1000000000) (v:V) (h:ah) (L:cq Any h 5 (l.map aS.enc) v):b' Tryz.prog 21 [v] h fun x aa=>x=.int .i64 (iG l)/\Ext h aa:=by
 have ax:=L.len;have hle:=L.le;rw [anc] at ax hle;refine Xj.z rfl (cp ?_);unfold c21;simp only [↓ab,ae,simprocAttr];refine bw (ajx h) ?_;rintro bg J ⟨an,M⟩;simp only [ax,↓ab,ae,simprocAttr];refine fS (fun r g=>r 0=v/\r 3=bg/\r 9=v/\r 10=.int .i64 l.length/\∃i:Nat,r 11=.int .i64 i/\i<=l.length/\Ext J g/\(l.take i).all (fun t=>decide (fo t.k=7)&&t.may dB)=true) (fun r g=>l.length - (r 11).toN) ?_ ?_
 . exact ⟨by simp only [↓ab,cx,simprocAttr],by simp only [↓ab,cx,simprocAttr],by simp only [↓ab,cx,simprocAttr],by simp only [↓ab,cx,simprocAttr],0,by simp only [↓ab,cx,simprocAttr]<;>rfl,by omega,Ext.refl J,rfl⟩
 rintro r g ⟨bb,bX,iS,ih,i,o5,au,E,du⟩;unfold M1;have k5:=L.ext (an.trans E);by_cases aL:i<l.length
 . have g0:((i:Int) < (l.length:Int))=True:=am_ (by omega);obtain ⟨b,off,wl,dG,X,cN,ld⟩:=aS.EG k5 (k:=.i64) aL;have hJ:=ld g (Ext.refl g);have dt:=jG aL (by unfold top at hle;omega);have bG:=rT (am3 aL);have lE:=cN.one;obtain ⟨g1,fe,bk,Z⟩:=jq g [.int .i64 0,.int .i64 0,.int .i64 0,.str [],.cc] [.int .i64 l[i].k,.int .i64 l[i].n,.int .i64 l[i].a,.str l[i].s,wl];simp only [bb,bX,iS,ih,o5,g0,dG,hJ,fe,Z.g,lE.1,lE.2.1,↓ab,ae,simprocAttr];refine bw (PT l[i].k g1) ?_;rintro x g2 ⟨rfl,rfl⟩;have bad:(decide (fo l[i].k=7)&&l[i].may dB)=false->iG l=2:=fun q=>by
    unfold iG;rw [am7];intro z;have:=anr.1 z _ (am3 aL);rw [q] at this;cases this
   by_cases bW:fo l[i].k=7
   . simp only [bb,bX,iS,ih,o5,Z.g,am_ bW,↓ab,ae,simprocAttr];refine bw (So _ l[i] (am6 _) (by omega) bg _ _ g2 (M.ext (E.trans bk)) (X.ext bk)) ?_;rintro x g3 ⟨rfl,cv⟩;cases cw:l[i].may dB with
     | true=>
       simp only [bb,bX,iS,ih,o5,dt,↓ab,ae,simprocAttr];refine ⟨⟨i+1,rfl,aL,E.trans (bk.trans cv),?_⟩,by omega⟩;rw [take_one aL,an5,du];simp [bW,cw]
     | false=>
       simp only [bb,bX,dt,↓ab,ae,simprocAttr];exact ⟨by rw [bad (by rw [cw,aob])],an.trans (E.trans (bk.trans cv))⟩
   . simp only [bb,bX,iS,ih,o5,Z.g,am2 bW,↓ab,ae,simprocAttr];exact ⟨by rw [bad (by rw [anL bW,anR])],an.trans (E.trans bk)⟩
 . have g0:((i:Int) < (l.length:Int))=False:=am2 (by omega);rw [an3 (by omega)] at du;have ao:iG l=if l.all (fun t=>decide (t.deep<=200)) then 0 else 260:=by unfold iG;rw [anb du]
   rw [ao];simp only [bb,bX,iS,ih,o5,ax,g0,↓ab,ae,simprocAttr];refine fS (fun r g=>r 26=v/\r 27=.int .i64 l.length/\∃i:Nat,r 28=.int .i64 i/\i<=l.length/\Ext h g/\(l.take i).all (fun t=>decide (t.deep<=200))=true) (fun r g=>l.length - (r 28).toN) ?_ ?_
   . exact ⟨by simp only [bb,↓ab,cx,simprocAttr],by simp only [↓ab,cx,simprocAttr],0,by simp only [↓ab,cx,simprocAttr]<;>rfl,by omega,an.trans E,rfl⟩
   clear au bb bX iS ih o5 k5 E g0 aL;rintro r g ⟨FA,FB,i,FC,au,E,du⟩;unfold M3;have k5:=L.ext E;by_cases aL:i<l.length
   . have g0:((i:Int) < (l.length:Int))=True:=am_ (by omega);obtain ⟨b,off,wl,dG,X,cN,ld⟩:=aS.EG k5 (k:=.i64) aL;have hJ:=ld g (Ext.refl g);have dt:=jG aL (by unfold top at hle;omega);have bG:=rT (am3 aL);have lE:=cN.one;obtain ⟨g1,fe,bk,Z⟩:=jq g [.int .i64 0,.int .i64 0,.int .i64 0,.str [],.cc] [.int .i64 l[i].k,.int .i64 l[i].n,.int .i64 l[i].a,.str l[i].s,wl];simp only [FA,FB,FC,g0,dG,hJ,fe,Z.g,lE.1,lE.2.1,↓ab,ae,simprocAttr];refine bw (OW _ l[i] (am6 _) (by omega) _ g1 (X.ext bk)) ?_;rintro x g2 ⟨rfl,aN⟩;by_cases bW:(200:Int) < (l[i].deep:Int)
     . simp only [FA,FB,FC,am_ bW,↓ab,ae,simprocAttr];refine ⟨?_,E.trans (bk.trans aN)⟩;rw [am7];intro z;have:=anr.1 z _ (am3 aL);simp only [ane] at this;omega
     . simp only [FA,FB,FC,dt,am2 bW,↓ab,ae,simprocAttr];refine ⟨⟨i+1,rfl,aL,E.trans (bk.trans aN),?_⟩,by omega⟩;rw [take_one aL,an5,du];simp;omega
   . have g0:((i:Int) < (l.length:Int))=False:=am2 (by omega);rw [an3 (by omega)] at du;simp only [FA,FB,FC,ax,g0,↓ab,ae,simprocAttr];exact ⟨by rw [anb du],E⟩
def sU (c:UInt8):Bool:=decide (97<=c)&&decide (c<=122)
def kw (s:List UInt8):bq:=⟨match s with
 | c::_=>if sU c=true then 6 else 7
 | []=>7,0,0,s⟩
def dD (k:Int) (s:List UInt8):bq:=⟨k,0,0,s⟩
def ot (n:Int):bq:=⟨1,n,0,[]⟩
def dR (s:List UInt8):Int:=if s=[61]\/s=[60]\/s=[60,61] then 5 else if s=[43]\/s=[45] then 6 else 7
def uv:List (Int × Int):=[(35,1),(29,1),(30,1),(27,1),(31,2),(37,3),(26,4),(39,8),(36,8),(28,9),(34,9),(15,1),(4,1),(3,2)]
def sR (k:Int):List (Int × Int)->Option Int
 | []=>none
 | (n,x)::l=>if k=n then some x else sR k l
def EN (k:Int) (s:List UInt8) (len:Nat):Int:=match sR k uv with
 | some x=>x
 | none=>if k=16/\0<len then 2 else if k=25/\0<len then 9 else if k=38 then dR s else if k<20 then 3 else 10
def aS.kz (p:aS):Int:=EN p.k p.s p.l.length
abbrev dO:=aS × List bq
def jz (b:Prop) [Decidable b] (c:dO):List bq:=if b/\c.1.k≠32/\c.1.k≠33 then kw [40]::(c.2++[kw [41]]) else c.2
def cO (least:Int) (c:dO):List bq:=jz (c.1.kz<least) c
def hv (least:Int) (cs:List dO) (i:Nat):List bq:=match cs[i]? with
 | some c=>cO least c
 | none=>[]
def eb (cs:List dO) (left:Int) (s:List UInt8) (right:Int):List bq:=hv left cs 0++kw s::hv right cs 1
def qJ (f:dO->List bq) (b:List UInt8):List dO->List bq
 | []=>[]
 | c::r=>kw b::(f c++qJ f b r)
def eB (f:dO->List bq) (b:List UInt8):List dO->List bq
 | []=>[]
 | c::r=>f c++qJ f b r
def eS (f:dO->List bq):List dO->List bq
 | []=>[]
 | c::r=>f c++eS f r
def oA (n:Int):bq:=if n=1 then kw [116,114,117,101] else kw [102,97,108,115,101]
def ha (k:Int) (s:List UInt8) (cs:List dO):List bq:=
 if k=1 then [dD 5 s] else if k=4 then eb cs 2 [45,62] 1 else if k=3 then eb cs 3 [42] 2 else
 (if cs.length=1 then hv 3 cs 0 else [])++((if 1<cs.length then kw [40]::(eB (cO 1) [44] cs++[kw [41]]) else [])++[dD 3 s])
def gf (k n:Int) (s:List UInt8) (cs:List dO):List bq:=
 if k=10 then [kw [95]] else if k=11 then [dD 3 s] else if k=12 then [ot n] else if k=13 then [kw [40],kw [41]] else if k=14 then [oA n] else if k=15 then eb cs 2 [44] 1 else
 dD 4 s::eS (cO 3) cs
def j1 (cs:List dO):List bq:=match cs[0]? with
 | some c=>jz (c.1.kz<9\/c.1.k=25\/c.1.k=34) c
 | none=>[]
def hp (k:Int) (cs:List dO):List bq:=
 if k=27 then kw [102,117,110]::eb cs 1 [45,62] 1 else
 if k=29 then kw [108,101,116]::(eb cs 1 [61] 1++kw [105,110]::hv 1 cs 2) else
 if k=30 then kw [108,101,116]::kw [114,101,99]::(eB Prod.snd [97,110,100] (cs.take (cs.length-1))++kw [105,110]::hv 1 cs (cs.length-1)) else
 if k=31 then kw [105,102]::(hv 1 cs 0++kw [116,104,101,110]::(hv 3 cs 1++kw [101,108,115,101]::hv 3 cs 2)) else
 kw [40]::kw (if k=32 then [109,97,116,99,104] else [116,114,121])::(hv 1 cs 0++kw [119,105,116,104]::(eB Prod.snd [124] (cs.drop 1)++[kw [41]]))
def cD (k n:Int) (s:List UInt8) (cs:List dO):List bq:=
 if k=20 then [ot n] else if k=21 then [dD 2 s] else if k=22 then [kw [40],kw [41]] else if k=23 then [oA n] else if k=24 then [dD 3 s] else
 if k=25 then dD 4 s::eS (cO 10) cs else if k=26 then eb cs 5 [44] 4 else if k=35 then eb cs 2 [59] 1 else if k=37 then eb cs 4 [58,61] 2 else
 if k=38 then eb cs (if dR s=5 then 6 else dR s) s (dR s+1) else if k=28 then j1 cs++hv 10 cs 1 else
 if k=34 then kw [114,97,105,115,101]::hv 10 cs 0 else if k=36 then kw [33]::hv 8 cs 0 else if k=39 then kw [45]::hv 8 cs 0 else hp k cs
def iP (c:dO):List bq:=kw [111,102]::cO 1 c
def fQ (k n:Int) (s:List UInt8) (cs:List dO):List bq:=
 if k=45 then eb cs 1 [45,62] 1 else if k=46 then dD 3 s::kw [61]::hv 1 cs 0 else
 if k=47\/k=51 then (if k=51 then [kw [101,120,99,101,112,116,105,111,110]] else [])++dD 4 s::eS iP cs else
 if k=52 then kw [108,101,116]::eb cs 1 [61] 1 else if k=53 then kw [108,101,116]::kw [114,101,99]::eB Prod.snd [97,110,100] cs else
 if k=50 then kw [116,121,112,101]::((if 1<n then [kw [40]] else [])++(eB Prod.snd [44] (cs.take n.toNat)++((if 1<n then [kw [41]] else [])++dD 3 s::kw [61]::eB Prod.snd [124] (cs.drop n.toNat)))) else []
def oS (k n:Int) (s:List UInt8) (cs:List dO):List bq:=
 if k<10 then ha k s cs else if k<20 then gf k n s cs else if k<45 then cD k n s cs else fQ k n s cs
mutual
def aS.words:aS->List bq
 | .mk k n _ s l=>oS k n s (a6 l)
def a6:List aS->List dO
 | []=>[]
 | t::l=>(t,t.words)::a6 l
end
theorem tg (p:aS):p.words=oS p.k p.n p.s (a6 p.l):=by cases p;simp only [aS.words,aS.k,aS.n,aS.s,aS.l]
theorem rS:∀l:List aS,a6 l=l.map fun t=>(t,t.words)
 | []=>rfl
 | t::l=>by rw [a6,rS l,anZ]
theorem cB (l:List aS):(a6 l).length=l.length:=by rw [rS,anc]
theorem Ko (l:List aS) (i:Nat) (h:i<l.length):(a6 l)[i]? =some (l[i],l[i].words):=by rw [rS,anQ,amY h];rfl
theorem eO (least:Int) (l:List aS) (i:Nat) (h:i<l.length):hv least (a6 l) i=cO least (l[i],l[i].words):=by unfold hv;rw [Ko l i h]
def ev:List aS->List bq
 | []=>[]
 | p::l=>p.words++kw [59,59]::ev l
def ox (l:List aS):List UInt8 × Int:=if iG l=0 then (if (hT (ev l)).2=0 then (if 65536 < (hT (ev l)).1.length then ([],3) else ((hT (ev l)).1,0)) else ([],(hT (ev l)).2)) else ([],iG l)
theorem agC (p:aS):1<=p.kz:=by
 unfold aS.kz EN;cases h:sR p.k uv with
 | none=>simp only;unfold dR;repeat' split<;>try omega
 | some x=>
   have:∀l:List (Int × Int),(∀y ∈ l,1<=y.2)->∀x,sR p.k l=some x->1<=x:=by
    intro l
    induction l with
    | nil=>intro _ x ar;cases ar
    | cons y l bA=>
      intro bc x ar;obtain ⟨n,z⟩:=y;simp only [sR] at ar
      split at ar
      . cases ar;exact bc _ anV
      . exact bA (fun y hX=>bc y (anJ _ hX)) x ar
   exact this uv (by decide) x h
theorem dp (c:dO):cO 1 c=c.2:=by unfold cO jz;rw [am7];have:=agC c.1;omega
abbrev cX (p:aS):Prop:=p.jE dB=true
theorem Tg:∀{gs:List Int} {l:List aS},kW dB gs l=true->∀(i:Nat) (au:i<l.length) (g:Int),gs[i]? =some g->iB l[i].k g=true/\cX l[i]
 | [],_,_,i,_,g,h=>by simp at h
 | g::gs,[],_,i,au,_,_=>by simp at au
 | g::gs,t::l,h,0,_,tH,e=>by simp only [kW,amX] at h;simp only [anj,amW] at e;subst e;exact h.1
 | g::gs,t::l,h,i+1,au,tH,e=>by simp only [kW,amX] at h;simp only [anS] at e;exact Tg h.2 i (by simpa using au) tH e
structure Vg (p:aS):Prop where
 aa1:fo p.k≠0
 F8:qK dB p.k p.s=true
 num:h2 p.k p.n p.l.length=true
 gs:(cL p.k p.n p.l).2=true
 kids:kW dB (cL p.k p.n p.l).1 p.l=true
theorem pC {p:aS} (h:cX p):Vg p:=by obtain ⟨k,n,a,s,l⟩:=p;simp only [cX,aS.jE,amX,ane] at h;obtain ⟨⟨⟨⟨⟨⟨J,ad⟩,aD⟩,bn⟩,b0⟩,ep⟩,fg⟩:=h;exact ⟨J,ad,aD,ep,fg⟩
theorem rL {p:aS} (h:cX p):(1<=p.k/\p.k<=4)\/(10<=p.k/\p.k<=16)\/(20<=p.k/\p.k<=39)\/p.k=45\/p.k=46\/p.k=47\/(50<=p.k/\p.k<=53):=by
 have:=(pC h).aa1;unfold fo at this
 repeat' split at this
 all_goals omega
theorem iN {p:aS} (h:cX p) (ay:p.k=3\/p.k=4\/p.k=15\/p.k=26\/p.k=28\/p.k=35\/p.k=37\/p.k=38\/p.k=27\/p.k=45\/p.k=52):p.l.length=2:=by have:=(pC h).gs;rcases ay with e | e | e | e | e | e | e | e | e | e | e<;>rw [e] at this<;>simpa [cL] using this
theorem qB {p:aS} (h:cX p) (ay:p.k=29\/p.k=31):p.l.length=3:=by have:=(pC h).gs;rcases ay with e | e<;>rw [e] at this<;>simpa [cL] using this
theorem uq {p:aS} (h:cX p) (ay:p.k=34\/p.k=36\/p.k=39\/p.k=46):p.l.length=1:=by
 have:=(pC h).gs;rcases ay with e | e | e | e<;>rw [e] at this<;>simp [cL] at this
 all_goals first | exact this | exact this.1
theorem BR {p:aS} (h:cX p) (ay:p.k=16\/p.k=25\/p.k=47\/p.k=51):p.l.length<=1:=by have:=(pC h).gs;rcases ay with e | e | e | e<;>rw [e] at this<;>simpa [cL] using this
theorem ur {p:aS} (h:cX p) (ay:p.k=30\/p.k=32\/p.k=33):2<=p.l.length:=by have:=(pC h).gs;rcases ay with e | e | e<;>rw [e] at this<;>simpa [cL] using this
theorem EM {p:aS} (h:cX p) (ay:p.k=50):0<=p.n/\p.n<=64/\p.n<p.l.length:=by have:=(pC h).num;rw [ay] at this;simp [h2] at this;omega
theorem JN {p:aS} (h:cX p):p.k=1\/p.k=2\/p.k=3\/p.k=4\/p.k=10\/p.k=11\/p.k=12\/p.k=13\/p.k=14\/p.k=15\/p.k=16\/p.k=20\/p.k=21\/p.k=22\/p.k=23\/p.k=24\/p.k=25\/p.k=26\/p.k=27\/p.k=28\/p.k=29\/p.k=30\/p.k=31\/p.k=32\/p.k=33\/p.k=34\/p.k=35\/p.k=36\/p.k=37\/p.k=38\/p.k=39\/p.k=45\/p.k=46\/p.k=47\/p.k=50\/p.k=51\/p.k=52\/p.k=53:=by have:=rL h;omega
theorem uo {p:aS} (h:cX p) (i:Nat) (au:i<p.l.length):∃g,(cL p.k p.n p.l).1[i]? =some g/\iB p.l[i].k g=true/\cX p.l[i]:=by
 have F:=pC h;have hlen:p.l.length<=(cL p.k p.n p.l).1.length:=by
  have ep:=F.gs;have ay:=JN h;rcases ay with e | e | e | e | e | e | e | e | e | e | e | e | e | e | e | e | e | e | e | e | e | e | e | e | e | e | e | e | e | e | e | e | e | e | e | e | e | e<;>rw [e] at ep ⊢
  all_goals first
   | (have:=EM h e;simp [cL];omega;done)
   | (simp [cL] at ep ⊢;try omega)
 have al:=amY (l:=(cL p.k p.n p.l).1) (i:=i) (by omega);exact ⟨_,al,Tg F.kids i au _ al⟩
theorem ja {p:aS} (h:cX p) {q:aS} (aq:q ∈ p.l):cX q:=by obtain ⟨i,au,rfl⟩:=ao0 aq;obtain ⟨_,_,_,z⟩:=uo h i au;exact z
def ho:List dO->Nat
 | []=>0
 | c::r=>c.2.length+4+ho r
theorem Re (b:Prop) [Decidable b] (c:dO):(jz b c).length<=c.2.length+2:=by
 unfold jz
 split
 . simp only [am0,amZ,am8];omega
 . omega
theorem G8 (least:Int) (c:dO):(cO least c).length<=c.2.length+2:=Re _ c
theorem oP (least:Int):∀(cs:List dO) (i:Nat),(hv least cs i).length+ho (cs.drop (i+1))<=ho (cs.drop i)
 | [],i=>by simp [hv,ho]
 | c::cs,0=>by have:=G8 least c;simp only [hv,anj,anN,aoh,ho];omega
 | c::cs,i+1=>by have:=oP least cs i;simp only [hv,anS,aoh] at this ⊢;exact this
theorem TQ {f:dO->List bq} (aA:∀c,(f c).length<=c.2.length+3) (b:List UInt8):∀cs:List dO,(qJ f b cs).length<=ho cs
 | []=>am6 _
 | c::r=>by have J:=aA c;have ad:=TQ aA b r;simp only [qJ,am0,amZ,ho];omega
theorem y1 {f:dO->List bq} (aA:∀c,(f c).length<=c.2.length+3) (b:List UInt8):∀cs:List dO,(eB f b cs).length<=ho cs
 | []=>am6 _
 | c::r=>by have J:=aA c;have ad:=TQ aA b r;simp only [eB,amZ,ho];omega
theorem EW {f:dO->List bq} (aA:∀c,(f c).length<=c.2.length+3):∀cs:List dO,(eS f cs).length<=ho cs
 | []=>am6 _
 | c::r=>by have J:=aA c;have ad:=EW aA r;simp only [eS,amZ,ho];omega
theorem JE (n:Nat):∀cs:List dO,ho (cs.take n)+ho (cs.drop n)=ho cs:=by
 induction n with
 | zero=>intro cs;simp [ho]
 | succ n bA=>
   intro cs;cases cs with
   | nil=>simp [ho]
   | cons c r=>have:=bA r;simp only [aoe,aoh,ho];omega
theorem qQ (cs:List dO) (a b:Int) (s:List UInt8):(eb cs a s b).length+ho (cs.drop 2)<=ho cs+1:=by have a1:=oP a cs 0;have J:=oP b cs 1;unfold eb;simp only [anN,anB,Nat.reduceAdd] at a1 J;simp only [amZ,am0];omega
theorem Cv (c:dO):(Prod.snd c).length<=c.2.length+3:=by omega
theorem G7 (least:Int) (c:dO):(cO least c).length<=c.2.length+3:=by have:=G8 least c;omega
theorem ahO (c:dO):(iP c).length<=c.2.length+3:=by have:=G8 1 c;unfold iP;simp only [am0];omega
theorem akL (k:Int) (s:List UInt8) (cs:List dO):(ha k s cs).length<=ho cs+3:=by
 have a1:=oP 3 cs 0;have J:=qQ cs 2 1 [45,62];have ad:=qQ cs 3 2 [42];have aD:=y1 (G7 1) [44] cs;simp only [anN,anB] at a1;unfold ha
 split
 . simp
 . split
   . omega
   . split
     . omega
     . by_cases bW:cs.length=1
       . rw [anb bW,am7 (by omega)];simp only [amZ,am0,am8];omega
       . rw [am7 bW];split<;>simp only [amZ,am0,am8]<;>omega
theorem aix (k n:Int) (s:List UInt8) (cs:List dO):(gf k n s cs).length<=ho cs+3:=by
 have J:=qQ cs 2 1 [44];have aD:=EW (G7 3) cs;unfold gf
 repeat' split
 all_goals try simp only [am0,am8]
 all_goals omega
theorem Yr (cs:List dO):(j1 cs++hv 10 cs 1).length<=ho cs:=by
 have J:=oP 10 cs 1;cases cs with
 | nil=>simp [j1,hv,ho]
 | cons c r=>
   have ad:=Re (c.1.kz<9\/c.1.k=25\/c.1.k=34) c;simp only [j1,anj,amZ,aoh,anN,ho] at J ⊢;omega
theorem agU (k:Int) (cs:List dO):(hp k cs).length<=ho cs+6:=by
 have J:=qQ cs 1 1 [45,62];have ad:=qQ cs 1 1 [61];have aD:=oP 1 cs 2;have bn:=y1 Cv [97,110,100] (cs.take (cs.length-1));have b0:=oP 1 cs (cs.length-1);have ep:=JE (cs.length-1) cs;have fg:=oP 1 cs 0;have qb:=oP 3 cs 1;have yb:=oP 3 cs 2;have D1:=y1 Cv [124] (cs.drop 1);simp only [anN,anB,Nat.reduceAdd] at aD fg qb yb;have H0:=JE 1 cs;unfold hp
 split
 . simp only [am0];omega
 . split
   . simp only [am0,amZ];omega
   . split
     . simp only [am0,amZ];omega
     . split
       . simp only [am0,amZ];omega
       . simp only [am0,amZ,am8];omega
theorem adg {c:Prop} [Decidable c] {x y:List bq} {N:Nat} (J:x.length<=N) (ad:y.length<=N):(if c then x else y).length<=N:=by split<;>assumption
theorem Z5 (k n:Int) (s:List UInt8) (cs:List dO):(cD k n s cs).length<=ho cs+6:=by
 have J:=qQ cs 5 4 [44];have ad:=qQ cs 2 1 [59];have aD:=qQ cs 4 2 [58,61];have bn:=qQ cs (if dR s=5 then 6 else dR s) (dR s+1) s;have b0:=Yr cs;have ep:=oP 10 cs 0;have fg:=oP 8 cs 0;have qb:=agU k cs;have yb:=EW (G7 10) cs;simp only [anN,anB] at ep fg;unfold cD;generalize (if dR s=5 then 6 else dR s)=q at *
 repeat' (with_reducible apply adg)
 all_goals try simp only [am0,am8]
 all_goals omega
theorem Zo (k n:Int) (s:List UInt8) (cs:List dO):(fQ k n s cs).length<=ho cs+6:=by
 have J:=qQ cs 1 1 [45,62];have ad:=qQ cs 1 1 [61];have aD:=oP 1 cs 0;have bn:=EW ahO cs;have b0:=y1 Cv [97,110,100] cs;have ep:=y1 Cv [44] (cs.take n.toNat);have fg:=y1 Cv [124] (cs.drop n.toNat);have qb:=JE n.toNat cs;simp only [anN,anB] at aD;unfold fQ
 repeat' split
 all_goals try simp only [am0,am8,amZ]
 all_goals omega
theorem YW (k n:Int) (s:List UInt8) (cs:List dO):(oS k n s cs).length<=ho cs+6:=by
 have J:=akL k s cs;have ad:=aix k n s cs;have aD:=Z5 k n s cs;have bn:=Zo k n s cs;unfold oS
 repeat' split
 all_goals omega
mutual
theorem UR:∀p:aS,p.words.length+4<=10 * p.size
 | .mk k n a s l=>by have J:=YW k n s (a6 l);have ad:=RE l;simp only [aS.words,aS.size];omega
theorem RE:∀l:List aS,ho (a6 l)<=10 * gg l
 | []=>by simp [a6,ho]
 | t::l=>by have J:=UR t;have ad:=RE l;simp only [a6,ho,gg];omega
end
theorem K9:∀l:List aS,(ev l).length<=10 * gg l
 | []=>by simp [ev]
 | t::l=>by have J:=UR t;have ad:=K9 l;simp only [ev,gg,amZ,am0];omega
theorem JF:(kw [40]).may=true:=by decide
theorem JG:(kw [41]).may=true:=by decide
theorem JH:(kw [44]).may=true:=by decide
theorem af1:(kw [45,62]).may=true:=by decide
theorem afZ:(kw [42]).may=true:=by decide
theorem af5:(kw [95]).may=true:=by decide
theorem afU:(kw [116,114,117,101]).may=true:=by decide
theorem afM:(kw [102,97,108,115,101]).may=true:=by decide
theorem afL:(kw [102,117,110]).may=true:=by decide
theorem afP:(kw [108,101,116]).may=true:=by decide
theorem af4:(kw [61]).may=true:=by decide
theorem afO:(kw [105,110]).may=true:=by decide
theorem afR:(kw [114,101,99]).may=true:=by decide
theorem JI:(kw [97,110,100]).may=true:=by decide
theorem afN:(kw [105,102]).may=true:=by decide
theorem afT:(kw [116,104,101,110]).may=true:=by decide
theorem afJ:(kw [101,108,115,101]).may=true:=by decide
theorem afQ:(kw [109,97,116,99,104]).may=true:=by decide
theorem afV:(kw [116,114,121]).may=true:=by decide
theorem afX:(kw [119,105,116,104]).may=true:=by decide
theorem RC:(kw [124]).may=true:=by decide
theorem af3:(kw [59]).may=true:=by decide
theorem af2:(kw [58,61]).may=true:=by decide
theorem afS:(kw [114,97,105,115,101]).may=true:=by decide
theorem afY:(kw [33]).may=true:=by decide
theorem af0:(kw [45]).may=true:=by decide
theorem RB:(kw [111,102]).may=true:=by decide
theorem afK:(kw [101,120,99,101,112,116,105,111,110]).may=true:=by decide
theorem afW:(kw [116,121,112,101]).may=true:=by decide
theorem RD:(kw [59,59]).may=true:=by decide
theorem af7 {s:List UInt8} (h:opsL.contains s=true):(kw s).may=true:=by
 have hm:s ∈ opsL:=by simpa using h
 exact (show ∀s ∈ opsL,(kw s).may=true by decide) s hm
abbrev A (ws:List bq):Prop:=ws.all bq.may=true
def nJ (cs:List dO):Prop:=∀c ∈ cs,A c.2
theorem K7 {k:Int} {s:List UInt8} (ay:k=3\/k=4\/k=5) (h:dB k s=true):(dD k s).may=true:=by rcases ay with rfl | rfl | rfl<;>simp [bq.may,dD,jc,h]
theorem ahz {n:Int} (h:(decide (-1073741824<=n)&&decide (n<=1073741823))=true):(ot n).may=true:=by unfold bq.may ot jc;rw [anb rfl];simpa using h
theorem Rd {b:Prop} [Decidable b] {c:dO} (h:A c.2):A (jz b c):=by
 unfold jz A
 split
 . simp only [anX,an5,List.all_nil,JF,JG,anY,an2];exact h
 . exact h
theorem Dk {least:Int} {c:dO} (h:A c.2):A (cO least c):=Rd h
theorem G3 {cs:List dO} (h:nJ cs) (least:Int) (i:Nat):A (hv least cs i):=by
 unfold hv;cases ao:cs[i]? with
 | none=>rfl
 | some c=>exact Dk (h c (anE ao))
theorem TP {f:dO->List bq} (aA:∀c:dO,A c.2->A (f c)) {b:List UInt8} (aj:(kw b).may=true):∀{cs:List dO},nJ cs->A (qJ f b cs)
 | [],_=>rfl
 | c::r,h=>by have J:(f c).all bq.may=true:=aA c (h c anV);have ad:(qJ f b r).all bq.may=true:=TP aA aj fun d aZ=>h d (anJ _ aZ);simp only [A,qJ,anX,an5,aj,J,ad,anY]
theorem BV {f:dO->List bq} (aA:∀c:dO,A c.2->A (f c)) {b:List UInt8} (aj:(kw b).may=true):∀{cs:List dO},nJ cs->A (eB f b cs)
 | [],_=>rfl
 | c::r,h=>by have J:(f c).all bq.may=true:=aA c (h c anV);have ad:(qJ f b r).all bq.may=true:=TP aA aj fun d aZ=>h d (anJ _ aZ);simp only [A,eB,an5,J,ad,anY]
theorem JS {f:dO->List bq} (aA:∀c:dO,A c.2->A (f c)):∀{cs:List dO},nJ cs->A (eS f cs)
 | [],_=>rfl
 | c::r,h=>by have J:(f c).all bq.may=true:=aA c (h c anV);have ad:(eS f r).all bq.may=true:=JS aA fun d aZ=>h d (anJ _ aZ);simp only [A,eS,an5,J,ad,anY]
theorem akJ {cs:List dO} (h:nJ cs) (a b:Int) {s:List UInt8} (aM:(kw s).may=true):(eb cs a s b).all bq.may=true:=by have J:(hv a cs 0).all bq.may=true:=G3 h a 0;have ad:(hv b cs 1).all bq.may=true:=G3 h b 1;simp only [eb,an5,anX,aM,J,ad,anY]
theorem Yq {cs:List dO} (h:nJ cs):(j1 cs).all bq.may=true:=by
 unfold j1;cases ao:cs[0]? with
 | none=>rfl
 | some c=>exact Rd (h c (anE ao))
theorem ahN {c:dO} (h:A c.2):A (iP c):=by have J:(cO 1 c).all bq.may=true:=Dk h;simp only [A,iP,anX,RB,J,anY]
theorem akG (n:Int):(oA n).may=true:=by unfold oA;split<;>decide
theorem nJ.take {cs:List dO} (h:nJ cs) (n:Nat):nJ (cs.take n):=fun c ao=>h c (anU ao)
theorem nJ.drop {cs:List dO} (h:nJ cs) (n:Nat):nJ (cs.drop n):=fun c ao=>h c (an4 ao)
theorem Bv {c:Prop} [Decidable c] {x y:List bq} (J:x.all bq.may=true) (ad:y.all bq.may=true):(if c then x else y).all bq.may=true:=by split<;>assumption
theorem YV {p:aS} (h:cX p) {cs:List dO} (ao:nJ cs):(oS p.k p.n p.s cs).all bq.may=true:=by
 have F:=pC h;have aE:=F.F8;have aX:=F.num;have a0:∀(least:Int) (i:Nat),(hv least cs i).all bq.may=true:=fun least i=>G3 ao least i;have t0:∀(a b:Int) (s:List UInt8),(kw s).may=true->(eb cs a s b).all bq.may=true:=fun a b s aM=>akJ ao a b aM;have m0:∀least:Int,(eS (cO least) cs).all bq.may=true:=fun least=>JS (fun c z=>Dk z) ao;have m1:(eS iP cs).all bq.may=true:=JS (fun c z=>ahN z) ao;have gC:(eB (cO 1) [44] cs).all bq.may=true:=BV (fun c z=>Dk z) JH ao;have jB:(eB Prod.snd [97,110,100] cs).all bq.may=true:=BV (fun c z=>z) JI ao;have BL:∀n,(eB Prod.snd [97,110,100] (cs.take n)).all bq.may=true:=fun n=>BV (fun c z=>z) JI (ao.take n);have af8:∀n,(eB Prod.snd [124] (cs.drop n)).all bq.may=true:=fun n=>BV (fun c z=>z) RC (ao.drop n);have af9:∀n,(eB Prod.snd [44] (cs.take n)).all bq.may=true:=fun n=>BV (fun c z=>z) JH (ao.take n);have Yn:=Yq ao;have bW:(if cs.length=1 then hv 3 cs 0 else []).all bq.may=true:=Bv (a0 _ _) rfl;have cw:(if 1<cs.length then kw [40]::(eB (cO 1) [44] cs++[kw [41]]) else []).all bq.may=true:=Bv (by simp only [anX,an5,List.all_nil,gC,JF,JG,anY]) rfl;have c3:(if 1<p.n then [kw [40]] else []).all bq.may=true:=Bv (by decide) rfl;have gV:(if 1<p.n then [kw [41]] else []).all bq.may=true:=Bv (by decide) rfl;rcases JN h with e | e | e | e | e | e | e | e | e | e | e | e | e | e | e | e | e | e | e | e | e | e | e | e | e | e | e | e | e | e | e | e | e | e | e | e | e | e<;>rw [e] at aE aX ⊢
 all_goals simp only [qK,h2,Int.reduceEq,aoN,aoX,ao_,apa,apc,anz,anw,reduceCtorEq] at aE aX
 all_goals simp only [oS,ha,gf,cD,fQ,hp,Int.reduceLT,Int.reduceEq,aoN,aoX,ao_,apa,apc,anz,anw]
 all_goals (repeat' (with_reducible apply Bv))<;>try simp only [anX,an5,List.all_nil,anC,anh,bW,cw,c3,gV,a0,m0,m1,gC,jB,BL,af8,af9,Yn,akG,JF,JG,JH,af1,afZ,af5,afU,afM,afL,afP,af4,afO,afR,JI,afN,afT,afJ,afQ,afV,afX,RC,af3,af2,afS,afY,af0,RB,afK,afW,RD,anY,an2,Bool.and_self]
 all_goals first
  | exact K7 (.inl rfl) aE
  | exact K7 (.inr (.inl rfl)) aE
  | exact K7 (.inr (.inr rfl)) aE
  | exact ahz aX
  | exact t0 _ _ _ (by decide)
  | exact t0 _ _ _ (af7 aE)
  | (simp only [ane] at aE;simp [bq.may,dD,jc,aE])
mutual
theorem US:∀p:aS,cX p->p.words.all bq.may=true
 | .mk k n a s l,h=>YV h (RF l fun q aq=>ja h aq)
theorem RF:∀l:List aS,(∀q ∈ l,cX q)->nJ (a6 l)
 | [],_=>fun c ao=>by cases ao
 | t::l,h=>fun c ao=>by
   rcases ans.1 ao with rfl | ao
   . exact US t (h t anV)
   . exact RF l (fun q aq=>h q (anJ _ aq)) c ao
end
theorem Ga:∀l:List aS,(∀q ∈ l,cX q)->(ev l).all bq.may=true
 | [],_=>rfl
 | t::l,h=>by have J:=US t (h t anV);have ad:=Ga l fun q aq=>h q (anJ _ aq);simp only [ev,an5,anX,J,ad,RD,anY]
theorem Sp {w:bq} (h:w.may=true):w.text.length<=4096:=by
 unfold bq.may jc at h
 split at h
 . simp only [amX,ane] at h;rw [h.1.1];simp
 . split at h
   . simp only [amX,ane] at h;exact h.2
   . split at h
     . unfold dB at h;simp only [amX,ane] at h;omega
     . split at h
       . simp only [amX] at h;have hm:w.text ∈ iM:=by have:=h.2;unfold hn at this;simpa using this
         exact (show ∀t ∈ iM,t.length<=4096 by decide) _ hm
       . split at h
         . simp only [amX] at h;have hm:w.text ∈ gF:=by simpa using h.2
           exact (show ∀t ∈ gF,t.length<=4096 by decide) _ hm
         . cases h
theorem Lb {l:List aS} (h:∀q ∈ l,cX q):hT (ev l)=(Lib.join ((ev l).map bq.out) [32],0):=by unfold hT;rw [Ga l h];rfl
theorem ak0 (ws:List bq) (w:bq):kY (ws++[w])=kY ws++w.enc:=by
 induction ws with
 | nil=>simp [kY]
 | cons x ws bA=>rw [ang,kY,bA,kY,ana]
abbrev eK (pre:List V) (b:Nat) (h:ah) (aP:V) (ws:List bq):Prop:=fE pre b 4 h aP ws.length (kY ws)
abbrev eN (pre:List V) (b:Nat) (h:ah) (aP:V) (aa:ah) (dh:V) (ws:List bq):Prop:=jK pre b 4 h aP aa dh ws.length (kY ws)
def ik (pre:List V) (b:Nat) (h:ah) (aP:V) (ws A:List bq) (x:V) (aa:ah):Prop:=x=.tuple []/\∃dh,eN pre b h aP aa dh (ws++A)
theorem zK {pre:List V} {b:Nat} {h:ah} {aP:V} {ws:List bq} (W:eK pre b h aP ws) (w:bq) (hlen:ws.length+1<=1000000000):
 ∃v J,iY 4 aP (.slice (aC h.next) 0 1 1) (h.new (.a_ w.enc 0 false))=.val v J/\J.get (aC b)=.a_ (pre++[aP]) 0 false/\eN pre b h aP (J.set (aC b) (.a_ (pre++[v]) 0 false)) v (ws++[w]):=by
 obtain ⟨v,J,a,bV,c⟩:=fE.one W (by decide) (cs:=w.enc) (by unfold top;omega) rfl rfl;refine ⟨v,J,a,bV,?_⟩;unfold eN;rw [ak0,amZ];exact c
theorem oz (k:Int) (s:List UInt8) (b:Nat) (bg:V) (h:ah) (aP:V) (ws:List bq) (W:eK [bg] b h aP ws) (hlen:ws.length+1<=1000000000) (hm:bg.one=true/\bg.cells=[bg]/\bg.fK=true):
 b' Tryz.prog 68 [.ptr (aC b) 0,.int .i64 k,.str s] h (ik [bg] b h aP ws [dD k s]):=by
 obtain ⟨v,J,bR,a2,a3⟩:=zK W (dD k s) hlen;have g:h.get (aC b)=.a_ [bg,aP] 0 false:=W.g;have g1:J.get (aC b)=.a_ [bg,aP] 0 false:=a2;have ol:=W.lone;have jf:=a3.w.lone;simp only [dD,bq.enc] at bR;refine XU.z rfl (cp ?_);unfold NS;simp only [g,g1,bR,ol,jf,hm.1,hm.2.1,↓ab,ae,simprocAttr];exact ⟨rfl,_,a3⟩
theorem Ta (n:Int) (b:Nat) (bg:V) (h:ah) (aP:V) (ws:List bq) (W:eK [bg] b h aP ws) (hlen:ws.length+1<=1000000000) (hm:bg.one=true/\bg.cells=[bg]/\bg.fK=true):
 b' Tryz.prog 73 [.ptr (aC b) 0,.int .i64 n] h (ik [bg] b h aP ws [ot n]):=by
 obtain ⟨v,J,bR,a2,a3⟩:=zK W (ot n) hlen;have g:h.get (aC b)=.a_ [bg,aP] 0 false:=W.g;have g1:J.get (aC b)=.a_ [bg,aP] 0 false:=a2;have ol:=W.lone;have jf:=a3.w.lone;simp only [ot,bq.enc] at bR;refine XZ.z rfl (cp ?_);unfold NZ;simp only [g,g1,bR,ol,jf,hm.1,hm.2.1,↓ab,ae,simprocAttr];exact ⟨rfl,_,a3⟩
structure lQ (a b:Nat) (h:ah) (aP:V) (L:List (List UInt8)):Prop where
 g:h.get (aC a)=.a_ (ea L) 0 false
 ne:a≠b
 dw:¬aP.bj (aC a)
 lt:a<h.next
theorem lQ.hx {a b:Nat} {pre:List V} {h aa:ah} {aP dh:V} {iT:List bq} {L:List (List UInt8)} (A:lQ a b h aP L) (E:eN pre b h aP aa dh iT):lQ a b aa dh L:=by
 have a8:Old h (aC a):=hB A.lt;refine ⟨by rw [E.get a8 (fun e=>A.ne (by have:=congrArg cR e;rwa [dX,dX] at this)) A.dw];exact A.g,A.ne,fun z=>?_,aou A.lt E.m.next⟩;rcases E.f _ z with y | y
 . exact A.dw y
 . rw [dX] at y;have:=A.lt;omega
theorem lQ.mk' {b:Nat} {pre:List V} {h:ah} {aP:V} {ws:List bq} (W:eK pre b h aP ws) (L:List (List UInt8)):lQ h.next b (h.new (.a_ (ea L) 0 false)) aP L:=
 ⟨ju _,by have:=W.lt;omega,fun z=>by have:=W.o.v.cH z;unfold Old at this;rw [dX] at this;omega,by rw [gD];omega⟩
theorem Rx (L:List (List UInt8)) (cG:∀s ∈ L,s≠[]) (aX:L.length<=100000) (a b:Nat) (bg:V) (h:ah) (aP:V) (ws:List bq) (W:eK [bg] b h aP ws) (hlen:ws.length+L.length<=1000000000) (hm:bg.one=true/\bg.cells=[bg]/\bg.fK=true)
 (A:lQ a b h aP L) {K:V->ah->Prop} (dU:∀aa,ik [bg] b h aP ws (L.map kw) (.tuple []) aa->K (.tuple []) aa):
 gK Tryz.prog Hh (bz.a_ [.ptr (aC b) 0,.slice (aC a) 0 L.length L.length]) h fun e r aa=>e.ends/\∃ai,kp r aa []=some ai/\K (oneOf ai) aa:=by
 refine cp ?_;unfold Hh;simp only [↓ab,ae,simprocAttr];refine fS (fun r g=>r 0=.ptr (aC b) 0/\r 7=.slice (aC a) 0 L.length L.length/\r 8=.int .i64 L.length/\∃(i:Nat) (dh:V),r 9=.int .i64 i/\i<=L.length/\eN [bg] b h aP g dh (ws++(L.take i).map kw)) (fun r g=>L.length - (r 9).toN) ?_ ?_
 . exact ⟨by simp only [↓ab,cx,simprocAttr],by simp only [↓ab,cx,simprocAttr],by simp only [↓ab,cx,simprocAttr],0,aP,by simp only [↓ab,cx,simprocAttr]<;>rfl,by omega,by simpa [eN] using fE.refl W⟩
 rintro r g ⟨bb,hq,eg,i,jb,iS,au,E⟩;unfold M6;have aG:=A.hx E;by_cases aL:i<L.length
 . have g0:((i:Int) < (L.length:Int))=True:=am_ (by omega);have dt:=jG aL (by omega);have S:e9 g 1 (.slice (aC a) 0 L.length L.length) L.length (ea L):=⟨by rw [uV];omega,rfl,hB aG.lt,ea L,.inr ⟨0,false,aG.g⟩,by rw [uV];omega,by simp⟩;obtain ⟨b8,dc,hP,dp⟩:=S.dG (k:=.i64) aL;have eA:=dp.eA (i:=i * 1) (by rw [uV];omega);simp only [aov] at eA hP;have A6:(ea L)[i]'(by rw [uV];exact aL)=.str L[i]:=by
    have:=F5 aL;rw [amY (by rw [uV];exact aL)] at this;exact an9 this
   rw [A6] at eA;have ez:=cG _ (am3 aL);have Jc:(L.take (i+1)).map kw=(L.take i).map kw++[kw L[i]]:=by rw [List.take_succ_eq_append_getElem aL,aor];rfl
   generalize aM:L[i]=s at *;obtain ⟨c,rs,rfl⟩:∃c rs,s=c::rs:=by
    cases s with
    | nil=>exact absurd rfl ez
    | cons c rs=>exact ⟨c,rs,rfl⟩
   have aca:(ws++(L.take i).map kw).length+1<=1000000000:=by rw [amZ,anc,anH];omega
   obtain ⟨v,g1,bR,a2,a3⟩:=zK E.w (kw (c::rs)) aca;have HV:g.get (aC b)=.a_ [bg,jb] 0 false:=E.w.g;have HW:g1.get (aC b)=.a_ [bg,jb] 0 false:=a2;have ol:=E.w.lone;have jf:=a3.w.lone;rw [ana,<-Jc] at a3;have abP:(kw (c::rs)).enc=[.int .i64 (if sU c=true then 6 else 7),.int .i64 0,.int .i64 0,.str (c::rs)]:=rfl;rw [abP] at bR;have tB:(97<=(c.toNat:Int))=(97<=c):=propext ⟨fun q=>by show (97:UInt8).toNat<=c.toNat;simp;omega,fun q=>by have fy:(97:UInt8).toNat<=c.toNat:=q;simp at fy;omega⟩;have bW:((c.toNat:Int)<=122)=(c<=122):=propext ⟨fun q=>by show c.toNat<=(122:UInt8).toNat;simp;omega,fun q=>by have fy:c.toNat<=(122:UInt8).toNat:=q;simp at fy;omega⟩;have bG:((0:Int) < ((rs.length+1:Nat):Int))=True:=am_ (by omega);by_cases AR:97<=c
   . by_cases D2:c<=122
     . have ax:sU c=true:=by unfold sU;rw [anG AR,anG D2];rfl
       rw [anb ax] at bR;have Av:=tB.trans (am_ AR);have Hf:=bW.trans (am_ D2);simp only [bb,hq,eg,iS,g0,dt,bG,anz,hP,eA,HV,HW,bR,ol,jf,hm.1,hm.2.1,Av,Hf,↓ab,ae,simprocAttr];exact ⟨⟨i+1,v,rfl,aL,E.trans a3⟩,by omega⟩
     . have ax:¬sU c=true:=by unfold sU;rw [anL D2,aob];simp
       rw [am7 ax] at bR;have Av:=tB.trans (am_ AR);have Hf:=bW.trans (am2 D2);simp only [bb,hq,eg,iS,g0,dt,bG,anz,hP,eA,HV,HW,bR,ol,jf,hm.1,hm.2.1,Av,Hf,↓ab,ae,simprocAttr];exact ⟨⟨i+1,v,rfl,aL,E.trans a3⟩,by omega⟩
   . have ax:¬sU c=true:=by unfold sU;rw [anL AR,anR];simp
     rw [am7 ax] at bR;have Av:=tB.trans (am2 AR);simp only [bb,hq,eg,iS,g0,dt,bG,anz,hP,eA,HV,HW,bR,ol,jf,hm.1,hm.2.1,Av,↓ab,ae,simprocAttr];exact ⟨⟨i+1,v,rfl,aL,E.trans a3⟩,by omega⟩
 . have g0:((i:Int) < (L.length:Int))=False:=am2 (by omega);rw [an3 (by omega)] at E;simp only [bb,hq,eg,iS,g0,↓ab,ae,simprocAttr];exact dU _ ⟨rfl,_,E⟩
theorem uj (L:List (List UInt8)) (cG:∀s ∈ L,s≠[]) (aX:L.length<=100000) (a b:Nat) (bg:V) (h:ah) (aP:V) (ws:List bq) (W:eK [bg] b h aP ws) (hlen:ws.length+L.length<=1000000000) (hm:bg.one=true/\bg.cells=[bg]/\bg.fK=true)
 (A:lQ a b h aP L):b' Tryz.prog 24 [.ptr (aC b) 0,.slice (aC a) 0 L.length L.length] h (ik [bg] b h aP ws (L.map kw)):=
 M5.z rfl (Rx L cG aX a b bg h aP ws W hlen hm A fun aa k=>k)
theorem ae0 (L:List (List UInt8)) (cG:∀s ∈ L,s≠[]) (aX:L.length<=100000) (a b:Nat) (bg:V) (h:ah) (aP:V) (ws:List bq) (W:eK [bg] b h aP ws) (hlen:ws.length+L.length<=1000000000) (hm:bg.one=true/\bg.cells=[bg]/\bg.fK=true)
 (A:lQ a b h aP L):u5 Tryz.prog 24 [.ptr (aC b) 0,.slice (aC a) 0 L.length L.length] none h fun u aa=>u=none/\ik [bg] b h aP ws (L.map kw) (.tuple []) aa:=
 M5.d rfl (Rx (K:=fun _ aa=>none=none/\ik [bg] b h aP ws (L.map kw) (.tuple []) aa) L cG aX a b bg h aP ws W hlen hm A fun aa k=>⟨rfl,k⟩)
abbrev Lone (bg:V):Prop:=bg.one=true/\bg.cells=[bg]/\bg.fK=true
theorem Ux (n:Int) (b:Nat) (bg:V) (h:ah) (aP:V) (ws:List bq) (W:eK [bg] b h aP ws) (hlen:ws.length+1<=1000000000) (hm:Lone bg):
 b' Tryz.prog 74 [.ptr (aC b) 0,.int .i64 n] h (ik [bg] b h aP ws [oA n]):=by
 refine X0.z rfl (cp ?_);unfold N0;by_cases aX:n=1
 . have sA:=am_ aX;have e:=(Ext.refl h).new (.a_ (ea [[116,114,117,101]]) 0 false);have ay:=uj [[116,114,117,101]] (by decide) (by decide) h.next b bg (h.new (.a_ (ea [[116,114,117,101]]) 0 false)) aP ws (W.ext e) hlen hm (lQ.mk' W _)
   simp only [sA,↓ab,ae,simprocAttr];refine bw ay ?_;rintro x J ⟨rfl,jb,E⟩;simp only [↓ab,ae,simprocAttr];refine ⟨rfl,jb,?_⟩;rw [oA,anb aX];exact E.b9 e
 . have sA:=am2 aX;have e:=(Ext.refl h).new (.a_ (ea [[102,97,108,115,101]]) 0 false);have ay:=uj [[102,97,108,115,101]] (by decide) (by decide) h.next b bg (h.new (.a_ (ea [[102,97,108,115,101]]) 0 false)) aP ws (W.ext e) hlen hm (lQ.mk' W _)
   simp only [sA,↓ab,ae,simprocAttr];refine bw ay ?_;rintro x J ⟨rfl,jb,E⟩;simp only [↓ab,ae,simprocAttr];refine ⟨rfl,jb,?_⟩;rw [oA,am7 aX];exact E.b9 e
theorem Kc (s:List UInt8) (h:ah):b' Tryz.prog 75 [.str s] h fun x aa=>x=.int .i64 (dR s)/\aa=h:=by
 refine X1.z rfl (cp ?_);unfold N1 dR;by_cases bR:s=[61]
 . rw [anb (.inl bR)];simp only [am_ bR,↓ab,ae,simprocAttr]
   try (first | rfl | exact ⟨rfl,rfl⟩)
 by_cases a2:s=[60]
 . rw [anb (.inr (.inl a2))];simp only [am2 bR,am_ a2,↓ab,ae,simprocAttr]
   try (first | rfl | exact ⟨rfl,rfl⟩)
 by_cases a3:s=[60,61]
 . rw [anb (.inr (.inr a3))];simp only [am2 bR,am2 a2,am_ a3,↓ab,ae,simprocAttr]
   try (first | rfl | exact ⟨rfl,rfl⟩)
 have aX:¬(s=[61]\/s=[60]\/s=[60,61]):=by
  rintro (z | z | z)
  . exact bR z
  . exact a2 z
  . exact a3 z
 rw [am7 aX];by_cases a4:s=[43]
 . rw [anb (.inl a4)];simp only [am2 bR,am2 a2,am2 a3,am_ a4,↓ab,ae,simprocAttr]
   try (first | rfl | exact ⟨rfl,rfl⟩)
 by_cases a5:s=[45]
 . rw [anb (.inr a5)];simp only [am2 bR,am2 a2,am2 a3,am2 a4,am_ a5,↓ab,ae,simprocAttr]
   try (first | rfl | exact ⟨rfl,rfl⟩)
 rw [am7 (by rintro (z | z);exact a4 z;exact a5 z)];simp only [am2 bR,am2 a2,am2 a3,am2 a4,am2 a5,↓ab,ae,simprocAttr]
 try (first | rfl | exact ⟨rfl,rfl⟩)
def EP:List (Int × List D):=uv.map fun x=>(x.1,[.i .i64 x.2])
theorem aaf (k:Int):mK k EP=(sR k uv).map fun x=>[.i .i64 x]:=by
 unfold EP
 induction uv with
 | nil=>rfl
 | cons y l bA=>
   obtain ⟨n,x⟩:=y;simp only [anZ,mK,sR];by_cases q:k=n
   . rw [anb q,anb q];rfl
   . rw [am7 q,am7 q];exact bA
def rG:V->Bool
 | .int .i64 _=>true
 | _=>false
def vA:cm->Bool
 | .mp es _=>es.all fun m=>rG m.v
 | .iy es=>es.all fun m=>rG m.v
 | _=>false
theorem Py {e:ec} {k y:V}:∀{es:List cK},(es.all fun m=>rG m.v)=true->kO e k es=some (some y)->rG y=true
 | [],_,h=>by simp [kO] at h
 | m::es,aX,h=>by
   simp only [anX,amX] at aX;simp only [kO] at h;cases ao:e.run k m.k with
   | none=>rw [ao] at h;cases h
   | some b=>
     rw [ao] at h;cases b with
     | true=>simp only [am4,amW] at h;subst h;exact aX.1
     | false=>exact Py aX.2 h
theorem Px {e:ec} {k y:V}:∀{es:List cK},(es.all fun m=>rG m.v)=true->kN e k es=some (some y)->rG y=true
 | [],_,h=>by simp [kN] at h
 | m::es,aX,h=>by
   simp only [anX,amX] at aX;simp only [kN] at h;cases hu:kN e k es with
   | none=>rw [hu] at h;cases h
   | some r=>
     rw [hu] at h;cases ao:e.run k m.k with
     | none=>rw [ao] at h;cases h
     | some b=>
       rw [ao] at h;cases b with
       | true=>
         cases r with
         | none=>simp only [am4,amW] at h;subst h;exact aX.1
         | some _=>cases h
       | false=>
         simp only [anf,amW] at h;subst h;exact Px aX.2 hu
theorem agW {h:ah} {b:aU} {e:ec} {k z y:V} (aX:vA (h.get b)=true) (e0:kA e z true h (.map b) k=some (.tuple [y,.bool true])):rG y=true:=by
 unfold kA at e0;simp only at e0;cases aj:h.get b<;>rw [aj] at e0 aX<;>simp only [vA] at aX<;>try (cases aX;done)
 . simp only [nC,rP,aj,cm.lD] at e0;rename_i es clock;cases aA:kO e k es with
   | none=>rw [aA] at e0;cases e0
   | some r=>
     rw [aA] at e0;cases r with
     | none=>simp only [am4,amW,V.tuple.injEq,aoC] at e0;exact absurd e0.2.1 (by simp)
     | some v=>
       simp only [am4,amW,V.tuple.injEq,aoC,ao7] at e0;subst e0;exact Py aX aA
 . rename_i es;simp only at e0;cases aA:kN e k es with
   | none=>rw [aA] at e0;cases e0
   | some r=>
     rw [aA] at e0;cases r with
     | none=>simp only [am4,amW,V.tuple.injEq,aoC] at e0;exact absurd e0.2.1 (by simp)
     | some v=>
       simp only [am4,amW,V.tuple.injEq,aoC,ao7] at e0;subst e0;exact Px aX aA
structure hI (F:aU->Prop) (h:ah) (v:V):Prop where
 i:kL F h EP v
 n:∃b,v=.map b/\F b/\Old h b/\vA (h.get b)=true
theorem hI.ext {F:aU->Prop} {h aa:ah} {v:V} (M:hI F h v) (e:Ext h aa):hI F aa v:=by obtain ⟨b,ag,av,aI,bU⟩:=M.n;exact ⟨M.i.ext e,b,ag,av,e.cH aI,by rw [e.get b aI];exact bU⟩
theorem hI.mod {F dn M:aU->Prop} {h aa:ah} {v:V} (m:Mod M h aa) (dE:∀b,F b->Old h b->¬M b/\dn b) (H:hI F h v):hI dn aa v:=by obtain ⟨b,ag,av,aI,bU⟩:=H.n;obtain ⟨db,mM⟩:=dE b av aI;exact ⟨H.i.mod m dE,b,ag,mM,m.cH aI,by rw [m.get b aI db];exact bU⟩
theorem hI.hx {pre:List V} {b:Nat} {h aa:ah} {aP dh v:V} {ws iT:List bq} (M:hI (dS b) h v) (E:eN pre b h aP aa dh iT) (W:eK pre b h aP ws):hI (dS b) aa v:=M.mod E.m (E.gp W)
def SL (ao:ah) (v:V):Bool:=zd ao 1000 EP v&&(match v with
 | .map b=>vA (ao.get b)
 | _=>false)
set_option maxRecDepth 100000 in
theorem agE:B' ctx 100000 22 SL=true:=by kernel_rfl
theorem adD (n:Nat) (v:V):rG (v.dd n)=rG v:=by cases v<;>rfl
theorem ZN (n:Nat) (k:cm):vA (k.dd n)=vA k:=by
 cases k<;>first
  | rfl
  | simp only [cm.dd,vA,List.all_map,Function.comp_def,cK.dd,adD]
theorem agD (h:ah):b' Tryz.prog 22 [] h fun x aa=>Ext h aa/\hI (Db h) aa x:=by
 obtain ⟨v,ao,q,c⟩:=Ou (C:=ctx) follows uA Ft (by kernel_rfl) (by kernel_rfl) ⟨_,Tryz.func22,by kernel_rfl⟩ agE h;unfold SL at q;rw [amX] at q;have M:=(SM (h:=h) q.1).nH (dn:=Db h) fun b q=>q.1;refine ⟨_,_,c,LO _ _,M,?_⟩;obtain ⟨b,es,an,aN,cv,hh,ko⟩:=M.ex;refine ⟨b,an,ko,aN,?_⟩;obtain ⟨ag,av⟩:=q;cases v<;>simp only [V.dd] at an<;>try (cases an;done)
 rename_i nd;simp only [zd,amX] at ag;have J:cR nd<ao.next:=anx ag.1.1
 have al:=GZ h ao J;rw [uH] at al;simp only [V.map.injEq] at an;rw [<-an];unfold kX;rw [al,ZN];exact av
theorem kL.lone {F:aU->Prop} {h:ah} {eF:List (Int × List D)} {v:V} (M:kL F h eF v):Lone v:=by obtain ⟨b,es,rfl,_⟩:=M.ex;exact ⟨rfl,rfl,rfl⟩
abbrev bL (p:aS) (e3:V):List V:=[.int .i64 p.k,.int .i64 p.n,.int .i64 p.a,.str p.s,e3]
theorem BS {F dn:aU->Prop} (p:aS) (bg w:V) (h:ah) (M:hI F h bg) (X:cj dn h p.enc (bL p w)):b' Tryz.prog 77 [bg,.agg (bL p w)] h fun x aa=>x=.int .i64 p.kz/\Ext h aa:=by
 obtain ⟨e3,e,cN,Ep⟩:=aS.open X;obtain rfl:w=e3:=by simp only [bL,List.cons.injEq] at e;exact e.2.2.2.2.1
 have ol:=cN.one;have ax:=cN.len;rw [anc] at ax;obtain ⟨J,ag,an,aG⟩:=gb h (bL p w);simp only [bL] at ag aG ⊢;refine X3.z rfl (cp ?_);unfold N3;have look:=(M.i.ext an).look p.k (.int .i64 0) true;rw [aaf] at look;unfold aS.kz EN;cases aJ:sR p.k uv with
 | some x=>
   rw [aJ] at look;rcases look with ⟨bo,_⟩ | ⟨ds,y,qf,Y,e0⟩
   . cases bo
   . rw [am4] at e0;replace e0:kA nL.int.eq _ true J bg _=_:=e0;simp only [aot,amW] at qf;subst qf;obtain ⟨_,he,LF⟩:=Y.int;obtain rfl:=LF.no;obtain ⟨b,rfl,_,_,aj⟩:=(M.ext an).n;have au:=agW aj e0;obtain rfl:y=.int .i64 x:=by
      cases y<;>simp only [rG] at au<;>try (cases au;done)
      rename_i dy n;cases dy<;>simp only at au<;>try (cases au;done)
      simp only [V.cells,aoC,V.int.injEq,aoJ,ao7] at he;rw [he]
     simp only [ag,ol,aG.g,e0,↓ab,ae,simprocAttr];exact an
 | none=>
   rw [aJ] at look;rcases look with ⟨_,e0⟩ | ⟨_,_,bo,_⟩
   rotate_left
   . cases bo
   rw [am4] at e0;replace e0:kA nL.int.eq _ true J bg _=_:=e0;by_cases Jw:p.k=16
   . have uf:=am_ Jw;have ug:=am2 (show ¬p.k=25 by omega);have uh:=am2 (show ¬p.k=38 by omega);have wH:=am_ (show p.k<20 by omega);by_cases hlen:0<p.l.length
     . have l0:((0:Int) < (p.l.length:Int))=True:=am_ (by omega);rw [anb ⟨Jw,hlen⟩];simp only [ag,ol,aG.g,e0,ax,l0,uf,↓ab,ae,simprocAttr];exact an
     . have l0:((0:Int) < (p.l.length:Int))=False:=am2 (by omega);rw [am7 (by omega),am7 (by omega),am7 (by omega),anb (by omega)];simp only [ag,ol,aG.g,e0,ax,l0,uf,ug,uh,wH,↓ab,ae,simprocAttr];exact an
   . have uf:=am2 Jw;rw [am7 (by omega)];by_cases Jx:p.k=25
     . have ug:=am_ Jx;have uh:=am2 (show ¬p.k=38 by omega);have wH:=am2 (show ¬p.k<20 by omega);by_cases hlen:0<p.l.length
       . have l0:((0:Int) < (p.l.length:Int))=True:=am_ (by omega);rw [anb ⟨Jx,hlen⟩];simp only [ag,ol,aG.g,e0,ax,l0,uf,ug,↓ab,ae,simprocAttr];exact an
       . have l0:((0:Int) < (p.l.length:Int))=False:=am2 (by omega);rw [am7 (by omega),am7 (by omega),am7 (by omega)];simp only [ag,ol,aG.g,e0,ax,l0,uf,ug,uh,wH,↓ab,ae,simprocAttr];exact an
     . have ug:=am2 Jx;rw [am7 (by omega)];by_cases EE:p.k=38
       . have uh:=am_ EE;rw [anb EE];simp only [ag,ol,aG.g,e0,ax,uf,ug,uh,↓ab,ae,simprocAttr];refine bw (Kc p.s J) ?_;rintro x ad ⟨rfl,rfl⟩;simp only [↓ab,ae,simprocAttr];exact an
       . have uh:=am2 EE;rw [am7 EE];by_cases ED:p.k<20
         . have wH:=am_ ED;rw [anb ED];simp only [ag,ol,aG.g,e0,ax,uf,ug,uh,wH,↓ab,ae,simprocAttr];exact an
         . have wH:=am2 ED;rw [am7 ED];simp only [ag,ol,aG.g,e0,ax,uf,ug,uh,wH,↓ab,ae,simprocAttr];exact an
end
end Go.Proofs.YtefceblncmdkhaaGreatDoor
