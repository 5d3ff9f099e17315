/- The chapter's functions, walked by the abstract machine: plain lemmas, no condition. Printed by a program from longer texts: names made short. -/
import Derived.Test.YtgmhjhgoamjeeaaGreatDoorM12
import Derived.Test.YtgmhjhgoamjeeaaGreatDoorM13
set_option linter.unusedSectionVars false
set_option linter.unusedSimpArgs false
set_option linter.unusedVariables false
set_option maxHeartbeats 64000000
noncomputable section
namespace Go.Proofs.YtgmhjhgoamjeeaaGreatDoor
section
open Go a7
def UL (n:Nat):Bool:=match sN ctx 1000 106 [.int .u64 1,.int .u64 n] ag.empty with
 | .val (.tuple [.int .u64 a,.int .u64 b]) av=>uR a 0&&uR b n&&Nat.beq av.next 0
 | _=>false
set_option maxRecDepth 100000 in
theorem ajJ:(List.range 65).all UL=true:=by kernel_rfl
theorem ajI (n:Nat) (aW:n<=64) (h:ag):cr Tryz.prog 106 [.int .u64 1,.int .u64 n] h fun x ab=>x=.tuple [.int .u64 0,.int .u64 n]/\ab=h:=by
 have q:=aqu.1 ajJ n (arF.2 (by omega));unfold UL at q
 split at q
 . rename_i a b av he;simp only [ap2] at q;obtain ⟨⟨al,au⟩,aJ⟩:=q;have al:=FE al;have au:=FE au;have aJ:=aqZ aJ;have c:=acF (C:=ctx) follows zE LN (n:=1000) (f:=106) (by rfl) (by kernel_rfl) (by kernel_rfl) ⟨_,Tryz.func106,by kernel_rfl⟩ he h;refine ⟨_,_,c,?_,?_⟩
   . simp only [V.c9,lr,al,au]
   . unfold ag.app;rw [aJ];rfl
 . cases q
theorem akF (z:Int):∀i:Nat,eN (List.replicate i (V.int .i64 z))=true:=fun i=>by
 induction i with
 | zero=>rfl
 | succ i bd=>simpa [List.replicate_succ,eN,V.one] using bd
theorem amR {i m n:Nat} {z y:V} (aa:m<=i) (ae:i+m<=n):iw (List.replicate i z++List.replicate (n-i) y) i (List.take m (List.replicate i z))=List.replicate (i+m) z++List.replicate (n - (i+m)) y:=by
 apply List.ext_getElem?;intro q;have hm:(List.take m (List.replicate i z)).length=m:=by rw [aqw,ap9];omega
 rw [Mm _ _ _ (by rw [hm,aqi,ap9,ap9];omega),hm];by_cases a:q<i
 . rw [aqf a,aqq (by rw [ap9];exact a),aqq (by rw [ap9];omega),arC,arC,aqf a,aqf (by omega)]
 . rw [aqa a];by_cases b:q<i+m
   . rw [aqf b,aq3 (by omega),arC,aqf (by omega),aqq (by rw [ap9];omega),arC,aqf b]
   . rw [aqa b,aqk (by rw [ap9];omega),aqk (by rw [ap9];omega),ap9,ap9,arC,arC];by_cases c:q<n
     . rw [aqf (by omega),aqf (by omega)]
     . rw [aqa (by omega),aqa (by omega)]
theorem alQ (v:V) (z:Int) (n:Nat) (aW:n<=64) (h:ag) (H:fl h 1 v 1 [.int .i64 z]):cr Tryz.prog 102 [v,.int .i64 n] h fun x ab=>bB Any ab 1 ((List.replicate n z).map a7.nI) x/\Ext h ab:=by
 refine Zm.z rfl (cm ?_);unfold Oe;have f0:((n:Int)<0)=False:=ap_ (by omega);have bT:IntKind.u64.wrap (n:Int)=(n:Int):=by rw [IntKind.wrap_u64];omega
 have bN:IntKind.i64.wrap (n:Int)=(n:Int):=wrap_i64 (by omega) (by omega);have aC:IntKind.u64.wrap 1=1:=by decide
 have f1:((9223372036854775807:Int) < (n:Int))=False:=ap_ (by omega);have aw:iF v=some (.int .i64 1):=H.len;simp +contextual only [f0,aw,aC,bT,↓af,an,simprocAttr];refine bF (ajI n aW h) ?_;rintro x aa ⟨rfl,rfl⟩;obtain ⟨ae,au,aH,g2⟩:∃H,aa.new (.bU (List.replicate n (.int .i64 0)) 0 false)=H/\Ext aa H/\Has H aa.next (List.replicate n (.int .i64 0)):=gb aa _
 have mk:=ajt (h:=aa) (n:=n) (z:=.int .i64 0) (k:=.i64) (bs:=.i64) (by omega);rw [au] at mk;have hlen:(List.replicate n (V.int .i64 0)).length=n:=ap9;have qc:=copy_eq (h:=ae) (b:=aG aa.next) (off:=0) (l:=n) (c:=n) (H.ext aH) g2.g (by rw [hlen,aqP];exact Nat.min_le_right _ _) rfl;simp +contextual only [f0,f1,bN,mk,qc,↓af,an,simprocAttr];refine ek (fun r g=>r 7=.slice (aG aa.next) 0 n n/\∃i:Nat,r 8=.int .i64 i/\i<=n/\(1<=n->1<=i)/\Has g aa.next (List.replicate i (V.int .i64 z)++List.replicate (n-i) (V.int .i64 0))/\Ext aa g) (fun r g=>n - (r 8).toN) ?_ ?_
 . refine ⟨by simp only [↓af,bq,simprocAttr],Nat.min 1 n,by simp only [↓af,bq,simprocAttr],Nat.min_le_right _ _,fun q=>by rw [show Nat.min 1 n=1 from Nat.min_eq_left q];omega,?_,aH.set (ap7 _) _⟩;have:=g2.put (iw (List.replicate n (V.int .i64 0)) 0 (List.take (Nat.min 1 n) [V.int .i64 z]));by_cases bl:n=0
   . subst bl;exact this
   . rw [show Nat.min 1 n=1 from Nat.min_eq_left (by omega)] at this ⊢;obtain ⟨m,rfl⟩:∃m,n=m+1:=⟨n-1,by omega⟩;exact this
 rintro r g ⟨dT,i,cZ,aB,wN,G,E⟩;unfold Of;by_cases aN:i<n
 . have g0:((i:Int) < (n:Int))=True:=aqh (by omega);have RY:=wN (by omega);have S:fl g 1 (.slice (aG aa.next) 0 i n) i (List.replicate i (V.int .i64 z)):=by
    refine ⟨by rw [ap9,asl],rfl,iJ G.lt,_,.inr ⟨0,false,G.g⟩,by rw [aqi,ap9];omega,?_⟩;rw [ara,asv rfl]
   have qc:=copy_eq (h:=g) (b:=aG aa.next) (off:=i) (l:=n-i) (c:=n-i) S G.g (by rw [aqi,ap9,ap9];have:Nat.min i (n-i)<=n-i:=Nat.min_le_right _ _;omega) (akF z i);have aeS:Nat.min i (n-i)<=i:=Nat.min_le_left _ _;have kg:Nat.min i (n-i)<=n-i:=Nat.min_le_right _ _;have ao3:1<=Nat.min i (n-i):=Nat.le_min.2 ⟨RY,by omega⟩;generalize Nat.min i (n-i)=m at *;have cv:IntKind.i64.wrap ((i:Int) + ((m:Nat):Int))=((i+m:Nat):Int):=by rw [wrap_i64 (by omega) (by omega)];omega
   have bW:=abv (b:=aG aa.next) (k:=.i64) aN;have b6:=abu (b:=aG aa.next) (k:=.i64) aB RY;simp +contextual only [dT,cZ,g0,bW,b6,qc,cv,↓af,an,simprocAttr];refine ⟨⟨i+m,rfl,by omega,fun _=>by omega,?_,E.set (ap7 _) _⟩,by omega⟩;have:=G.put (iw (List.replicate i (V.int .i64 z)++List.replicate (n-i) (V.int .i64 0)) i (List.take m (List.replicate i (V.int .i64 z))));rw [amR aeS (by omega)] at this ⊢;exact this
 . have g0:((i:Int) < (n:Int))=False:=ap_ (by omega);have:i=n:=by omega
   subst this;simp +contextual only [dT,cZ,g0,↓af,an,simprocAttr];refine ⟨fl.g' (l:=List.replicate i z) ?_ (fun b o l c e=>by cases e;exact ap7 _) (by rw [ap9];unfold top;omega),E⟩;have aL:=G.g;rw [ar6,List.replicate_zero,aq7] at aL;have aB:my (List.replicate i z)=List.replicate i (V.int .i64 z):=by unfold my;rw [List.map_replicate]
   rw [aB,ap9];exact ⟨by rw [ap9,asl],rfl,iJ G.lt,_,.inr ⟨0,false,aL⟩,by rw [ap9];omega,by rw [ara,ar3]⟩
theorem ank (oH:Int) (s:List UInt8) (h:ag):cr Tryz.prog 101 [.int .i64 oH,.str s] h fun x ab=>x=.bool (Ak dm oH s)/\Ext h ab:=by
 refine Zl.z rfl (cm ?_);unfold Od Ak;by_cases bC:oH=1
 . simp +contextual only [aqh bC,aqB,↓af,an,simprocAttr];refine bF (MS 3 (by simp) s h) ?_;rintro x aa ⟨rfl,ax⟩;simp +contextual only [↓af,an,simprocAttr];exact ax
 by_cases a2:oH=2
 . simp +contextual only [ap_ bC,aqh a2,aqB,aqD,↓af,an,simprocAttr];refine bF (MS 4 (by simp) s h) ?_;rintro x aa ⟨rfl,ax⟩;simp +contextual only [↓af,an,simprocAttr];exact ax
 by_cases a3:oH=3
 . simp +contextual only [ap_ bC,ap_ a2,aqh a3,aqB,aqD,↓af,an,simprocAttr];refine bF (MS 5 (by simp) s h) ?_;rintro x aa ⟨rfl,ax⟩;simp +contextual only [↓af,an,simprocAttr];exact ax
 by_cases a4:oH=4
 . have aq:decide (s.length<=4096)=decide ((s.length:Int)<=4096):=decide_eq_decide.2 ⟨fun q=>by omega,fun q=>by omega⟩;simp +contextual only [ap_ bC,ap_ a2,ap_ a3,aqh a4,aq,aqB,aqD,↓af,an,simprocAttr];exact Ext.refl _
 by_cases a5:oH=5
 . obtain ⟨aa,al,ax,Y⟩:=r4 h 1 8 [.str [43],.str [45],.str [42],.str [47],.str [109,111,100],.str [61],.str [60],.str [60,61]] rfl (by unfold top;omega);simp +contextual only [ap_ bC,ap_ a2,ap_ a3,ap_ a4,aqh a5,al,aqB,aqD,↓af,an,simprocAttr];refine gr (abf s opsL _ aa Y.v (by decide)) ?_;simp +contextual only [↓af,an,simprocAttr];exact ax
 . simp +contextual only [ap_ bC,ap_ a2,ap_ a3,ap_ a4,ap_ a5,aqD,↓af,an,simprocAttr];exact Ext.refl _
theorem iz.open {F:aQ->Prop} {h:ag} {r:iz} {ah:List V} (H:cb F h r.enc ah):∃lN l1,ah=[lN,.int .i64 r.rest,.int .i64 r.least,.int .i64 r.lg,l1,.int .i64 r.bu,.int .i64 r.aB,.int .i64 r.s]/\bB F h 1 (r.first.map a7.nI) lN/\bB F h 1 (r.last.map a7.nI) l1:=by unfold iz.enc at H;obtain ⟨lN,_,rfl,tU,H1⟩:=H.ea;obtain ⟨_,rfl,cf⟩:=H1.int;obtain ⟨_,rfl,jA⟩:=cf.int;obtain ⟨_,rfl,p3⟩:=jA.int;obtain ⟨l1,_,rfl,Hz,vB⟩:=p3.ea;obtain ⟨_,rfl,Xp⟩:=vB.int;obtain ⟨_,rfl,Xq⟩:=Xp.int;obtain ⟨_,rfl,Xr⟩:=Xq.int;obtain rfl:=Xr.no;exact ⟨lN,l1,rfl,tU,Hz⟩
theorem ajy {t:aE} (h:pV t.k=none):t.may dm=false:=by cases t;rw [aE.may];simp only [aE.k] at h;rw [h]
theorem ajz {t:aE} {r:iz} (h:pV t.k=some r):t.may dm=(BD dm r t.k t.n t.a t.s&&lb r t.k t.n t.l.length&&n_ dm (oB r t.k t.n t.l.length) t.l):=by cases t;rw [aE.may];simp only [aE.k] at h;rw [h];rfl
theorem amf {k:Int} {r:iz} (h:pV k=some r):r.first.length<=3/\r.last.length<=1/\0<=r.least/\(k=50->r.bu=0/\r.aB=64):=by
 have hm:=GP (l:=tD) h;simp only [tD,aql,aq9,asn,or_false] at hm;rcases hm with h | h | h | h | h | h | h | h | h | h | h | h | h | h | h | h | h | h | h | h | h | h | h | h | h | h | h | h | h | h | h | h | h | h | h | h | h | h<;>
 obtain ⟨rfl,rfl⟩:=h<;>simp
theorem adn {r:iz} {k n:Int} {len i:Nat} (a1:0<=hp r k n len) (aB:i<len):(oB r k n len)[i]? =some (if aF:i < (firstM r k n).length then (firstM r k n)[i] else if i < (firstM r k n).length + (hp r k n len).toNat then r.rest else (r.last[i - ((firstM r k n).length + (hp r k n len).toNat)]?.getD 0)):=by
 have hlen:(len:Int)=(firstM r k n).length+hp r k n len+r.last.length:=by unfold hp;omega
 unfold oB;by_cases a:i < (firstM r k n).length
 . rw [dif_pos a,arf,aqq a,ap4 a]
 . rw [dif_neg a];by_cases b:i < (firstM r k n).length + (hp r k n len).toNat
   . rw [aqf b,aqq (by rw [aqi,ap9];exact b),aqk (by omega),arC,aqf (by omega)]
   . rw [aqa b,aqk (by rw [aqi,ap9];omega),aqi,ap9];rw [ap4 (by omega)];rfl
theorem ado {r:iz} {k n:Int} {len:Nat} (a1:0<=hp r k n len):(oB r k n len).length=len:=by
 have hlen:(len:Int)=(firstM r k n).length+hp r k n len+r.last.length:=by unfold hp;omega
 unfold oB;rw [aqi,aqi,ap9];omega
theorem A2 (b:aQ) (o:Nat):(tc 2 1).run (.ptr b o) (.int .i64 0)=some (.ptr b o):=rfl
theorem A3 (b:aQ) (o:Nat):(tc 2 1).run (.ptr b o) (.int .i64 1)=some (.ptr b (o+1)):=rfl
theorem Uj:∀(N:Nat) (t:aE),t.size<=N->N<=1000000000->∀(bV:V) (F:aQ->Prop) (ah:List V) (h:ag),o' F h GQ bV->cb Any h t.enc ah->cr Tryz.prog 97 [bV,.agg ah] h fun x ab=>x=.bool (t.may dm)/\Ext h ab
 | 0,t,aO,_,_,_,_,_,_,_=>by have:=qV t;omega
 | N+1,t,aO,R9,bV,F,ah,h,M,H=>by
   have xV:=H;obtain ⟨cB,rfl,L,_⟩:=aE.open H;have bI:N<=1000000000:=by omega
   have ol:=L.one;have aw:=L.len;have hle:=L.le;rw [ap6] at aw hle;have cu:=size_eq t;have du:=mG t.l;refine aaw.z rfl (cm ?_);unfold Qi;obtain ⟨aa,al,ax,uc⟩:=gb h [.int .i64 t.k,.int .i64 t.n,.int .i64 t.a,.str t.s,cB];have look:=(M.ext ax).look t.k (.agg [.bL,.int .i64 0,.int .i64 0,.int .i64 0,.bL,.int .i64 0,.int .i64 0,.int .i64 0]) true;rw [acA] at look;cases aD:pV t.k with
   | none=>
     rw [aD] at look;rcases look with ⟨_,jJ⟩ | ⟨_,_,a_,_⟩
     . rw [ap8] at jJ;replace jJ:iq kS.int.eq _ true aa bV _=_:=jJ;rw [ajy aD];obtain ⟨ae,au,aH,ha⟩:=gE aa [.bL,.int .i64 0,.int .i64 0,.int .i64 0,.bL,.int .i64 0,.int .i64 0,.int .i64 0] [.bL,.int .i64 0,.int .i64 0,.int .i64 0,.bL,.int .i64 0,.int .i64 0,.int .i64 0];simp +contextual only [ol.1,ol.2.1,al,au,uc.g,jJ,↓af,an,simprocAttr];exact ax.trans aH
     . cases a_
   | some r=>
   rw [aD] at look;rcases look with ⟨a_,_⟩ | ⟨ds,y,uI,Y,jJ⟩
   . cases a_
   rw [ap8] at jJ;replace jJ:iq kS.int.eq _ true aa bV _=_:=jJ;obtain rfl:r.enc=ds:=ars uI;rw [ajz aD];obtain ⟨apD,apE,apF,al'⟩:=amf aD;obtain ⟨lN,l1,a6,M9,Nq⟩:=iz.open Y;have of:=M9.one;have CJ:=Nq.one;obtain ⟨ae,au,aH,ha⟩:=gE aa [.bL,.int .i64 0,.int .i64 0,.int .i64 0,.bL,.int .i64 0,.int .i64 0,.int .i64 0] [lN,.int .i64 r.rest,.int .i64 r.least,.int .i64 r.lg,l1,.int .i64 r.bu,.int .i64 r.aB,.int .i64 r.s];have o_:=uc.ext aH;have bO:=ax.trans aH;unfold BD;by_cases bW:t.n<r.bu
   . rw [aqJ (show ¬r.bu<=t.n by omega)];simp +contextual only [ol.1,ol.2.1,al,au,uc.g,o_.g,ha.g,A2,A3,jJ,a6,of.1,CJ.1,aqh bW,aqV,↓af,an,simprocAttr];exact bO
   by_cases b6:r.aB<t.n
   . rw [aqJ (show ¬t.n<=r.aB by omega)];simp +contextual only [ol.1,ol.2.1,al,au,uc.g,o_.g,ha.g,A2,A3,jJ,a6,of.1,CJ.1,ap_ bW,aqh b6,aqV,art,↓af,an,simprocAttr];exact bO
   by_cases c3:t.a<0
   . rw [aqJ (show ¬0<=t.a by omega)];simp +contextual only [ol.1,ol.2.1,al,au,uc.g,o_.g,ha.g,A2,A3,jJ,a6,of.1,CJ.1,ap_ bW,ap_ b6,aqh c3,aqV,art,↓af,an,simprocAttr];exact bO
   by_cases fU:65536<t.a
   . rw [aqJ (show ¬t.a<=65536 by omega)];simp +contextual only [ol.1,ol.2.1,al,au,uc.g,o_.g,ha.g,A2,A3,jJ,a6,of.1,CJ.1,ap_ bW,ap_ b6,ap_ c3,aqh fU,aqV,art,↓af,an,simprocAttr];exact bO
   rw [aqH (show r.bu<=t.n by omega),aqH (show t.n<=r.aB by omega),aqH (show 0<=t.a by omega),aqH (show t.a<=65536 by omega)];simp +contextual only [ol.1,ol.2.1,al,au,uc.g,o_.g,ha.g,A2,A3,jJ,a6,of.1,CJ.1,ap_ bW,ap_ b6,ap_ c3,ap_ fU,aqY,↓af,an,simprocAttr];refine bF (ank r.s t.s ae) ?_;rintro x aM ⟨rfl,bA⟩;have oq:=o_.ext bA;have j9:=ha.ext bA;have iP:=bO.trans bA;cases c5:Ak dm r.s t.s with
   | false=>
     simp +contextual only [aqV,↓af,an,simprocAttr];exact iP
   | true=>
   have Xo:bB Any aM 1 (r.first.map a7.nI) lN:=(M9.ext (aH.trans bA)).e3 fun _ _=>trivial;have HA:bB Any aM 1 (r.last.map a7.nI) l1:=(Nq.ext (aH.trans bA)).e3 fun _ _=>trivial;have qI:∀(eb:List Int),eb.length<=64->IntKind.i64.wrap (IntKind.i64.wrap ((t.l.length:Int) - (eb.length:Int)) - (r.last.length:Int))=(t.l.length:Int)-eb.length-r.last.length:=fun eb ji=>by rw [wrap_i64 (n:=(t.l.length:Int) - (eb.length:Int)) (by omega) (by omega),wrap_i64 (by omega) (by omega)]
   have Sy:=HA.len;rw [ap6] at Sy;by_cases A_:t.k=50;obtain ⟨apf,aoZ⟩:=al' A_;obtain ⟨n,aW⟩:=Int.eq_ofNat_of_zero_le (show 0<=t.n by omega);obtain ⟨bw,bE,b5,Z⟩:=r4 aM 1 1 [.int .i64 8] rfl (by unfold top;omega);have ud:=oq.ext b5;have g3:=oq.g;have g4:=ud.g;rw [aW] at g3 g4;simp +contextual only [g3,g4,j9.g,bE,aqh A_,aW,↓af,an,simprocAttr];refine bF (alQ _ 8 n (by omega) bw Z.v) ?_;rintro wv cw ⟨AD,cW⟩;have BG:firstM r t.k t.n=List.replicate n 8:=by unfold firstM;rw [aqf A_,aW];rfl
   rw [<-BG] at AD;have vQ:=ud.ext cW;have gQ:=(j9.ext b5).ext cW;have o8:=(iP.trans b5).trans cW;have Nr:=(HA.ext b5).ext cW;have Sn:(firstM r t.k t.n).length<=64:=by rw [BG,ap9];omega
   rw [<-aW]
   rotate_left
   have BG:firstM r t.k t.n=r.first:=by unfold firstM;rw [aqa A_]
   have AD:=Xo;rw [<-BG] at AD;have vQ:=oq;have gQ:=j9;have o8:=iP;have Nr:=HA;have Sn:(firstM r t.k t.n).length<=64:=by rw [BG];omega
   simp +contextual only [vQ.g,gQ.g,ap_ A_,↓af,an,simprocAttr]
   all_goals
    have hh:=AD.len;rw [ap6] at hh;have qH:=qI (firstM r t.k t.n) Sn;simp +contextual only [vQ.g,gQ.g,aw,hh,Sy,qH,↓af,an,simprocAttr];have zc:hp r t.k t.n t.l.length=(t.l.length:Int) - (firstM r t.k t.n).length-r.last.length:=rfl;rw [<-zc];by_cases d1:hp r t.k t.n t.l.length<r.least
    . have c0:lb r t.k t.n t.l.length=false:=by unfold lb;rw [aqJ (by omega)];rfl
      simp +contextual only [aqh d1,c0,art,aqV,vQ.g,gQ.g,↓af,an,simprocAttr];exact o8
    by_cases d2:r.lg<hp r t.k t.n t.l.length
    . have c0:lb r t.k t.n t.l.length=false:=by unfold lb;rw [aqJ (show ¬hp r t.k t.n t.l.length<=r.lg by omega),art]
      simp +contextual only [ap_ d1,aqh d2,c0,art,aqV,vQ.g,gQ.g,↓af,an,simprocAttr];exact o8
    have c0:lb r t.k t.n t.l.length=true:=by unfold lb;rw [aqH (show r.least<=_ by omega),aqH (show hp r t.k t.n t.l.length<=r.lg by omega)];rfl
    have a1:0<=hp r t.k t.n t.l.length:=by omega
    simp +contextual only [ap_ d1,ap_ d2,c0,aw,aqY,vQ.g,gQ.g,↓af,an,simprocAttr];have s3:=ado a1;have acU:=fun (i:Nat) (aB:i<t.l.length)=>adn (r:=r) (k:=t.k) (n:=t.n) a1 aB;have ao_:hp r t.k t.n t.l.length<=t.l.length:=by unfold hp;omega
    have hF:(t.l.length:Int)=(firstM r t.k t.n).length+hp r t.k t.n t.l.length+r.last.length:=by unfold hp;omega
    generalize oB r t.k t.n t.l.length=gs at *;generalize hp r t.k t.n t.l.length=rest at *;obtain ⟨tC,rfl⟩:=Int.eq_ofNat_of_zero_le a1;generalize firstM r t.k t.n=b9 at *
    refine ek (fun R g=>R 0=bV/\R 3=.ptr (aG h.next) 0/\R 5=.ptr (aG aa.next) 0/\R 8=.int .i64 tC/\R 85=cB/\R 86=.int .i64 t.l.length/\(∃wv,R 7=wv/\bB Any g 1 (b9.map a7.nI) wv)/\bB Any g 1 (r.last.map a7.nI) l1/\
     Has g h.next [.int .i64 t.k,.int .i64 t.n,.int .i64 t.a,.str t.s,cB]/\Has g aa.next [lN,.int .i64 r.rest,.int .i64 r.least,.int .i64 r.lg,l1,.int .i64 r.bu,.int .i64 r.aB,.int .i64 r.s]/\Ext h g/\
     ∃i:Nat,R 87=.int .i64 i/\i<=t.l.length/\n_ dm gs t.l=n_ dm (gs.drop i) (t.l.drop i)) (fun R g=>t.l.length - (R 87).toN) ?_ ?_
    . exact ⟨by simp only [↓af,bq,simprocAttr],by simp only [↓af,bq,simprocAttr],by simp only [↓af,bq,simprocAttr],by simp only [↓af,bq,simprocAttr]<;>rfl,by simp only [↓af,bq,simprocAttr],by simp only [↓af,bq,simprocAttr],⟨_,by simp only [↓af,bq,simprocAttr],AD⟩,Nr,vQ,gQ,o8,0,by simp only [↓af,bq,simprocAttr]<;>rfl,by omega,rfl⟩
    rintro R g ⟨aU,bP,bS,cZ,vh,vi,⟨wv,dT,AB⟩,p5,P,B,E,i,vj,aB,bx⟩;unfold Qj;by_cases aN:i<t.l.length
    . have g0:((i:Int) < (t.l.length:Int))=True:=aqh (by omega);obtain ⟨b,off,wl,bQ,X,eR,ld,_,_,_⟩:=aE.lX (L.ext E) (k:=.i64) aN;have jg:=ld g (Ext.refl g);have fq:=eR.one;have cv:=fk aN (by unfold top at hle;omega);have aeM:=vf (t:=t) (aqC aN);have hh:=AB.len;rw [ap6] at hh;obtain ⟨g1,dU,bD,Z⟩:=gE g [.int .i64 0,.int .i64 0,.int .i64 0,.str [],.bL] [.int .i64 t.l[i].k,.int .i64 t.l[i].n,.int .i64 t.l[i].a,.str t.l[i].s,wl];have uc:=P.ext bD;have mJ:=B.ext bD;have e8:=acU i aN;have G:gs[i]? =some gs[i]:=ap4 (by omega);rw [aqz aN,aqz (show i<gs.length by omega),n_] at bx;rw [G] at e8;have e8:=ars e8;generalize gs[i]=M_ at *;have bT:IntKind.i64.wrap ((b9.length:Int) + (tC:Int))=((b9.length+tC:Nat):Int):=by rw [wrap_i64 (by omega) (by omega)];omega
      by_cases bC:i<b9.length;have DT:((i:Int) < (b9.length:Int))=True:=aqh (by omega);obtain ⟨b1,Lm,qJ,u0⟩:=(AB.ext bD).KG (k:=.i64) bC;have d2:=u0 g1 (Ext.refl g1);rw [dif_pos bC] at e8;rw [<-e8] at d2;simp +contextual only [aU,bP,bS,dT,cZ,vh,vi,vj,g0,bQ,jg,fq.1,fq.2.1,dU,Z.g,mJ.g,hh,DT,qJ,d2,↓af,an,simprocAttr]
      rotate_left
      rw [dif_neg bC] at e8;have DT:((i:Int) < (b9.length:Int))=False:=ap_ (by omega);by_cases a2:b9.length+tC<=i;have HQ:(((b9.length+tC:Nat):Int)<=(i:Int))=True:=aqh (by omega);have bN:IntKind.i64.wrap (IntKind.i64.wrap ((i:Int) - (b9.length:Int)) - (tC:Int))=((i - (b9.length+tC):Nat):Int):=by rw [wrap_i64 (n:=(i:Int) - (b9.length:Int)) (by omega) (by omega),wrap_i64 (by omega) (by omega)];omega
      obtain ⟨b1,Lm,qJ,u0⟩:=(p5.ext bD).KG (k:=.i64) (i:=i - (b9.length+tC)) (by omega);have d2:=u0 g1 (Ext.refl g1);rw [aqa (by omega),aqc,ap4 (by omega),aqL] at e8;rw [<-e8] at d2;simp +contextual only [aU,bP,bS,dT,cZ,vh,vi,vj,g0,bQ,jg,fq.1,fq.2.1,dU,Z.g,mJ.g,hh,DT,HQ,bT,bN,qJ,d2,↓af,an,simprocAttr]
      rotate_left
      have HQ:(((b9.length+tC:Nat):Int)<=(i:Int))=False:=ap_ (by omega);rw [aqf (by omega)] at e8;simp +contextual only [aU,bP,bS,dT,cZ,vh,vi,vj,g0,bQ,jg,fq.1,fq.2.1,dU,Z.g,mJ.g,hh,DT,HQ,bT,<-e8,↓af,an,simprocAttr]
      all_goals
       refine bF (agk t.l[i] M_ _ g1 (X.ext bD)) ?_;rintro x g2 ⟨rfl,aH⟩;have sE:=Z.ext aH;have Ha:=bD.trans aH;cases Pw:uU t.l[i].k M_ with
       | false=>
         rw [Pw,aqV,aqV] at bx;simp +contextual only [aU,bP,bS,cZ,vh,vi,vj,sE.g,↓af,an,simprocAttr];exact ⟨by rw [bx],E.trans Ha⟩
       | true=>
         simp +contextual only [aU,bP,bS,cZ,vh,vi,vj,sE.g,fq.1,fq.2.1,↓af,an,simprocAttr];refine bF (Uj N t.l[i] (by omega) bI bV F _ g2 (M.ext (E.trans Ha)) (X.ext Ha)) ?_;rintro x g3 ⟨rfl,bA⟩;have xR:=Ha.trans bA;cases rq:t.l[i].may dm with
         | false=>
           rw [rq,art,aqV] at bx;simp +contextual only [aU,bP,bS,cZ,vh,vi,vj,↓af,an,simprocAttr];exact ⟨by rw [bx],E.trans xR⟩
         | true=>
           rw [Pw,rq,aqY,aqY] at bx;simp +contextual only [aU,bP,bS,dT,cZ,vh,vi,vj,cv,↓af,an,simprocAttr];exact ⟨⟨AB.ext xR,p5.ext xR,P.ext xR,(by first | exact B.ext xR | (rw [e8];exact B.ext xR)),E.trans xR,i+1,rfl,aN,bx⟩,by omega⟩
    . have g0:((i:Int) < (t.l.length:Int))=False:=ap_ (by omega);rw [aqR (show t.l.length<=i by omega),n_] at bx;simp +contextual only [aU,bP,bS,cZ,vh,vi,vj,g0,↓af,an,simprocAttr];exact ⟨by rw [bx],E⟩
def wa (l:List aE):Int:=if l.all (fun t=>decide (fE t.k=7)&&t.may dm) then (if l.all (fun t=>decide (t.deep<=200)) then 0 else 260) else 2
theorem aa0 (l:List aE) (aO:b0 l<=1000000000) (v:V) (h:ag) (L:bB Any h 5 (l.map aE.enc) v):cr Tryz.prog 65 [v] h fun x ab=>x=.int .i64 (wa l)/\Ext h ab:=by
 have aw:=L.len;have hle:=L.le;rw [ap6] at aw hle;refine Z2.z rfl (cm ?_);unfold Po;simp +contextual only [↓af,an,simprocAttr];refine bF (amg h) ?_;rintro bV aa ⟨ax,M⟩;simp +contextual only [aw,↓af,an,simprocAttr];refine ek (fun r g=>r 0=v/\r 3=bV/\r 9=v/\r 10=.int .i64 l.length/\∃i:Nat,r 11=.int .i64 i/\i<=l.length/\Ext aa g/\(l.take i).all (fun t=>decide (fE t.k=7)&&t.may dm)=true) (fun r g=>l.length - (r 11).toN) ?_ ?_
 . exact ⟨by simp only [↓af,bq,simprocAttr],by simp only [↓af,bq,simprocAttr],by simp only [↓af,bq,simprocAttr],by simp only [↓af,bq,simprocAttr],0,by simp only [↓af,bq,simprocAttr]<;>rfl,by omega,Ext.refl aa,rfl⟩
 rintro r g ⟨aU,bP,dV,dK,i,fr,aB,E,c8⟩;unfold Pp;have p5:=L.ext (ax.trans E);by_cases aN:i<l.length
 . have g0:((i:Int) < (l.length:Int))=True:=aqh (by omega);obtain ⟨b,off,wl,bQ,X,eR,ld⟩:=aE.la p5 (k:=.i64) aN;have jg:=ld g (Ext.refl g);have cv:=fk aN (by unfold top at hle;omega);have bl:=pS (aqC aN);have fq:=eR.one;obtain ⟨g1,dU,bD,Z⟩:=gE g [.int .i64 0,.int .i64 0,.int .i64 0,.str [],.bL] [.int .i64 l[i].k,.int .i64 l[i].n,.int .i64 l[i].a,.str l[i].s,wl];simp +contextual only [aU,bP,dV,dK,fr,g0,bQ,jg,dU,Z.g,fq.1,fq.2.1,↓af,an,simprocAttr];refine bF (RV l[i].k g1) ?_;rintro x g2 ⟨rfl,rfl⟩;have bad:(decide (fE l[i].k=7)&&l[i].may dm)=false->wa l=2:=fun q=>by
    unfold wa;rw [aqa];intro z;have:=aqu.1 z _ (aqC aN);rw [q] at this;cases this
   by_cases bW:fE l[i].k=7
   . simp +contextual only [aU,bP,dV,dK,fr,Z.g,aqh bW,↓af,an,simprocAttr];refine bF (Uj _ l[i] (ap7 _) (by omega) bV _ _ g2 (M.ext (E.trans bD)) (X.ext bD)) ?_;rintro x g3 ⟨rfl,bA⟩;cases b6:l[i].may dm with
     | true=>
       simp +contextual only [aU,bP,dV,dK,fr,cv,↓af,an,simprocAttr];refine ⟨⟨i+1,rfl,aN,E.trans (bD.trans bA),?_⟩,by omega⟩;rw [take_one aN,List.all_append,c8];simp [bW,b6]
     | false=>
       simp +contextual only [aU,bP,cv,↓af,an,simprocAttr];exact ⟨by rw [bad (by rw [b6,art])],ax.trans (E.trans (bD.trans bA))⟩
   . simp +contextual only [aU,bP,dV,dK,fr,Z.g,ap_ bW,↓af,an,simprocAttr];exact ⟨by rw [bad (by rw [aqJ bW,aqV])],ax.trans (E.trans bD)⟩
 . have g0:((i:Int) < (l.length:Int))=False:=ap_ (by omega);rw [aqt (by omega)] at c8;have av:wa l=if l.all (fun t=>decide (t.deep<=200)) then 0 else 260:=by unfold wa;rw [aqf c8]
   rw [av];simp +contextual only [aU,bP,dV,dK,fr,aw,g0,↓af,an,simprocAttr];refine ek (fun r g=>r 26=v/\r 27=.int .i64 l.length/\∃i:Nat,r 28=.int .i64 i/\i<=l.length/\Ext h g/\(l.take i).all (fun t=>decide (t.deep<=200))=true) (fun r g=>l.length - (r 28).toN) ?_ ?_
   . exact ⟨by simp only [aU,↓af,bq,simprocAttr],by simp only [↓af,bq,simprocAttr],0,by simp only [↓af,bq,simprocAttr]<;>rfl,by omega,ax.trans E,rfl⟩
   clear aB aU bP dV dK fr p5 E g0 aN;rintro r g ⟨GA,GB,i,GC,aB,E,c8⟩;unfold Pq;have p5:=L.ext E;by_cases aN:i<l.length
   . have g0:((i:Int) < (l.length:Int))=True:=aqh (by omega);obtain ⟨b,off,wl,bQ,X,eR,ld⟩:=aE.la p5 (k:=.i64) aN;have jg:=ld g (Ext.refl g);have cv:=fk aN (by unfold top at hle;omega);have bl:=pS (aqC aN);have fq:=eR.one;obtain ⟨g1,dU,bD,Z⟩:=gE g [.int .i64 0,.int .i64 0,.int .i64 0,.str [],.bL] [.int .i64 l[i].k,.int .i64 l[i].n,.int .i64 l[i].a,.str l[i].s,wl];simp +contextual only [GA,GB,GC,g0,bQ,jg,dU,Z.g,fq.1,fq.2.1,↓af,an,simprocAttr];refine bF (QL _ l[i] (ap7 _) (by omega) _ g1 (X.ext bD)) ?_;rintro x g2 ⟨rfl,aH⟩;by_cases bW:(200:Int) < (l[i].deep:Int)
     . simp +contextual only [GA,GB,GC,aqh bW,↓af,an,simprocAttr];refine ⟨?_,E.trans (bD.trans aH)⟩;rw [aqa];intro z;have:=aqu.1 z _ (aqC aN);simp only [aqg] at this;omega
     . simp +contextual only [GA,GB,GC,cv,ap_ bW,↓af,an,simprocAttr];refine ⟨⟨i+1,rfl,aN,E.trans (bD.trans aH),?_⟩,by omega⟩;rw [take_one aN,List.all_append,c8];simp;omega
   . have g0:((i:Int) < (l.length:Int))=False:=ap_ (by omega);rw [aqt (by omega)] at c8;simp +contextual only [GA,GB,GC,aw,g0,↓af,an,simprocAttr];exact ⟨by rw [aqf c8],E⟩
def e' (p:aE):Bool:=decide (p.k=10)||decide (p.k=11)
abbrev cF:=Int × Int × List UInt8 × Int
def ch (p:aE):cF:=(p.k,p.n,p.s,(p.l.length:Int))
structure b2 where
 name:List UInt8
 ty:List UInt8
 tag:Int
 par:Int
 arg:List (List D)
def b2.enc (c:b2):List D:=[.s c.name,.s c.ty,.i .i64 c.tag,.i .i64 c.par,.l 4 c.arg]
def gf (s:List UInt8):List b2->Option b2
 | []=>none
 | c::cs=>if c.name=s then some c else gf s cs
def fM (cs:List b2) (s:List UInt8):List UInt8:=match gf s cs with
 | some c=>c.ty
 | none=>[]
def fB (p:aE):Bool:=decide (10<=p.k)&&decide (p.k<=16)&&p.may dm
def gh (cs:List b2) (p q:aE):Bool:=decide (q.k=p.k)&&(decide (p.k≠16)||match gf q.s cs with
 | some c=>decide (c.ty=fM cs p.s)&&decide (c.arg.length=q.l.length)
 | none=>false)
def gA (s:List aE) (h:cF) (i:Nat):List aE:=(s.filter fun q=>decide (ch q=h)).filterMap (·.l[i]?)
def fj (l:List aE):List aE:=l.filter fun p=>!e' p
def dw (cs:List b2):Nat->List aE->Bool
 | 0,_=>true
 | n+1,l=>match fj l with
   | []=>true
   | p::s=>(p::s).all (gh cs p)&&(p::s).all fun q=>(List.range q.l.length).all fun i=>dw cs n (gA (p::s) (ch q) i)
def tt (pre:List b2) (c:b2):Bool:=!pre.any (fun d=>decide (d.name=c.name))&&!pre.any (fun d=>decide (d.ty=c.ty/\d.tag=c.tag))&&decide (c.arg.length<=1)&&dm 4 c.name
def jI (pre:List b2):List b2->Bool
 | []=>true
 | c::cs=>tt pre c&&jI (pre++[c]) cs
def ky (cs:List b2) (l:List aE):Int:=if (jI [] cs&&l.all fB&&dw cs (b0 l) l)=true then 0 else 2
theorem ame (k:Int) (h:10<=k/\k<=16):fE k=2:=by unfold fE;rw [aqa (by omega),aqf h]
theorem adl {k:Int} (h:fE k=2):10<=k/\k<=16:=by
 unfold fE at h;by_cases bW:1<=k/\k<=4
 . rw [aqf bW] at h;omega
 . rw [aqa bW] at h;by_cases b6:10<=k/\k<=16
   . exact b6
   . rw [aqa b6] at h;exfalso
     repeat' (split at h)
     all_goals omega
theorem LO:∀{n:Nat} {l:List aE},l.length<=n->km dm (List.replicate n 2) l=true->∀q ∈ l,fE q.k=2/\q.j7 dm=true
 | _,[],_,_,q,ar=>by cases ar
 | 0,t::l,aw,_,_,_=>by simp at aw
 | n+1,t::l,aw,h,q,ar=>by
   simp only [List.replicate_succ,km,pU,ap2] at h;simp only [aqb] at aw;rcases aql.1 ar with rfl | ar
   . exact ⟨by simpa using h.1.1,h.1.2⟩
   . exact LO (by omega) h.2 q ar
theorem FP {p q:aE} (h:q ∈ p.l):q.size<p.size:=vf h
theorem tx {p:aE} (aO:p.size<=1000000000) (h:fB p=true):
 10<=p.k/\p.k<=16/\(p.k=15->p.l.length=2/\p.n=0/\p.s=[])/\(p.k=16->p.l.length<=1/\p.n=0)/\(p.k≠15->p.k≠16->p.l=[])/\∀q ∈ p.l,fB q=true:=by
 simp only [fB,ap2,aqg] at h;obtain ⟨⟨aa,ae⟩,aM⟩:=h;have aD:=tn (named:=dm) p.size p (ap7 _) aO;rw [aM] at aD;rw [Ma] at aD;simp only [ap2,aqg] at aD;obtain ⟨⟨⟨⟨⟨⟨a8,b'⟩,bP⟩,d_⟩,bS⟩,cz⟩,dT⟩:=aD;have la:∀q ∈ p.l,fE q.k=2/\q.j7 dm=true->fB q=true:=by intro q ar ⟨a,b⟩;have:=adl a;rw [tn (named:=dm) q.size q (ap7 _) (by have:=FP ar;omega)] at b;simp [fB,this.1,this.2,b]
 have aA:p.k=10\/p.k=11\/p.k=12\/p.k=13\/p.k=14\/p.k=15\/p.k=16:=by omega
 refine ⟨aa,ae,?_⟩;rcases aA with e | e | e | e | e | e | e<;>rw [e] at b' bP cz dT<;>simp [oZ,hq,de] at b' bP cz dT
 all_goals rw [e]
 all_goals first
  | (refine ⟨by intro z;omega,by intro z;omega,fun _ _=>cz,fun q ar=>?_⟩;rw [cz] at ar;cases ar)
  | skip
 . exact ⟨fun _=>⟨cz,bP,b'⟩,by intro z;omega,by intro z;omega,fun q ar=>la q ar (LO (n:=2) (by omega) (by simpa [List.replicate] using dT) q ar)⟩
 . exact ⟨by intro z;omega,fun _=>⟨cz,bP⟩,fun _ z=>absurd rfl z,fun q ar=>la q ar (LO (ap7 _) dT q ar)⟩
theorem ala {p:aE} (aO:p.size<=1000000000) (h:fB p=true):p.l.length<=2:=by
 obtain ⟨_,_,a,b,c,_⟩:=tx aO h;by_cases kF:p.k=15
 . have:=(a kF).1;omega
 . by_cases nY:p.k=16
   . have:=(b nY).1;omega
   . rw [c kF nY];simp
end
end Go.Proofs.YtgmhjhgoamjeeaaGreatDoor
