/- The chapter's functions, walked by the abstract machine: plain lemmas, no condition. Printed by a program from longer texts: names made short. -/
import Derived.Test.YtahfljfikfkpnaaGreatDoorM13
import Derived.Test.YtahfljfikfkpnaaGreatDoorM14
import Derived.Test.YtahfljfikfkpnaaGreatDoorM12
import Derived.Test.YtahfljfikfkpnaaGreatDoorM6
import Derived.Test.YtahfljfikfkpnaaGreatDoorM3
import Derived.Test.YtahfljfikfkpnaaGreatDoorM8
import Derived.Test.YtahfljfikfkpnaaGreatDoorM5
import Derived.Lay
import Derived.LaidLaws
import Derived.PinnedBridge
import Derived.Lib.LaidU8T
import Derived.Shelf.Vars
import Derived.MakeChecks
set_option linter.unusedSectionVars false
set_option linter.unusedSimpArgs false
set_option linter.unusedVariables false
set_option maxHeartbeats 64000000
noncomputable section
namespace Go.Proofs.YtahfljfikfkpnaaGreatDoor
section
open Go bf
def Vr (n:Nat):Bool:=match qL ctx 1000 136 [.int .u64 1,.int .u64 n] ae.empty with
 | .val (.tuple [.int .u64 a,.int .u64 b]) aq=>vj a 0&&vj b n&&Nat.beq aq.next 0
 | _=>false
set_option maxRecDepth 100000 in
theorem ajM:(List.range 65).all Vr=true:=by kernel_rfl
theorem ajL (n:Nat) (aL:n<=64) (h:ae):e9 Tryz.prog 136 [.int .u64 1,.int .u64 n] h fun x ab=>x=.tuple [.int .u64 0,.int .u64 n]/\ab=h:=by
 have q:=aqR.1 ajM n (arQ.2 (by omega));unfold Vr at q
 split at q
 . rename_i a b aq he;simp only [aqi] at q;obtain ⟨⟨an,av⟩,aH⟩:=q;have an:=Fy an;have av:=Fy av;have aH:=aq4 aH;have c:=ado (C:=ctx) follows rj Ad (n:=1000) (f:=136) (by rfl) (by kernel_rfl) (by kernel_rfl) ⟨_,Tryz.func136,by kernel_rfl⟩ he h;refine ⟨_,_,c,?_,?_⟩
   . simp only [V.dc,l_,an,av]
   . unfold ae.app;rw [aH];rfl
 . cases q
theorem akL (z:Int):∀i:Nat,fs (List.replicate i (V.int .i64 z))=true:=fun i=>by
 induction i with
 | zero=>rfl
 | succ i aT=>simpa [List.replicate_succ,fs,V.one] using aT
theorem am9 {i m n:Nat} {z y:V} (U:m<=i) (ad:i+m<=n):hC (List.replicate i z++List.replicate (n-i) y) i (List.take m (List.replicate i z))=List.replicate (i+m) z++List.replicate (n - (i+m)) y:=by
 apply List.ext_getElem?;intro q;have hm:(List.take m (List.replicate i z)).length=m:=by rw [ard,aqK];omega
 rw [NX _ _ _ (by rw [hm,aqC,aqK,aqK];omega),hm];by_cases a:q<i
 . rw [aqw a,aqG (by rw [aqK];exact a),aqG (by rw [aqK];omega),arA,arA,aqw a,aqw (by omega)]
 . rw [aqr a];by_cases b:q<i+m
   . rw [aqw b,aq_ (by omega),arA,aqw (by omega),aqG (by rw [aqK];omega),arA,aqw b]
   . rw [aqr b,aqH (by rw [aqK];omega),aqH (by rw [aqK];omega),aqK,aqK,arA,arA];by_cases c:q<n
     . rw [aqw (by omega),aqw (by omega)]
     . rw [aqr (by omega),aqr (by omega)]
theorem amh (v:V) (z:Int) (n:Nat) (aL:n<=64) (h:ae) (H:fD h 1 v 1 [.int .i64 z]):e9 Tryz.prog 87 [v,.int .i64 n] h fun x ab=>e1 Any ab 1 ((List.replicate n z).map bf.pQ) x/\Ext h ab:=by
 refine aa1.z rfl (dw ?_);unfold Ry;have f0:((n:Int)<0)=False:=aqx (by omega);have b0:IntKind.u64.wrap (n:Int)=(n:Int):=by rw [IntKind.wrap_u64];omega
 have bn:IntKind.i64.wrap (n:Int)=(n:Int):=wrap_i64 (by omega) (by omega);have al:IntKind.u64.wrap 1=1:=by decide
 have f1:((9223372036854775807:Int) < (n:Int))=False:=aqx (by omega);have aD:ju v=some (.int .i64 1):=H.len;simp +contextual only [f0,aD,al,b0,↓ag,ak,simprocAttr];refine cT (ajL n aL h) ?_;rintro x U ⟨rfl,rfl⟩;obtain ⟨ad,av,bh,g2⟩:∃H,U.new (.bz (List.replicate n (.int .i64 0)) 0 false)=H/\Ext U H/\Has H U.next (List.replicate n (.int .i64 0)):=gd U _
 have mk:=UX (h:=U) (n:=n) (z:=.int .i64 0) (k:=.i64) (bG:=.i64) (by omega);rw [av] at mk;have hlen:(List.replicate n (V.int .i64 0)).length=n:=aqK;have Bt:=copy_eq (h:=ad) (b:=aE U.next) (off:=0) (l:=n) (c:=n) (H.ext bh) g2.g (by rw [hlen,aqW];exact Nat.min_le_right _ _) rfl;simp +contextual only [f0,f1,bn,mk,Bt,↓ag,ak,simprocAttr];refine iV (fun r g=>r 7=.slice (aE U.next) 0 n n/\∃i:Nat,r 8=.int .i64 i/\i<=n/\(1<=n->1<=i)/\Has g U.next (List.replicate i (V.int .i64 z)++List.replicate (n-i) (V.int .i64 0))/\Ext U g) (fun r g=>n - (r 8).toN) ?_ ?_
 . refine ⟨by simp only [↓ag,dv,simprocAttr],Nat.min 1 n,by simp only [↓ag,dv,simprocAttr],Nat.min_le_right _ _,fun q=>by rw [show Nat.min 1 n=1 from Nat.min_eq_left q];omega,?_,bh.set (aqh _) _⟩;have:=g2.put (hC (List.replicate n (V.int .i64 0)) 0 (List.take (Nat.min 1 n) [V.int .i64 z]));by_cases bK:n=0
   . subst bK;exact this
   . rw [show Nat.min 1 n=1 from Nat.min_eq_left (by omega)] at this ⊢;obtain ⟨m,rfl⟩:∃m,n=m+1:=⟨n-1,by omega⟩;exact this
 rintro r g ⟨eM,i,e5,aG,xt,G,E⟩;unfold Rz;by_cases a':i<n
 . have g0:((i:Int) < (n:Int))=True:=aqO (by omega);have S8:=xt (by omega);have S:fD g 1 (.slice (aE U.next) 0 i n) i (List.replicate i (V.int .i64 z)):=by
    refine ⟨by rw [aqK,asj],rfl,kf G.lt,_,.inr ⟨0,false,G.g⟩,by rw [aqC,aqK];omega,?_⟩;rw [arp,asi rfl]
   have Bt:=copy_eq (h:=g) (b:=aE U.next) (off:=i) (l:=n-i) (c:=n-i) S G.g (by rw [aqC,aqK,aqK];have:Nat.min i (n-i)<=n-i:=Nat.min_le_right _ _;omega) (akL z i);have sa:Nat.min i (n-i)<=i:=Nat.min_le_left _ _;have lh:Nat.min i (n-i)<=n-i:=Nat.min_le_right _ _;have apl:1<=Nat.min i (n-i):=Nat.le_min.2 ⟨S8,by omega⟩;generalize Nat.min i (n-i)=m at *;have jA:IntKind.i64.wrap ((i:Int) + ((m:Nat):Int))=((i+m:Nat):Int):=by rw [wrap_i64 (by omega) (by omega)];omega
   have bS:=ab3 (b:=aE U.next) (k:=.i64) a';have cJ:=ab2 (b:=aE U.next) (k:=.i64) aG S8;simp +contextual only [eM,e5,g0,bS,cJ,Bt,jA,↓ag,ak,simprocAttr];refine ⟨⟨i+m,rfl,by omega,fun _=>by omega,?_,E.set (aqh _) _⟩,by omega⟩;have:=G.put (hC (List.replicate i (V.int .i64 z)++List.replicate (n-i) (V.int .i64 0)) i (List.take m (List.replicate i (V.int .i64 z))));rw [am9 sa (by omega)] at this ⊢;exact this
 . have g0:((i:Int) < (n:Int))=False:=aqx (by omega);have:i=n:=by omega
   subst this;simp +contextual only [eM,e5,g0,↓ag,ak,simprocAttr];refine ⟨fD.am3 (l:=List.replicate i z) ?_ (fun b o l c e=>by cases e;exact aqh _) (by rw [aqK];unfold top;omega),E⟩;have aJ:=G.g;rw [ar7,List.replicate_zero,aqI] at aJ;have aG:zN (List.replicate i z)=List.replicate i (V.int .i64 z):=by unfold zN;rw [List.map_replicate]
   rw [aG,aqK];exact ⟨by rw [aqK,asj],rfl,kf G.lt,_,.inr ⟨0,false,aJ⟩,by rw [aqK];omega,by rw [arp,ar_]⟩
theorem anB (pf:Int) (s:List UInt8) (h:ae):e9 Tryz.prog 86 [.int .i64 pf,.str s] h fun x ab=>x=.bool (px fa pf s)/\Ext h ab:=by
 refine aa0.z rfl (dw ?_);unfold Rx px;by_cases b7:pf=1
 . simp +contextual only [aqO b7,aqu,↓ag,ak,simprocAttr];refine cT (OF 3 (by simp) s h) ?_;rintro x U ⟨rfl,aM⟩;simp +contextual only [↓ag,ak,simprocAttr];exact aM
 by_cases a2:pf=2
 . simp +contextual only [aqx b7,aqO a2,aqu,aqs,↓ag,ak,simprocAttr];refine cT (OF 4 (by simp) s h) ?_;rintro x U ⟨rfl,aM⟩;simp +contextual only [↓ag,ak,simprocAttr];exact aM
 by_cases a3:pf=3
 . simp +contextual only [aqx b7,aqx a2,aqO a3,aqu,aqs,↓ag,ak,simprocAttr];refine cT (OF 5 (by simp) s h) ?_;rintro x U ⟨rfl,aM⟩;simp +contextual only [↓ag,ak,simprocAttr];exact aM
 by_cases a4:pf=4
 . have aY:decide (s.length<=4096)=decide ((s.length:Int)<=4096):=decide_eq_decide.2 ⟨fun q=>by omega,fun q=>by omega⟩;simp +contextual only [aqx b7,aqx a2,aqx a3,aqO a4,aY,aqu,aqs,↓ag,ak,simprocAttr];exact Ext.refl _
 by_cases a5:pf=5
 . obtain ⟨U,an,aM,Y⟩:=F6 h 1 8 [.str [43],.str [45],.str [42],.str [47],.str [109,111,100],.str [61],.str [60],.str [60,61]] rfl (by unfold top;omega);simp +contextual only [aqx b7,aqx a2,aqx a3,aqx a4,aqO a5,an,aqu,aqs,↓ag,ak,simprocAttr];refine eo (abK s opsL _ U Y.v (by decide)) ?_;simp +contextual only [↓ag,ak,simprocAttr];exact aM
 . simp +contextual only [aqx b7,aqx a2,aqx a3,aqx a4,aqx a5,aqs,↓ag,ak,simprocAttr];exact Ext.refl _
theorem iP.open {F:aN->Prop} {h:ae} {r:iP} {af:List V} (H:dX F h r.enc af):∃mx cI,af=[mx,.int .i64 r.rest,.int .i64 r.least,.int .i64 r.kW,cI,.int .i64 r.aZ,.int .i64 r.aG,.int .i64 r.s]/\e1 F h 1 (r.first.map bf.pQ) mx/\e1 F h 1 (r.last.map bf.pQ) cI:=by unfold iP.enc at H;obtain ⟨mx,_,rfl,AL,H1⟩:=H.e6;obtain ⟨_,rfl,ey⟩:=H1.int;obtain ⟨_,rfl,AN⟩:=ey.int;obtain ⟨_,rfl,HG⟩:=AN.int;obtain ⟨cI,_,rfl,mT,HH⟩:=HG.e6;obtain ⟨_,rfl,XY⟩:=HH.int;obtain ⟨_,rfl,XZ⟩:=XY.int;obtain ⟨_,rfl,X0⟩:=XZ.int;obtain rfl:=X0.no;exact ⟨mx,cI,rfl,AL,mT⟩
theorem ajy {t:aR} (h:yp t.k=none):t.may fa=false:=by cases t;rw [aR.may];simp only [aR.k] at h;rw [h]
theorem ajA {t:aR} {r:iP} (h:yp t.k=some r):t.may fa=(zq fa r t.k t.n t.a t.s&&qf r t.k t.n t.l.length&&oS fa (qV r t.k t.n t.l.length) t.l):=by cases t;rw [aR.may];simp only [aR.k] at h;rw [h];rfl
theorem amw {k:Int} {r:iP} (h:yp k=some r):r.first.length<=3/\r.last.length<=1/\0<=r.least/\(k=50->r.aZ=0/\r.aG=64):=by
 have hm:=Wp (l:=Di) h;simp only [Di,aqN,aru,List.not_mem_nil,or_false] at hm;rcases hm with h | h | h | h | h | h | h | h | h | h | h | h | h | h | h | h | h | h | h | h | h | h | h | h | h | h | h | h | h | h | h | h | h | h | h | h | h | h<;>
 obtain ⟨rfl,rfl⟩:=h<;>simp
theorem ad7 {r:iP} {k n:Int} {len i:Nat} (aV:0<=iX r k n len) (aG:i<len):(qV r k n len)[i]? =some (if aA:i < (firstM r k n).length then (firstM r k n)[i] else if i < (firstM r k n).length + (iX r k n len).toNat then r.rest else (r.last[i - ((firstM r k n).length + (iX r k n len).toNat)]?.getD 0)):=by
 have hlen:(len:Int)=(firstM r k n).length+iX r k n len+r.last.length:=by unfold iX;omega
 unfold qV;by_cases a:i < (firstM r k n).length
 . rw [dif_pos a,aq7,aqG a,aqm a]
 . rw [dif_neg a];by_cases b:i < (firstM r k n).length + (iX r k n len).toNat
   . rw [aqw b,aqG (by rw [aqC,aqK];exact b),aqH (by omega),arA,aqw (by omega)]
   . rw [aqr b,aqH (by rw [aqC,aqK];omega),aqC,aqK];rw [aqm (by omega)];rfl
theorem ad8 {r:iP} {k n:Int} {len:Nat} (aV:0<=iX r k n len):(qV r k n len).length=len:=by
 have hlen:(len:Int)=(firstM r k n).length+iX r k n len+r.last.length:=by unfold iX;omega
 unfold qV;rw [aqC,aqC,aqK];omega
theorem Ba (b:aN) (o:Nat):(tE 2 1).run (.ptr b o) (.int .i64 0)=some (.ptr b o):=rfl
theorem Bb (b:aN) (o:Nat):(tE 2 1).run (.ptr b o) (.int .i64 1)=some (.ptr b (o+1)):=rfl
theorem U2:∀(N:Nat) (t:aR),t.size<=N->N<=1000000000->∀(fz:V) (F:aN->Prop) (af:List V) (h:ae),pF F h G2 fz->dX Any h t.enc af->e9 Tryz.prog 39 [fz,.agg af] h fun x ab=>x=.bool (t.may fa)/\Ext h ab
 | 0,t,az,_,_,_,_,_,_,_=>by have:=GL t;omega
 | N+1,t,az,aei,fz,F,af,h,M,H=>by
   have aoA:=H;obtain ⟨bB,rfl,L,_⟩:=aR.open H;have bO:N<=1000000000:=by omega
   have ol:=L.one;have aD:=L.len;have hle:=L.le;rw [aqJ] at aD hle;have cX:=size_eq t;have hA:=VV t.l;refine aaF.z rfl (dw ?_);unfold Q7;obtain ⟨U,an,aM,rL⟩:=gd h [.int .i64 t.k,.int .i64 t.n,.int .i64 t.a,.str t.s,bB];have look:=(M.ext aM).look t.k (.agg [.cn,.int .i64 0,.int .i64 0,.int .i64 0,.cn,.int .i64 0,.int .i64 0,.int .i64 0]) true;rw [adf] at look;cases aa:yp t.k with
   | none=>
     rw [aa] at look;rcases look with ⟨_,po⟩ | ⟨_,_,ba,_⟩
     . rw [aqo] at po;replace po:ln od.int.eq _ true U fz _=_:=po;rw [ajy aa];obtain ⟨ad,av,bh,sK⟩:=fw U [.cn,.int .i64 0,.int .i64 0,.int .i64 0,.cn,.int .i64 0,.int .i64 0,.int .i64 0] [.cn,.int .i64 0,.int .i64 0,.int .i64 0,.cn,.int .i64 0,.int .i64 0,.int .i64 0];simp +contextual only [ol.1,ol.2.1,an,av,rL.g,po,↓ag,ak,simprocAttr];exact aM.trans bh
     . cases ba
   | some r=>
   rw [aa] at look;rcases look with ⟨ba,_⟩ | ⟨ds,y,u',Y,po⟩
   . cases ba
   rw [aqo] at po;replace po:ln od.int.eq _ true U fz _=_:=po;obtain rfl:r.enc=ds:=arB u';rw [ajA aa];obtain ⟨apS,apT,apU,amv⟩:=amw aa;obtain ⟨mx,cI,bg,O2,Pc⟩:=iP.open Y;have of:=O2.one;have CY:=Pc.one;obtain ⟨ad,av,bh,sK⟩:=fw U [.cn,.int .i64 0,.int .i64 0,.int .i64 0,.cn,.int .i64 0,.int .i64 0,.int .i64 0] [mx,.int .i64 r.rest,.int .i64 r.least,.int .i64 r.kW,cI,.int .i64 r.aZ,.int .i64 r.aG,.int .i64 r.s];have yS:=rL.ext bh;have b1:=aM.trans bh;unfold zq;by_cases bS:t.n<r.aZ
   . rw [ary (show ¬r.aZ<=t.n by omega)];simp +contextual only [ol.1,ol.2.1,an,av,rL.g,yS.g,sK.g,Ba,Bb,po,bg,of.1,CY.1,aqO bS,arC,↓ag,ak,simprocAttr];exact b1
   by_cases cJ:r.aG<t.n
   . rw [ary (show ¬t.n<=r.aG by omega)];simp +contextual only [ol.1,ol.2.1,an,av,rL.g,yS.g,sK.g,Ba,Bb,po,bg,of.1,CY.1,aqx bS,aqO cJ,arC,arR,↓ag,ak,simprocAttr];exact b1
   by_cases c3:t.a<0
   . rw [ary (show ¬0<=t.a by omega)];simp +contextual only [ol.1,ol.2.1,an,av,rL.g,yS.g,sK.g,Ba,Bb,po,bg,of.1,CY.1,aqx bS,aqx cJ,aqO c3,arC,arR,↓ag,ak,simprocAttr];exact b1
   by_cases iC:65536<t.a
   . rw [ary (show ¬t.a<=65536 by omega)];simp +contextual only [ol.1,ol.2.1,an,av,rL.g,yS.g,sK.g,Ba,Bb,po,bg,of.1,CY.1,aqx bS,aqx cJ,aqx c3,aqO iC,arC,arR,↓ag,ak,simprocAttr];exact b1
   rw [arf (show r.aZ<=t.n by omega),arf (show t.n<=r.aG by omega),arf (show 0<=t.a by omega),arf (show t.a<=65536 by omega)];simp +contextual only [ol.1,ol.2.1,an,av,rL.g,yS.g,sK.g,Ba,Bb,po,bg,of.1,CY.1,aqx bS,aqx cJ,aqx c3,aqx iC,arP,↓ag,ak,simprocAttr];refine cT (anB r.s t.s ad) ?_;rintro x aC ⟨rfl,cu⟩;have H3:=yS.ext cu;have HC:=sK.ext cu;have AK:=b1.trans cu;cases c5:px fa r.s t.s with
   | false=>
     simp +contextual only [arC,↓ag,ak,simprocAttr];exact AK
   | true=>
   have XW:e1 Any aC 1 (r.first.map bf.pQ) mx:=(O2.ext (bh.trans cu)).fQ fun _ _=>trivial;have HV:e1 Any aC 1 (r.last.map bf.pQ) cI:=(Pc.ext (bh.trans cu)).fQ fun _ _=>trivial;have Cj:∀(ew:List Int),ew.length<=64->IntKind.i64.wrap (IntKind.i64.wrap ((t.l.length:Int) - (ew.length:Int)) - (r.last.length:Int))=(t.l.length:Int)-ew.length-r.last.length:=fun ew lL=>by rw [wrap_i64 (n:=(t.l.length:Int) - (ew.length:Int)) (by omega) (by omega),wrap_i64 (by omega) (by omega)]
   have TA:=HV.len;rw [aqJ] at TA;by_cases Bo:t.k=50;obtain ⟨apv,ape⟩:=amv Bo;obtain ⟨n,aL⟩:=Int.eq_ofNat_of_zero_le (show 0<=t.n by omega);obtain ⟨aX,bP,dA,Z⟩:=F6 aC 1 1 [.int .i64 8] rfl (by unfold top;omega);have A1:=H3.ext dA;have g3:=H3.g;have g4:=A1.g;rw [aL] at g3 g4;simp +contextual only [g3,g4,HC.g,bP,aqO Bo,aL,↓ag,ak,simprocAttr];refine cT (amh _ 8 n (by omega) aX Z.v) ?_;rintro EO bF ⟨AM,eY⟩;have BR:firstM r t.k t.n=List.replicate n 8:=by unfold firstM;rw [aqw Bo,aL];rfl
   rw [<-BR] at AM;have sU:=A1.ext eY;have wo:=(HC.ext dA).ext eY;have DD:=(AK.trans dA).trans eY;have Pd:=(HV.ext dA).ext eY;have Tq:(firstM r t.k t.n).length<=64:=by rw [BR,aqK];omega
   rw [<-aL]
   rotate_left
   have BR:firstM r t.k t.n=r.first:=by unfold firstM;rw [aqr Bo]
   have AM:=XW;rw [<-BR] at AM;have sU:=H3;have wo:=HC;have DD:=AK;have Pd:=HV;have Tq:(firstM r t.k t.n).length<=64:=by rw [BR];omega
   simp +contextual only [sU.g,wo.g,aqx Bo,↓ag,ak,simprocAttr]
   all_goals
    have kC:=AM.len;rw [aqJ] at kC;have pj:=Cj (firstM r t.k t.n) Tq;simp +contextual only [sU.g,wo.g,aD,kC,TA,pj,↓ag,ak,simprocAttr];have se:iX r t.k t.n t.l.length=(t.l.length:Int) - (firstM r t.k t.n).length-r.last.length:=rfl;rw [<-se];by_cases d1:iX r t.k t.n t.l.length<r.least
    . have dU:qf r t.k t.n t.l.length=false:=by unfold qf;rw [ary (by omega)];rfl
      simp +contextual only [aqO d1,dU,arR,arC,sU.g,wo.g,↓ag,ak,simprocAttr];exact DD
    by_cases d2:r.kW<iX r t.k t.n t.l.length
    . have dU:qf r t.k t.n t.l.length=false:=by unfold qf;rw [ary (show ¬iX r t.k t.n t.l.length<=r.kW by omega),arR]
      simp +contextual only [aqx d1,aqO d2,dU,arR,arC,sU.g,wo.g,↓ag,ak,simprocAttr];exact DD
    have dU:qf r t.k t.n t.l.length=true:=by unfold qf;rw [arf (show r.least<=_ by omega),arf (show iX r t.k t.n t.l.length<=r.kW by omega)];rfl
    have aV:0<=iX r t.k t.n t.l.length:=by omega
    simp +contextual only [aqx d1,aqx d2,dU,aD,arP,sU.g,wo.g,↓ag,ak,simprocAttr];have xp:=ad8 aV;have adC:=fun (i:Nat) (aG:i<t.l.length)=>ad7 (r:=r) (k:=t.k) (n:=t.n) aV aG;have TT:iX r t.k t.n t.l.length<=t.l.length:=by unfold iX;omega
    have K6:(t.l.length:Int)=(firstM r t.k t.n).length+iX r t.k t.n t.l.length+r.last.length:=by unfold iX;omega
    generalize qV r t.k t.n t.l.length=gs at *;generalize iX r t.k t.n t.l.length=rest at *;obtain ⟨tZ,rfl⟩:=Int.eq_ofNat_of_zero_le aV;generalize firstM r t.k t.n=cG at *
    refine iV (fun R g=>R 0=fz/\R 3=.ptr (aE h.next) 0/\R 5=.ptr (aE U.next) 0/\R 8=.int .i64 tZ/\R 85=bB/\R 86=.int .i64 t.l.length/\(∃EO,R 7=EO/\e1 Any g 1 (cG.map bf.pQ) EO)/\e1 Any g 1 (r.last.map bf.pQ) cI/\
     Has g h.next [.int .i64 t.k,.int .i64 t.n,.int .i64 t.a,.str t.s,bB]/\Has g U.next [mx,.int .i64 r.rest,.int .i64 r.least,.int .i64 r.kW,cI,.int .i64 r.aZ,.int .i64 r.aG,.int .i64 r.s]/\Ext h g/\
     ∃i:Nat,R 87=.int .i64 i/\i<=t.l.length/\oS fa gs t.l=oS fa (gs.drop i) (t.l.drop i)) (fun R g=>t.l.length - (R 87).toN) ?_ ?_
    . exact ⟨by simp only [↓ag,dv,simprocAttr],by simp only [↓ag,dv,simprocAttr],by simp only [↓ag,dv,simprocAttr],by simp only [↓ag,dv,simprocAttr]<;>rfl,by simp only [↓ag,dv,simprocAttr],by simp only [↓ag,dv,simprocAttr],⟨_,by simp only [↓ag,dv,simprocAttr],AM⟩,Pd,sU,wo,DD,0,by simp only [↓ag,dv,simprocAttr]<;>rfl,by omega,rfl⟩
    rintro R g ⟨bZ,b6,cK,e5,vN,vO,⟨EO,eM,HF⟩,nA,P,B,E,i,vP,aG,bT⟩;unfold Q8;by_cases a':i<t.l.length
    . have g0:((i:Int) < (t.l.length:Int))=True:=aqO (by omega);obtain ⟨b,off,wl,fy,X,s3,ld,_,_,_⟩:=aR.aiu (L.ext E) (k:=.i64) a';have mu:=ld g (Ext.refl g);have l2:=s3.one;have jA:=rA a' (by unfold top at hle;omega);have api:=No (t:=t) (aq1 a');have kC:=HF.len;rw [aqJ] at kC;obtain ⟨g1,e8,bY,Z⟩:=fw g [.int .i64 0,.int .i64 0,.int .i64 0,.str [],.cn] [.int .i64 t.l[i].k,.int .i64 t.l[i].n,.int .i64 t.l[i].a,.str t.l[i].s,wl];have rL:=P.ext bY;have AF:=B.ext bY;have j0:=adC i a';have G:gs[i]? =some gs[i]:=aqm (by omega);rw [aq0 a',aq0 (show i<gs.length by omega),oS] at bT;rw [G] at j0;have j0:=arB j0;generalize gs[i]=O5 at *;have b0:IntKind.i64.wrap ((cG.length:Int) + (tZ:Int))=((cG.length+tZ:Nat):Int):=by rw [wrap_i64 (by omega) (by omega)];omega
      by_cases b7:i<cG.length;have DW:((i:Int) < (cG.length:Int))=True:=aqO (by omega);obtain ⟨c6,Mm,Lq,vv⟩:=(HF.ext bY).Ud (k:=.i64) b7;have d2:=vv g1 (Ext.refl g1);rw [dif_pos b7] at j0;rw [<-j0] at d2;simp +contextual only [bZ,b6,cK,eM,e5,vN,vO,vP,g0,fy,mu,l2.1,l2.2.1,e8,Z.g,AF.g,kC,DW,Lq,d2,↓ag,ak,simprocAttr]
      rotate_left
      rw [dif_neg b7] at j0;have DW:((i:Int) < (cG.length:Int))=False:=aqx (by omega);by_cases a2:cG.length+tZ<=i;have H':(((cG.length+tZ:Nat):Int)<=(i:Int))=True:=aqO (by omega);have bn:IntKind.i64.wrap (IntKind.i64.wrap ((i:Int) - (cG.length:Int)) - (tZ:Int))=((i - (cG.length+tZ):Nat):Int):=by rw [wrap_i64 (n:=(i:Int) - (cG.length:Int)) (by omega) (by omega),wrap_i64 (by omega) (by omega)];omega
      obtain ⟨c6,Mm,Lq,vv⟩:=(nA.ext bY).Ud (k:=.i64) (i:=i - (cG.length+tZ)) (by omega);have d2:=vv g1 (Ext.refl g1);rw [aqr (by omega),aqq,aqm (by omega),arD] at j0;rw [<-j0] at d2;simp +contextual only [bZ,b6,cK,eM,e5,vN,vO,vP,g0,fy,mu,l2.1,l2.2.1,e8,Z.g,AF.g,kC,DW,H',b0,bn,Lq,d2,↓ag,ak,simprocAttr]
      rotate_left
      have H':(((cG.length+tZ:Nat):Int)<=(i:Int))=False:=aqx (by omega);rw [aqw (by omega)] at j0;simp +contextual only [bZ,b6,cK,eM,e5,vN,vO,vP,g0,fy,mu,l2.1,l2.2.1,e8,Z.g,AF.g,kC,DW,H',b0,<-j0,↓ag,ak,simprocAttr]
      all_goals
       refine cT (agw t.l[i] O5 _ g1 (X.ext bY)) ?_;rintro x g2 ⟨rfl,bh⟩;have PB:=Z.ext bh;have Hu:=bY.trans bh;cases Rl:xL t.l[i].k O5 with
       | false=>
         rw [Rl,arC,arC] at bT;simp +contextual only [bZ,b6,cK,e5,vN,vO,vP,PB.g,↓ag,ak,simprocAttr];exact ⟨by rw [bT],E.trans Hu⟩
       | true=>
         simp +contextual only [bZ,b6,cK,e5,vN,vO,vP,PB.g,l2.1,l2.2.1,↓ag,ak,simprocAttr];refine cT (U2 N t.l[i] (by omega) bO fz F _ g2 (M.ext (E.trans Hu)) (X.ext Hu)) ?_;rintro x g3 ⟨rfl,cu⟩;have yG:=Hu.trans cu;cases Rp:t.l[i].may fa with
         | false=>
           rw [Rp,arR,arC] at bT;simp +contextual only [bZ,b6,cK,e5,vN,vO,vP,↓ag,ak,simprocAttr];exact ⟨by rw [bT],E.trans yG⟩
         | true=>
           rw [Rl,Rp,arP,arP] at bT;simp +contextual only [bZ,b6,cK,eM,e5,vN,vO,vP,jA,↓ag,ak,simprocAttr];exact ⟨⟨HF.ext yG,nA.ext yG,P.ext yG,(by first | exact B.ext yG | (rw [j0];exact B.ext yG)),E.trans yG,i+1,rfl,a',bT⟩,by omega⟩
    . have g0:((i:Int) < (t.l.length:Int))=False:=aqx (by omega);rw [ara (show t.l.length<=i by omega),oS] at bT;simp +contextual only [bZ,b6,cK,e5,vN,vO,vP,g0,↓ag,ak,simprocAttr];exact ⟨by rw [bT],E⟩
def wU (l:List aR):Int:=if l.all (fun t=>decide (w_ t.k=7)&&t.may fa) then (if l.all (fun t=>decide (t.deep<=200)) then 0 else 260) else 2
theorem abw (l:List aR) (az:fP l<=1000000000) (v:V) (h:ae) (L:e1 Any h 5 (l.map aR.enc) v):e9 Tryz.prog 15 [v] h fun x ab=>x=.int .i64 (wU l)/\Ext h ab:=by
 have aD:=L.len;have hle:=L.le;rw [aqJ] at aD hle;refine aaf.z rfl (dw ?_);unfold Qy;simp +contextual only [↓ag,ak,simprocAttr];refine cT (amx h) ?_;rintro fz U ⟨aM,M⟩;simp +contextual only [aD,↓ag,ak,simprocAttr];refine iV (fun r g=>r 0=v/\r 3=fz/\r 9=v/\r 10=.int .i64 l.length/\∃i:Nat,r 11=.int .i64 i/\i<=l.length/\Ext U g/\(l.take i).all (fun t=>decide (w_ t.k=7)&&t.may fa)=true) (fun r g=>l.length - (r 11).toN) ?_ ?_
 . exact ⟨by simp only [↓ag,dv,simprocAttr],by simp only [↓ag,dv,simprocAttr],by simp only [↓ag,dv,simprocAttr],by simp only [↓ag,dv,simprocAttr],0,by simp only [↓ag,dv,simprocAttr]<;>rfl,by omega,Ext.refl U,rfl⟩
 rintro r g ⟨bZ,b6,ly,kl,i,n5,aG,E,e_⟩;unfold QB;have nA:=L.ext (aM.trans E);by_cases a':i<l.length
 . have g0:((i:Int) < (l.length:Int))=True:=aqO (by omega);obtain ⟨b,off,wl,fy,X,s3,ld⟩:=aR.FU nA (k:=.i64) a';have mu:=ld g (Ext.refl g);have jA:=rA a' (by unfold top at hle;omega);have bK:=C_ (aq1 a');have l2:=s3.one;obtain ⟨g1,e8,bY,Z⟩:=fw g [.int .i64 0,.int .i64 0,.int .i64 0,.str [],.cn] [.int .i64 l[i].k,.int .i64 l[i].n,.int .i64 l[i].a,.str l[i].s,wl];simp +contextual only [bZ,b6,ly,kl,n5,g0,fy,mu,e8,Z.g,l2.1,l2.2.1,↓ag,ak,simprocAttr];refine cT (S5 l[i].k g1) ?_;rintro x g2 ⟨rfl,rfl⟩;have bad:(decide (w_ l[i].k=7)&&l[i].may fa)=false->wU l=2:=fun q=>by
    unfold wU;rw [aqr];intro z;have:=aqR.1 z _ (aq1 a');rw [q] at this;cases this
   by_cases bS:w_ l[i].k=7
   . simp +contextual only [bZ,b6,ly,kl,n5,Z.g,aqO bS,↓ag,ak,simprocAttr];refine cT (U2 _ l[i] (aqh _) (by omega) fz _ _ g2 (M.ext (E.trans bY)) (X.ext bY)) ?_;rintro x g3 ⟨rfl,cu⟩;cases cJ:l[i].may fa with
     | true=>
       simp +contextual only [bZ,b6,ly,kl,n5,jA,↓ag,ak,simprocAttr];refine ⟨⟨i+1,rfl,a',E.trans (bY.trans cu),?_⟩,by omega⟩;rw [take_one a',List.all_append,e_];simp [bS,cJ]
     | false=>
       simp +contextual only [bZ,b6,jA,↓ag,ak,simprocAttr];exact ⟨by rw [bad (by rw [cJ,arR])],aM.trans (E.trans (bY.trans cu))⟩
   . simp +contextual only [bZ,b6,ly,kl,n5,Z.g,aqx bS,↓ag,ak,simprocAttr];exact ⟨by rw [bad (by rw [ary bS,arC])],aM.trans (E.trans bY)⟩
 . have g0:((i:Int) < (l.length:Int))=False:=aqx (by omega);rw [arY (by omega)] at e_;have aq:wU l=if l.all (fun t=>decide (t.deep<=200)) then 0 else 260:=by unfold wU;rw [aqw e_]
   rw [aq];simp +contextual only [bZ,b6,ly,kl,n5,aD,g0,↓ag,ak,simprocAttr];refine iV (fun r g=>r 26=v/\r 27=.int .i64 l.length/\∃i:Nat,r 28=.int .i64 i/\i<=l.length/\Ext h g/\(l.take i).all (fun t=>decide (t.deep<=200))=true) (fun r g=>l.length - (r 28).toN) ?_ ?_
   . exact ⟨by simp only [bZ,↓ag,dv,simprocAttr],by simp only [↓ag,dv,simprocAttr],0,by simp only [↓ag,dv,simprocAttr]<;>rfl,by omega,aM.trans E,rfl⟩
   clear aG bZ b6 ly kl n5 nA E g0 a';rintro r g ⟨GP,GQ,i,GR,aG,E,e_⟩;unfold QC;have nA:=L.ext E;by_cases a':i<l.length
   . have g0:((i:Int) < (l.length:Int))=True:=aqO (by omega);obtain ⟨b,off,wl,fy,X,s3,ld⟩:=aR.FU nA (k:=.i64) a';have mu:=ld g (Ext.refl g);have jA:=rA a' (by unfold top at hle;omega);have bK:=C_ (aq1 a');have l2:=s3.one;obtain ⟨g1,e8,bY,Z⟩:=fw g [.int .i64 0,.int .i64 0,.int .i64 0,.str [],.cn] [.int .i64 l[i].k,.int .i64 l[i].n,.int .i64 l[i].a,.str l[i].s,wl];simp +contextual only [GP,GQ,GR,g0,fy,mu,e8,Z.g,l2.1,l2.2.1,↓ag,ak,simprocAttr];refine cT (Jk _ l[i] (aqh _) (by omega) _ g1 (X.ext bY)) ?_;rintro x g2 ⟨rfl,bh⟩;by_cases bS:(200:Int) < (l[i].deep:Int)
     . simp +contextual only [GP,GQ,GR,aqO bS,↓ag,ak,simprocAttr];refine ⟨?_,E.trans (bY.trans bh)⟩;rw [aqr];intro z;have:=aqR.1 z _ (aq1 a');simp only [aqy] at this;omega
     . simp +contextual only [GP,GQ,GR,jA,aqx bS,↓ag,ak,simprocAttr];refine ⟨⟨i+1,rfl,a',E.trans (bY.trans bh),?_⟩,by omega⟩;rw [take_one a',List.all_append,e_];simp;omega
   . have g0:((i:Int) < (l.length:Int))=False:=aqx (by omega);rw [arY (by omega)] at e_;simp +contextual only [GP,GQ,GR,aD,g0,↓ag,ak,simprocAttr];exact ⟨by rw [aqw e_],E⟩
def Bn:bL:=
 bL.seq (bL.seq (bL.ax [⟨(some 6),.fz (.t 2),none,[2]⟩,
  ⟨(some 7),.bin (.kP false 5) (.t 6) (.c .nilIface),none,[6]⟩])
  (bL.cond (.t 7)
   (bL.ret)
   (bL.skip)))
 (bL.seq (bL.ax [⟨(some 9),.fz (.t 2),none,[2]⟩,
   ⟨(some 10),.yZ 54 (some (.agg [(.int .i64 0),(.int .i64 0)])) true (.t 9),none,[9]⟩,
   ⟨(some 8),.fz (.t 10),none,[10]⟩,
   ⟨(some 11),.ext (.t 8) 0,none,[8]⟩,
   ⟨(some 12),.ext (.t 8) 1,none,[8]⟩,
   ⟨(some 3),.new [(.int .i64 0),(.int .i64 0)],none,[]⟩,
   ⟨none,.st 2 (.t 3) (.t 11),none,[3,11]⟩,
   ⟨(some 4),.fz (.t 12),none,[12]⟩])
 (bL.seq (bL.seq (bL.ax [⟨(some 13),.fz (.t 4),none,[4]⟩,
   ⟨(some 14),.un .not (.t 13),none,[13]⟩])
  (bL.cond (.t 14)
   (bL.ax [⟨(some 15),.fz (.t 2),none,[2]⟩,
     ⟨none,.cB (.t 15),none,[15]⟩])
   (bL.skip)))
 (bL.draw [⟨(some 16),.hI 0 (.t 3),none,[3]⟩,
   ⟨(some 17),.iH 2 (.t 16),none,[16]⟩,
   ⟨none,.st 1 (.t 0) (.c .cn),none,[0]⟩,
   ⟨none,.st 2 (.t 1) (.t 17),none,[1,17]⟩] [(1,[2,3])] [] [])))
theorem aat:((Tryz.f22.body.bind ym).map fun s=>(s.d,s.e,rx s.x,fI Tryz.prog 18 s.rest))=some (5,2,.t 5,Bn):=by kernel_rfl
theorem aas:(Tryz.f22.ntmps,jx Tryz.prog 18 Tryz.f22.results.toList,Bn.plain)=(18,[],true):=by kernel_rfl
theorem Wd {args:List V} {u:Option V} {h:ae} {K:Option V->ae->Prop} (aD:Nat.ble args.length 18=true)
 (H:fZ Tryz.prog Bn (((a7.bz args).set (some 5) (u.getD .nilIface)).set (some 2) (u.getD .nilIface)) h fun e r ab=>e.ends/\∃af,ho r ab []=some af/\K none ab):oY Tryz.prog 22 args u h K:=by
 have q:=aat;have av:=aas;simp only [aru] at av;obtain ⟨eg,lZ,n3⟩:=av;cases ah:Tryz.f22.body with
 | none=>rw [ah] at q;cases q
 | some c=>
   rw [ah] at q;cases az:ym c with
   | none=>simp only [Option.bind_some,az,Option.map_none] at q;cases q
   | some dc=>
     simp only [Option.bind_some,az,arj,aqj,aru] at q;obtain ⟨d1,d2,d3,d4⟩:=q;refine ab5 follows rj Tryz.func22 ah (by rw [eg];exact (by decide:Nat.ble 18 top=true)) (by rw [eg];exact aD) az (by rw [eg,d1,d2];exact (by decide:(fm 18 (some 5)&&fm 18 (some 2))=true)) (by first | exact d4 | (rw [eg];exact d4)) (by first | (rw [eg];exact lZ) | exact lZ) n3 ?_;unfold Dc;rw [d1,d2,d3];exact H
theorem acK:(fK.kP false 5).run Tryz.prog .nilIface .nilIface=some (.bool true):=by kernel_rfl
theorem acL (v:V):(fK.kP false 5).run Tryz.prog (.iface 54 v) .nilIface=some (.bool false):=rfl
theorem Zj (z v:V):wO 54 (some z) true (.iface 54 v)=some (.tuple [v,.bool true]):=rfl
theorem aj6 {a b:Nat} {h:ae}:oY Tryz.prog 22 [.ptr (aE a) 0,.ptr (aE b) 0] none h fun eI ab=>eI=none/\ab=h:=by refine Wd rfl (dw ?_);unfold Bn;simp only [Option.getD,acK,↓ag,ak,simprocAttr]
theorem Oa {a b:Nat} {h:ae} {x y z:V} (e:Int × Nat) (A:Has h a [x]) (B:Has h b [y,z]) (J6:a≠b):oY Tryz.prog 22 [.ptr (aE a) 0,.ptr (aE b) 0] (some (cg e)) h fun eI ab=>eI=none/\∃g,Ext h g/\ab=(g.set (aE a) (.bz [.cn] 0 false)).set (aE b) (.bz [.int .i64 e.1,.int .i64 (e.2:Nat)] 0 false):=by refine Wd rfl (dw ?_);unfold Bn;obtain ⟨U,an,aM,bA⟩:=fw h [.int .i64 0,.int .i64 0] [.int .i64 e.1,.int .i64 (e.2:Nat)];have fB:=A.ext aM;have hS:=B.ext aM;have sK:=hS.set (m:=a) J6.symm (.bz [.cn] 0 false);have hI:(a=h.next)=False:=aqx (by have:=A.lt;omega);have EE:(b=h.next)=False:=aqx (by have:=B.lt;omega);simp only [hI,EE,Option.getD,cg,acL,agG,Zj,an,bA.g,fB.g,sK.g,↓ag,ak,simprocAttr];exact ⟨U,aM,rfl⟩
section
variable {B g_:Nat} {G F:aN->Prop} {h:ae} {size:Nat} {es:List (List D)} {v cI:V} {l:List aR} {p:aR}
theorem am' (a u c:List V) (h:u.length=c.length):hC (a++u) a.length c=a++c:=by unfold hC;rw [List.take_left,ara (by rw [aqC];omega),aqI]
theorem ak9 {ds ef:List D} {cs:List V} (H:ec B G h size (es++[ef]) v) (E:dX (fun b=>G b/\¬v.bd b) h ds cs) (h0:cs.length=size):
 ∃b off ab,kU size v (.int .i64 es.length)=some (.ptr b off)/\v.bd b/\qv size h (.ptr b off) (.agg cs)=some ab/\ec B G ab size (es++[ds]) v/\Mod v.bd h ab:=by
 obtain ⟨us,a,b,c,d⟩:=H.ex;rw [aqC,arT] at b a;have Fs:es.length<us.length:=by omega
 obtain ⟨wc,mP,rfl⟩:∃wc mP,us=wc++[mP]:=⟨us.take es.length,us[es.length],by have:=arS es.length us;rw [aq0 Fs,ara (by omega)] at this;exact this.symm⟩;have Fq:wc.length=es.length:=by simpa using b
 have afN:mP.length=size:=c mP (by simp);have kC:wc.flatten.length=es.length * size:=by
  rw [<-Fq];have:∀l:List (List V),(∀u ∈ l,u.length=size)->l.flatten.length=l.length * size:=by
   intro l
   induction l with
   | nil=>intro _;simp
   | cons x l aT=>intro ba;rw [arq,aqC,aT fun u hu=>ba u (aq2 _ hu),ba x (aq8 ..),aqp,arn];omega
  exact this wc fun u hu=>c u (by simp [hu])
 obtain ⟨b2,off,ab,an,av,aH,bP,cE⟩:=a.put (k:=.i64) (i:=es.length) (by omega) (y:=.agg cs) h0 E.fs;refine ⟨b2,_,ab,an,av,aH,⟨wc++[cs],?_,by simp [Fq],?_,?_⟩,cE⟩
 . rw [aqC,arT];have aM:hC (wc++[mP]).flatten (es.length * size) (V.agg cs).cells=(wc++[cs]).flatten:=by
    rw [<-kC,asc,asc,List.flatten_singleton,List.flatten_singleton];exact am' _ _ _ (by rw [afN];exact h0.symm)
   rw [aM] at bP;exact bP
 . intro u hu;rcases arH.1 hu with hu | hu
   . exact c u (by simp [hu])
   . rw [aqV] at hu;subst hu;exact h0
 . intro i e u aM bh;have gy:∀b,(G b/\¬v.bd b)->Old h b->¬v.bd b/\(G b/\¬v.bd b):=fun b q _=>⟨q.2,q⟩;rcases zg aM with ⟨U,aM⟩ | ⟨U,rfl⟩
   . rcases zg bh with ⟨ad,bh⟩ | ⟨ad,rfl⟩
     . exact (d i e u (by rw [aqG U];exact aM) (by rw [aqG ad];exact bh)).mod cE gy
     . omega
   . rcases zg bh with ⟨ad,bh⟩ | ⟨ad,rfl⟩
     . omega
     . exact E.mod cE gy
def XA:aR:=.mk 0 0 0 [] []
theorem aou (F:aN->Prop) (h:ae):dX F h XA.enc er:=(jQ F h 0 0 0 (aqZ _)).cs
theorem alb (O:ec B (Fr B) h 5 (l.map aR.enc) cI) (P:ee (Fr g_) h p v) (bE:∀b,cI.bd b->cM b<g_) (Lg:∀b,Fr g_ b->Old h b->True) (cU:B<=g_) (xb:g_<=h.next) (aD:l.length<=3000000):
 ∃ej U b off ad,ml 5 cI (.slice (aE h.next) 0 1 1) (h.new (.bz er 0 false))=.val ej U/\Mod cI.bd h U/\kU 5 ej (.int .i64 l.length)=some (.ptr b off)/\ej.bd b/\qv 5 U (.ptr b off) (.agg (vcs p v))=some ad/\ec B (Fr B) ad 5 ((l++[p]).map aR.enc) ej/\
  Mod (fun b=>cI.bd b) h ad/\(∀b,ej.bd b->cI.bd b\/h.next<cM b):=by
 obtain ⟨ej,U,an,av,aH,bP,cE⟩:=O.add (ds:=XA.enc) (cs:=er) (aou _ _) (by decide) (aqn cU xb) (by rw [aqJ];unfold top;omega) rfl
 have ah:∀b,Fr g_ b/\Old h b->Fr B b/\¬ej.bd b:=fun b q=>⟨aqn cU q.1,fun z=>by
  rcases cE b z with z | z
  . have:=bE b z;have:=q.1;unfold Fr at this;omega
  . have:=q.2;unfold Old at this;omega⟩
 have E:dX (fun b=>Fr B b/\¬ej.bd b) U p.enc (vcs p v):=(P.cA.cs.mod aH (ew:=fun b=>Fr g_ b/\Old h b) fun b q o=>⟨fun z=>by have:=bE b z;have:=q.1;unfold Fr at this;omega,q⟩).fQ ah;obtain ⟨b,off,ad,cc,cy,eD,jN,rl⟩:=ak9 av E rfl;rw [aqJ] at cc;refine ⟨ej,U,b,off,ad,an,aH,cc,cy,eD,by rw [asf];exact jN,⟨aqn aH.next rl.next,fun c o n=>?_⟩,cE⟩;refine (rl.get c (aH.cA o) fun z=>?_).trans (aH.get c o n);rcases cE c z with z | z
 . exact n z
 . unfold Old at o;omega
end
section
variable {W:List aK} {ao aO:Nat} {h ab:ae} {d:Nat} {ws:List aK} {bB:V} {i g_:Nat} {p:aR} {v:V}
theorem acg (C:dY W ao aO h d ws bB i) (P:ee (Fr g_) h p v) (cX:p.size<=1000000000) {a0:Nat} (a_:p.a=(a0:Nat)) (ai:iq W ao (271,a0)):jB Tryz.prog 24 [.ptr (aE aO) 0,.agg (vcs p v)] h (fun x ab=>p.deep<=200/\Ext h ab) (fun x ab=>200<p.deep/\s4 (α:=Unit) W ao aO h (.error (271,a0)) x ab):=by
 refine aax.x rfl (dw ?_);unfold QX;have o:=P.one;obtain ⟨U,an,aM,bA⟩:=gd h (vcs p v);have rL:=P.ext aM;simp only [o.1,o.2.1,o.2.2,an,bA.g,↓ag,ak,simprocAttr];refine cT (Jk 1000000000 p cX (aqh _) _ U (rL.cs.fQ fun _ _=>trivial)) ?_;rintro x ad ⟨rfl,bh⟩;have g':=bA.ext bh;have cC:=(C.ext aM).ext bh;by_cases aY:200<p.deep
 . have f0:((200:Int) < (p.deep:Int))=True:=aqO (by omega);simp only [f0,g'.g,a_,↓ag,ak,simprocAttr];refine ch (Be (α:=Unit) cC 271 a0 ai) (fun _ _ q=>q.elim) ?_;rintro x aC ⟨e,he,rfl,m3,bk⟩;cases he;simp only [cg,bx,↓ag,ak,simprocAttr];exact ⟨aY,(271,a0),rfl,rfl,((aM.trans bh).mod _).trans m3,bk⟩
 . have f0:((200:Int) < (p.deep:Int))=False:=aqx (by omega);simp only [f0,bx,↓ag,ak,simprocAttr];exact ⟨by omega,aM.trans bh⟩
end
def k' (w:aK):Prop:=∃r n,hd r=.ok (w.kind,w.num,w.text,n)/\n<=r.length
theorem aj9 {r:List UInt8} {q:Int × Int × List UInt8 × Nat} (h:tN r=.ok q):q.1=1/\(-1073741824<=q.2.1/\q.2.1<=1073741823)/\q.2.2.1=[]/\q.2.2.2<=r.length:=by
 unfold tN at h;simp only at h
 split at h
 . cases h
 . cases h;refine ⟨rfl,?_,rfl,(List.takeWhile_prefix _).length_le⟩;simp only
   split<;>omega
theorem N':∀(f:Nat) {r:List UInt8} {q:List UInt8 × Nat},ry f r=some q->q.2<=r.length
 | 0,_,_,h=>by cases h
 | f+1,[],_,h=>by cases h
 | f+1,c::r,q,h=>by
   simp only [ry] at h
   split at h
   . cases h;simp
   split at h
   . split at h
     . cases h
     . rename_i b n he;cases aB:ry f (r.drop n) with
       | none=>rw [aB] at h;cases h
       | some fb=>
         rw [aB] at h;have:=N' f aB;cases h;rw [aqU] at this;have aL:n<=r.length:=by
          unfold pS at he
          split at he
          . cases he
          . rename_i fl bu
            repeat' split at he
            all_goals (cases he;try simp only [aqp];try omega)
         simp only [aqp];omega
   split at h
   . cases h
   . cases aB:ry f r with
     | none=>rw [aB] at h;cases h
     | some fb=>
       rw [aB] at h;have:=N' f aB;cases h;simp only [aqp];omega
theorem ani {r:List UInt8} {q:Int × Int × List UInt8 × Nat} (h:qw r=.ok q):q.1=2/\q.2.1=0/\q.2.2.1.length<=4096/\q.2.2.2<=r.length+1:=by
 unfold qw at h
 split at h
 . cases h
 . rename_i b n ah
   split at h
   . cases h
   . cases h;exact ⟨rfl,rfl,by simp only;omega,by have:=N' _ ah;simp only;omega⟩
theorem ahM {t:List UInt8} (h:re t=true):t.length<=9:=by
 unfold re at h;have:∀t ∈ FT,t.length<=9:=by decide
 exact this t (by simpa using h)
theorem L4 {k:Int} {r:List UInt8} {q:Int × Int × List UInt8 × Nat} (h:jv k r=.ok q):(q.1=7\/q.1=6\/q.1=k)/\q.2.1=0/\q.2.2.1.length<=64/\q.2.2.2<=r.length:=by
 unfold jv at h;simp only at h;have aD:=(List.takeWhile_prefix gS (l:=r)).length_le
 split at h
 . rename_i q;cases h;exact ⟨.inl rfl,rfl,by simp only [q.2];simp,aD⟩
 split at h
 . rename_i q;cases h;exact ⟨.inr (.inl rfl),rfl,by have:=ahM q.2;simp only;omega,aD⟩
 split at h
 . cases h
 . cases h;exact ⟨.inr (.inr rfl),rfl,by simp only;omega,aD⟩
theorem amT {r:List UInt8} {q:Int × Int × List UInt8 × Nat} (h:uc r=.ok q):q.1=7/\q.2.1=0/\q.2.2.1.length<=2/\q.2.2.2<=r.length:=by
 unfold uc at h
 split at h
 . rename_i t aB;cases h;have U:=List.mem_of_find?_eq_some aB;have ad:=List.find?_some aB;have:∀t ∈ kn,t.length<=2:=by decide
   exact ⟨rfl,rfl,this t U,(arL.1 ad).length_le⟩
 . cases h
theorem Vd {r:List UInt8} {q:Int × Int × List UInt8 × Nat} (h:hd r=.ok q):(1<=q.1/\q.1<=7)/\(q.1=1->-1073741824<=q.2.1/\q.2.1<=1073741823)/\q.2.2.1.length<=4096/\q.2.2.2<=r.length:=by
 match r,h with
 | c::r,h=>
   simp only [hd] at h
   split at h
   . obtain ⟨a,b,c,d⟩:=aj9 h;exact ⟨by omega,fun _=>b,by rw [c];simp,d⟩
   split at h
   . obtain ⟨a,b,c,d⟩:=ani h;exact ⟨by omega,fun z=>by omega,c,d⟩
   split at h
   . obtain ⟨a,b,c,d⟩:=L4 h;exact ⟨by omega,fun z=>by omega,by omega,d⟩
   split at h
   . obtain ⟨a,b,c,d⟩:=L4 h;exact ⟨by omega,fun z=>by omega,by omega,d⟩
   split at h
   . cases aL:jv 5 r with
     | error e=>rw [aL] at h;cases h
     | ok fb=>rw [aL] at h;cases h;obtain ⟨a,b,c,d⟩:=L4 aL;exact ⟨by simp only;omega,fun z=>by simp only at z;omega,by simp only;omega,by simp only [aqp];omega⟩
   . obtain ⟨a,b,c,d⟩:=amT h;exact ⟨by omega,fun z=>by omega,by omega,d⟩
theorem ajV {c:UInt8} {r:List UInt8} {e:Int} (h:hd (c::r)=.error e):1<=e:=by
 simp only [hd] at h
 split at h
 . unfold tN at h;simp only at h;split at h<;>cases h;decide
 split at h
 . unfold qw at h
   split at h
   . cases h;decide
   . split at h<;>cases h;decide
 have z1:∀{k r},jv k r=.error e->1<=e:=fun {k r} h=>by
  unfold jv at h;simp only at h
  split at h
  . cases h
  split at h
  . cases h
  split at h<;>cases h;decide
 split at h
 . exact z1 h
 split at h
 . exact z1 h
 split at h
 . cases aL:jv 5 r with
   | error dP=>rw [aL] at h;cases h;exact z1 aL
   | ok fb=>rw [aL] at h;cases h
 . unfold uc at h
   split at h<;>cases h;decide
theorem abJ {w:aK} {r:Except (Int × Nat) (List aK)} {ws:List aK} (h:y5 w r=.ok ws):∃v,r=.ok v/\ws=w::v:=by
 cases r with
 | error e=>cases h
 | ok v=>cases h;exact ⟨v,rfl,rfl⟩
theorem Gl:∀{r:List UInt8} {d:Int} {n:Nat},h4 r d=some n->n<=r.length
 | [],d,n,h=>by simp [h4] at h
 | [_],d,n,h=>by simp [h4] at h
 | x::y::r,d,n,h=>by
   rw [h4] at h
   split at h
   . cases aI:h4 r (d+1) with
     | none=>rw [aI] at h;cases h
     | some m=>rw [aI] at h;have:=Gl aI;cases h;simp only [aqp];omega
   . split at h
     . split at h
       . cases h;simp
       . cases aI:h4 r (d-1) with
         | none=>rw [aI] at h;cases h
         | some m=>rw [aI] at h;have:=Gl aI;cases h;simp only [aqp];omega
     . cases aI:h4 (y::r) d with
       | none=>rw [aI] at h;cases h
       | some m=>rw [aI] at h;have:=Gl aI;cases h;simp only [aqp] at *;omega
theorem F2:∀(f:Nat) (r:List UInt8) (p:Nat) {ws:List aK},ll f r p=.ok ws->ws.length<=r.length/\(∀w ∈ ws,p<=w.pos/\w.pos<p+r.length/\k' w)/\ws.Pairwise fun a b=>a.pos<b.pos
 | 0,r,p,ws,h=>by cases h;simp
 | f+1,[],p,ws,h=>by cases h;simp
 | f+1,c::r,p,ws,h=>by
   simp only [ll] at h
   split at h
   . obtain ⟨a,b,d⟩:=F2 f _ _ h;exact ⟨by simp only [aqp];omega,fun w hw=>by obtain ⟨ct,c6,hv⟩:=b w hw;exact ⟨by omega,by simp only [aqp];omega,hv⟩,d⟩
   split at h
   . split at h
     . cases h
     . rename_i n aL;have U:=Gl aL;obtain ⟨a,b,d⟩:=F2 f _ _ h;rw [aqU] at a b;exact ⟨by omega,fun w hw=>by obtain ⟨ct,c6,hv⟩:=b w hw;exact ⟨by omega,by omega,hv⟩,d⟩
   . split at h
     . cases h
     . rename_i q aI;have U:=Gg aI;have ad:=(Vd aI).2.2.2;obtain ⟨v,bE,rfl⟩:=abJ h;obtain ⟨a,b,d⟩:=F2 f _ _ bE;rw [aqU] at a b;refine ⟨by simp only [aqp] at *;omega,?_,?_⟩
       . intro w hw;rcases aqN.1 hw with rfl | hw
         . exact ⟨aqh _,by simp,⟨c::r,q.2.2.2,aI,ad⟩⟩
         . obtain ⟨ct,c6,hv⟩:=b w hw;exact ⟨by omega,by omega,hv⟩
       . exact List.Pairwise.cons (fun w hw=>by obtain ⟨ct,_⟩:=b w hw;simp only;omega) d
theorem F1:∀(f:Nat) (r:List UInt8) (p:Nat) {e:Int × Nat},ll f r p=.error e->1<=e.1
 | 0,r,p,e,h=>by cases h
 | f+1,[],p,e,h=>by cases h
 | f+1,c::r,p,e,h=>by
   simp only [ll] at h
   split at h
   . exact F1 f _ _ h
   split at h
   . split at h
     . cases h;exact (by decide:(1:Int)<=253)
     . exact F1 f _ _ h
   . split at h
     . rename_i dP he;cases h;exact ajV he
     . cases aD:ll f ((c::r).drop _) _ with
       | ok v=>rw [aD] at h;cases h
       | error dP=>rw [aD] at h;cases h;exact F1 f _ _ aD
theorem LN {s:List UInt8} {ws:List aK} (h:hp s=.ok ws):s.length<=65536/\ws.length<=s.length/\(∀w ∈ ws,w.pos<s.length/\k' w)/\ws.Pairwise fun a b=>a.pos<b.pos:=by
 unfold hp at h
 split at h
 . cases h
 split at h
 . cases h
 . obtain ⟨a,b,c⟩:=F2 _ _ _ h;exact ⟨by omega,a,fun w hw=>by obtain ⟨ct,c6,hv⟩:=b w hw;exact ⟨by omega,hv⟩,c⟩
theorem LM {s:List UInt8} {e:Int × Nat} (h:hp s=.error e):1<=e.1:=by
 unfold hp at h
 split at h
 . cases h;exact (by decide:(1:Int)<=3)
 split at h
 . cases h;exact (by decide:(1:Int)<=250)
 . exact F1 _ _ _ h
theorem GX {w:aK} (h:k' w):(1<=w.kind/\w.kind<=7)/\(w.kind=1->-1073741824<=w.num/\w.num<=1073741823)/\w.text.length<=4096:=by obtain ⟨r,n,h,_⟩:=h;obtain ⟨a,b,c,_⟩:=Vd h;exact ⟨a,b,c⟩
theorem alA (s:List UInt8):l4 s≠.error b3:=alr s fun e h q=>by have:=LM h;rw [q] at this;revert this;decide
theorem ab7 {ws bw:List aK} {p:aR} (h:bs .decl [] ws [p] bw):∃w r,ws=w::r/\p.a=w.pos:=by cases h<;>exact ⟨_,_,rfl,rfl⟩
theorem ab' {ws bw:List aK} {p:aR} (h:bs .decl [] ws [p] bw):p.size<=2 * ws.length:=by have:=r3 h;simp only [fP,aqB,aqp] at this;omega
def Pp (s:List UInt8) (h:ae) (x:V) (ab:ae):Prop:=Ext h ab/\match l4 s with
 | .ok l=>∃v,x=.tuple [v,.agg [.int .i64 0,.int .i64 0]]/\e1 (Fr h.next) ab 5 (l.map aR.enc) v/\l.length<=65536
 | .error e=>x=.tuple [.cn,.agg [.int .i64 e.1,.int .i64 (e.2:Nat)]]/\∀W,hp s=.ok W->iq W s.length e
theorem nn {aO n:Nat} (h:n<aO):¬cb aO (aE n):=fun z=>by have OK:aE n=aE aO:=z;rw [ns] at OK;omega
theorem NV:(2=h7)=False:=aqx (by decide)
theorem NW:(3=h7)=False:=aqx (by decide)
theorem acj {cs xs:List V} {s:V}:wW (.func 22 cs) xs s=some (.tuple (.func 22 (xs++cs)::s.list)):=R8 (show Nat.beq 22 dx=false by decide)
theorem als (s:List UInt8) (h:ae):e9 Tryz.prog 9 [.str s] h (Pp s h):=by
 have dK:=alA s;unfold Pp;generalize bX:l4 s=res at dK ⊢;refine jB.abX (aa6.x rfl (dw ?_));unfold RB;obtain ⟨U,an,aM,bA⟩:=gd h [.cn];obtain ⟨ad,av,bh,g'⟩:=gd U [.int .i64 0,.int .i64 0];simp only [an,av,↓ag,ak,simprocAttr];refine cT (F3 s ad) ?_;rintro x aC ⟨cu,ay⟩;have mT:=(bA.ext bh).ext cu;have yR:=g'.ext cu;have eg:=aM.next
 have ng:h.next≠U.next:=by have:=bA.lt;omega
 have M2:Ext h aC:=(aM.trans bh).trans cu;cases aD:hp s with
 | error e=>
   rw [aD] at ay;have he:=LM aD;have aa:res=.error e:=by rw [<-bX];unfold l4;rw [aD]
   subst ay;have f0:(e.1=0)=False:=aqx (by omega);have mh:=yR.put [.int .i64 e.1,.int .i64 (e.2:Nat)];have rJ:=mT.set (m:=U.next) ng (.bz [.int .i64 e.1,.int .i64 (e.2:Nat)] 0 false);have rK:=rJ.put [.cn];have uI:=mh.set (m:=h.next) ng.symm (.bz [.cn] 0 false);have sS:=uI.put [.int .i64 e.1,.int .i64 (e.2:Nat)];have Ye:=rK.set (m:=U.next) ng (.bz [.int .i64 e.1,.int .i64 (e.2:Nat)] 0 false);simp only [mT.g,yR.g,mh.g,rJ.g,rK.g,uI.g,sS.g,Ye.g,f0,bx,eJ,cd,↓ag,ak,simprocAttr];rw [aa];exact ⟨((M2.set eg _).set (aqh _) _).set eg _,rfl,fun _=>trivial⟩
 | ok W=>
   rw [aD] at ay;obtain ⟨v,rfl,S⟩:=ay;obtain ⟨g1,g2,g3,g4⟩:=LN aD;have aa:td s.length (bD s.length (rX W)) (rX W) [] W=res:=by rw [<-bX];unfold l4;rw [aD]
   have mh:=yR.put [.int .i64 0,.int .i64 0];have rJ:=mT.set (m:=U.next) ng (.bz [.int .i64 0,.int .i64 0] 0 false);have N5:=S.v.one;generalize xv:aC.set (aE U.next) (.bz [.int .i64 0,.int .i64 0] 0 false)=fO at mh rJ;obtain ⟨j4,cE,eY,jn⟩:=gd fO [v,.int .i64 (0:Nat),.int .i64 s.length,.int .i64 (0:Nat)];simp only [Int.natCast_zero] at cE;simp only [mT.g,yR.g,xv,mh.g,rJ.g,cE,N5.1,N5.2.1,N5.2.2,bx,eJ,cd,acj,aq5,↓ag,ak,simprocAttr];have yH:Ext h fO:=by rw [<-xv];exact M2.set eg _
   have OH:Ext h j4:=yH.trans eY;have n4:U.next<fO.next:=by have:=mh.lt;omega
   have Ya:=mh.ext eY;have Yc:=rJ.ext eY;have Px:fe ad.next fO 4 v W.length (hj W):=by rw [<-xv];refine S.mod ((Mod.refl (fun b=>b=aE U.next) aC).set (fun _=>rfl) _) fun b q z=>?_;have:=S.base q;rw [show b=aE U.next from z,dj] at this;have:=g'.lt;omega
   have Li:∀b,v.bd b->Old fO b:=fun b q=>Px.v.cA q;have cD:dY W s.length fO.next j4 0 W v 0:=⟨jn,(Px.ext eY).v,fun q=>dh (aqh _) (Li _ q),aqZ _,by rw [arp],by omega,by omega,fun w hw=>by have:=(GX (g3 w hw).2).2.2;omega,fun w hw=>(GX (g3 w hw).2).2.1⟩
   refine iV (fun r g=>r 2=.ptr (aE h.next) 0/\r 3=.ptr (aE U.next) 0/\r 4=v/\r 5=.ptr (aE fO.next) 0/\r 17179869185=.tuple [.func 22 [.ptr (aE h.next) 0,.ptr (aE U.next) 0]]/\Ext h g/\Has g U.next [.int .i64 0,.int .i64 0]/\j4.next<=g.next/\∃m l cI ws i,Has g h.next [cI]/\ec j4.next (Fr j4.next) g 5 (List.map aR.enc l) cI/\dY W s.length fO.next g 0 ws v i/\l.length+ws.length<=W.length/\td s.length (bD s.length (rX W)) m l ws=res) (fun _ g=>qh W fO.next g) ?_ ?_
   . exact ⟨by simp only [↓ag,dv,simprocAttr],by simp only [↓ag,dv,simprocAttr],by simp only [↓ag,dv,simprocAttr],by simp only [↓ag,dv,simprocAttr],by simp only [↓ag,dv,simprocAttr],OH,Ya,aqh _,_,[],_,W,0,Yc,ec.nil _ _ _ _,cD,by simp,aa⟩
   rintro r g ⟨b5,b6,eh,cK,sx,X,mh,Ve,m,l,cI,ws,i,mT,O,C,hlen,aa⟩;cases m with
   | zero=>exact (dK aa.symm).elim
   | succ m=>
     simp only [td] at aa;unfold RF;have bW:=jn.lt;have RL:=C.len;cases ws with
     | nil=>
       have aG:=C.done;have f0:((i:Int) < (W.length:Int))=False:=aqx (by omega);rw [aqw rfl] at aa;have X7:=mT.put [cI];have Pb:=mh.set (m:=h.next) ng.symm (.bz [cI] 0 false);have X_:=Pb.put [.int .i64 0,.int .i64 0];have X8:=X7.set (m:=U.next) ng (.bz [.int .i64 0,.int .i64 0] 0 false);have aZ:=O.one;simp only [b5,b6,eh,cK,sx,C.at_.g,RL,f0,mT.g,Pb.g,aZ.1,aZ.2.1,aZ.2.2,bx,eJ,kq,cd,↓ag,ak,simprocAttr];refine aj6.mono ?_;rintro u ab ⟨rfl,rfl⟩;simp only [X8.g,X_.g,b5,b6,aZ.1,aZ.2.1,aZ.2.2,bx,eJ,cd,↓ag,ak,simprocAttr];rw [<-aa];refine ⟨(X.set (aqh _) _).set eg _,cI,rfl,?_,by have:=hlen;simp only [aqB] at this;omega⟩;have Yk:=MM (MM O (n:=h.next) (by have:=mh.lt;have:=eY.next;omega) (.bz [cI] 0 false)) (n:=U.next) (by have:=eY.next;omega) (.bz [.int .i64 0,.int .i64 0] 0 false);exact (GA Yk (by simp only [aqB] at hlen;omega)).fQ fun b q=>aqn OH.next q
     | cons al rest=>
       obtain ⟨aG,_⟩:=C.here;have f0:((i:Int) < (W.length:Int))=True:=aqO (by omega);rw [aqr (by simp)] at aa;simp only [b5,b6,eh,cK,sx,C.at_.g,RL,f0,↓ag,ak,simprocAttr];have JW:tc s.length (bD s.length (rX W)) m (al::rest)≠.error b3:=fun q=>by rw [q] at aa;exact dK aa.symm
       have aeB:fO.next<g.next:=by omega
       refine ch (ab9 (vL W s.length fO.next (rX W)) m (al::rest) g v i C JW) ?_ ?_
       rotate_left
       . rintro x bR ⟨e,he,rfl,m6,_,_,_,_,_,hA⟩;simp only [cg,bx,eJ,kq,cd,b5,b6,eh,cK,sx,↓ag,ak,simprocAttr];refine (Oa e (mT.mod m6 (nn (by have:=eY.next;omega))) (mh.mod m6 (nn (by omega))) ng).mono ?_;rintro u ab ⟨rfl,r2,E,rfl⟩;have A8:=(((mT.mod m6 (nn (by omega))).ext E).put [.cn]).set (m:=U.next) ng (.bz [.int .i64 e.1,.int .i64 (e.2:Nat)] 0 false);have A9:=(((mh.mod m6 (nn (by omega))).ext E).set (m:=h.next) ng.symm (.bz [.cn] 0 false)).put [.int .i64 e.1,.int .i64 (e.2:Nat)];simp only [A8.g,A9.g,b5,b6,NV,NW,bx,eJ,cd,↓ag,ak,simprocAttr];rw [he] at aa;rw [<-aa];exact ⟨(((X.oP m6 (fun b q=>by rw [show b=aE fO.next from q,dj];have:=yH.next;omega)).trans E).set (aqh _) _).set eg _,rfl,fun qG nb=>by cases nb;exact hA⟩
       rintro x bR ⟨p,bc,Ds,i1,rd,rfl,oi,m6,dq⟩;rw [rd] at aa;simp only [bt] at aa;have NJ:=R1 rd;have cX:=ab' NJ;obtain ⟨b0,ca,EC,TM⟩:=ab7 NJ;have apt:=C.Hp;have nZ:=oi.one;obtain ⟨cv,fX,e',yI⟩:=fw bR er (vcs p Ds);have DT:=oi.ext e';have eV:=dq.ext e';simp only [nZ.1,nZ.2.1,nZ.2.2,fX,yI.g,b5,b6,eh,cK,sx,↓ag,ak,simprocAttr];refine ch (acg eV DT (by omega) TM (by have q:=C.pl (k:=271) (.inr rfl);rw [EC] at q;exact q)) ?_ ?_
       rotate_left
       . rintro x fR ⟨aY,e,he,rfl,m8,_,_,_,_,_,hA⟩;cases he;simp only [cg,bx,eJ,kq,cd,b5,b6,eh,cK,sx,↓ag,ak,simprocAttr];have CI:Mod (cb fO.next) g fR:=m6.trans ((e'.mod _).trans m8);refine (Oa (271,b0.pos) (mT.mod CI (nn (by omega))) (mh.mod CI (nn (by omega))) ng).mono ?_;rintro u ab ⟨rfl,r2,E,rfl⟩;have A8:=(((mT.mod CI (nn (by omega))).ext E).put [.cn]).set (m:=U.next) ng (.bz [.int .i64 271,.int .i64 (b0.pos:Nat)] 0 false);have A9:=(((mh.mod CI (nn (by omega))).ext E).set (m:=h.next) ng.symm (.bz [.cn] 0 false)).put [.int .i64 271,.int .i64 (b0.pos:Nat)];simp only [A8.g,A9.g,b5,b6,NV,NW,bx,eJ,cd,↓ag,ak,simprocAttr];rw [aqw aY,TM] at aa;rw [<-aa];exact ⟨(((X.oP CI (fun b q=>by rw [show b=aE fO.next from q,dj];have:=yH.next;omega)).trans E).set (aqh _) _).set eg _,by simp,fun qG nb=>by cases nb;exact hA⟩
       rintro x fR ⟨aY,lH⟩;have gr:=eV.ext lH;rw [aqr (by omega)] at aa;simp only [b5,b6,eh,cK,sx,↓ag,ak,simprocAttr];refine ch (ke gr Wu) ?_ ?_
       rotate_left
       . rintro x hZ ⟨e,he,rfl,m9,_,_,_,_,_,hA⟩;simp only [cg,bx,eJ,kq,cd,b5,b6,eh,cK,sx,↓ag,ak,simprocAttr];have CJ:Mod (cb fO.next) g hZ:=m6.trans ((e'.mod _).trans ((lH.mod _).trans m9));refine (Oa e (mT.mod CJ (nn (by omega))) (mh.mod CJ (nn (by omega))) ng).mono ?_;rintro u ab ⟨rfl,r2,E,rfl⟩;have A8:=(((mT.mod CJ (nn (by omega))).ext E).put [.cn]).set (m:=U.next) ng (.bz [.int .i64 e.1,.int .i64 (e.2:Nat)] 0 false);have A9:=(((mh.mod CJ (nn (by omega))).ext E).set (m:=h.next) ng.symm (.bz [.cn] 0 false)).put [.int .i64 e.1,.int .i64 (e.2:Nat)];simp only [A8.g,A9.g,b5,b6,NV,NW,bx,eJ,cd,↓ag,ak,simprocAttr];rw [he] at aa;rw [<-aa];exact ⟨(((X.oP CJ (fun b q=>by rw [show b=aE fO.next from q,dj];have:=yH.next;omega)).trans E).set (aqh _) _).set eg _,rfl,fun qG nb=>by cases nb;exact hA⟩
       rintro x hZ ⟨br,ly,m9,i9,hU⟩;rw [ly] at aa;simp only [bt] at aa;have Yr:=DT.ext lH;have Pl:=Yr.mod m9 aeB;have uy:=(yI.ext lH).mod m9 (bN (by have:=m6.next;omega));have Pg:=mM (((mM O m6 (by omega) (by omega)).ext e').ext lH) m9 (by omega) (by omega);have YG:Ext h hZ:=(((X.oP m6 (fun b q=>by rw [show b=aE fO.next from q,dj];have:=yH.next;omega)).trans e').trans lH).oP m9 (fun b q=>by rw [show b=aE fO.next from q,dj];have:=yH.next;omega);have AX:=((mT.mod m6 (nn (by omega))).ext e' |>.ext lH).mod m9 (nn (by omega));have X5:=((mh.mod m6 (nn (by omega))).ext e' |>.ext lH).mod m9 (nn (by omega));have Tt:g.next<=hZ.next:=aqn m6.next (aqn e'.next (aqn lH.next m9.next))
       obtain ⟨ej,nD,b,off,ox,al2,F',al3,ia,kk,HZ,m11,aoK⟩:=alb Pg Pl (ql O (aqh _)) (fun _ _ _=>trivial) Ve Tt (by omega);have aiW:ju cI=some (.int .i64 l.length):=by have:=Pg.len;rwa [aqJ] at this
       have L_:∀n,n<j4.next->¬cI.bd (aE n):=fun n aL q=>by have:=O.base q;rw [dj] at this;omega
       have apf:fO.next<j4.next:=bW
       have ao':g.next<=bR.next:=m6.next
       have n6:¬cI.bd (aE bR.next):=fun q=>by have:=ql O (aqh _) _ q;rw [dj] at this;omega
       have O_:=AX.mod F' (L_ _ (by omega));have Pa:=AX.mod m11 (L_ _ (by omega));have X6:=X5.mod m11 (L_ _ (by omega));have OQ:=uy.mod F' n6;have YF:Ext h ox:=YG.oP m11 fun b q=>aqn OH.next (O.base q)
       have Ov:=HZ.one;have EE:(hZ.next=h.next)=False:=aqx (by have:=AX.lt;omega);have SA:(hZ.next=bR.next)=False:=aqx (by have:=uy.lt;omega);have pZ:j4.next<=cM b:=HZ.base ia
       have E5:b≠aE h.next:=fun z=>by rw [z,dj] at pZ;omega
       have H4:=Pl.one;simp only [b5,b6,eh,cK,sx,ag1,AX.g,uy.g,aiW,al2,al3,kk,Pa.g,O_.g,OQ.g,EE,SA,Ov.1,Ov.2.1,Ov.2.2,H4.1,H4.2.1,H4.2.2,↓ag,ak,simprocAttr];rw [ahJ];unfold D2;refine ⟨⟨?_,?_⟩,?_⟩
       . simp only [v7,aqp,aqB,Nat.reduceAdd,Nat.reduceSub,aq6,aqz,b5,↓ag,ak,simprocAttr];exact E5
       . simp only [List.length,List.take,Nat.reduceSub,Nat.reduceAdd,AX.g,uy.g,O_.g,OQ.g,b5,b6,eh,cK,sx,EE,SA,va,↓ag,ak,simprocAttr]
       simp only [b5,b6,eh,cK,sx,↓ag,ak,simprocAttr];have qx:bc.length < (al::rest).length:=by have:=r3 NJ;simp only [fP,aqB,aqp] at this ⊢;have:=GL p;omega
       have wb:=Gb ly;have lC:=cD.own hU m11 fun b q=>O.base q;have wu:dY W s.length fO.next (ox.set (aE h.next) (.bz [ej] 0 false)) 0 br v i9:=
        ⟨lC.at_.set (by omega) _,lC.e6.mod ((Mod.refl (fun b=>b=aE h.next) ox).set (fun _=>rfl) _) (fun b q z=>by
          have:=S.base q;rw [show b=aE h.next from z,dj] at this;have:=bh.next
          omega),lC.ap,lC.le,lC.eq,lC.uQ,lC.wX,lC.jy,lC.num⟩
       refine ⟨⟨YF.set (aqh _) _,X6.set ng.symm _,aqn Ve (aqn Tt m11.next),m,l++[p],ej,br,i9,Pa.put _,MM HZ (by omega) _,wu,by rw [aqC];simp only [aqp,aqB] at *;omega,aa⟩,?_⟩;rw [kX C,kX wu];omega
inductive kL (S:Nat->Prop):Nat->aR->Prop
 | mk {aZ a:Nat} {k n:Int} {s:List UInt8} {l:List aR}:aZ<=a->S a->(∀c ∈ l,kL S a c)->kL S aZ (.mk k n (a:Nat) s l)
theorem kL.inv {S:Nat->Prop} {aZ:Nat} {t:aR} (h:kL S aZ t):∃a:Nat,t.a=a/\aZ<=a/\S a/\∀c ∈ t.l,kL S a c:=by
 cases h with
 | mk U ad aC=>exact ⟨_,rfl,U,ad,aC⟩
abbrev Zm (l:List Bool):Nat->Prop:=fun a=>l[a]? =some true
theorem P0 (pM:V) (hX:List Bool):∀(N:Nat) (t:aR),t.size<=N->∀(aZ:Nat) (af:List V) (h:ae),kL (Zm hX) aZ t->fD h 1 pM hX.length (hX.map V.bool)->hX.length<=100000->dX Any h t.enc af->e9 Tryz.prog 14 [.agg af,.int .i64 aZ,pM] h fun x ab=>x=.bool true/\Ext h ab
 | 0,t,az,_,_,_,_,_,_,_=>by have:=GL t;omega
 | N+1,t,az,aZ,af,h,ah,E2,gU,H=>by
   obtain ⟨bB,rfl,L,_⟩:=aR.open H;obtain ⟨a,a_,bM,gp,ae5⟩:=ah.inv;have halt:a<hX.length:=(List.getElem?_eq_some_iff.1 gp).1;have ol:=L.one;have aD:=L.len;have hle:=L.le;rw [List.length_map] at aD hle;refine aac.z rfl (dw ?_);unfold Qr;obtain ⟨U,an,aM,bA⟩:=gd h [.int .i64 t.k,.int .i64 t.n,.int .i64 t.a,.str t.s,bB];rw [a_] at an bA;have Tf:fD U 1 pM hX.length (hX.map V.bool):=E2.mod (aM.mod (fun _=>False)) (fun _ _ q=>q);obtain ⟨b,off,cc,cy⟩:=Tf.fy (k:=.i64) halt;have eD:=cy.hc (i:=a * 1) (by simp;omega);have Jx:(hX.map V.bool)[a * 1]'(by simp;omega)=.bool true:=by
    rw [arJ];have:hX[a * 1]'(by omega)=true:=by have:=(aqD.1 gp).2;simpa using this
    rw [this]
   rw [Jx] at eD;have f0:((a:Int) < (aZ:Int))=False:=aqx (by omega);have f1:((hX.length:Int)<=(a:Int))=False:=aqx (by omega);have aiz:ju pM=some (.int .i64 hX.length):=E2.len;simp only [ol.1,ol.2.1,ol.2.2,an,bA.g,aD,a_,aiz,f0,f1,cc,eD,↓ag,ak,simprocAttr];refine iV (fun r g=>r 2=pM/\r 3=.ptr (aE h.next) 0/\∃i:Nat,r 7=.int .i64 i/\i<=t.l.length/\Ext U g) (fun r g=>t.l.length - (r 7).toN) ?_ ?_
   . exact ⟨by simp only [↓ag,dv,simprocAttr],by simp only [↓ag,dv,simprocAttr],0,by simp only [↓ag,dv,simprocAttr]<;>rfl,by omega,Ext.refl U⟩
   rintro r g ⟨b5,b6,i,eM,aG,E⟩;unfold Qx;have A:=bA.ext E;have nA:=L.ext (aM.trans E);by_cases a':i<t.l.length
   . have g0:((i:Int) < (t.l.length:Int))=True:=aqO (by omega);obtain ⟨b,off,wl,fy,X,s3,ld⟩:=aR.FU nA (k:=.i64) a';have vu:=ld g (Ext.refl g);have l2:=s3.one;have jA:=rA a' (by unfold top at hle;omega);have cX:=No (t:=t) (aq1 a');simp only [b5,b6,eM,A.g,aD,g0,fy,vu,↓ag,ak,simprocAttr];refine cT (P0 pM hX N t.l[i] (by omega) a _ g (ae5 _ (aq1 a')) (Tf.mod (E.mod (fun _=>False)) (fun _ _ q=>q)) gU X) ?_;rintro x g2 ⟨rfl,bh⟩;have g':=A.ext bh;have vv:=ld g2 bh;simp only [b5,b6,eM,A.g,g'.g,aD,fy,vu,vv,jA,↓ag,ak,simprocAttr];exact ⟨⟨i+1,rfl,a',E.trans bh⟩,by omega⟩
   . have g0:((i:Int) < (t.l.length:Int))=False:=aqx (by omega);simp only [b5,b6,eM,A.g,aD,g0,↓ag,ak,simprocAttr];exact aM.trans E
set_option maxRecDepth 100000 in
theorem ac6:yx ctx 100000 21 [.str [108,101,116,32,120,32,61,32,49,32,60,32,50,32,60,32,51,59,59],.int .i64 270,.int .i64 14]=true:=by kernel_rfl
set_option maxRecDepth 100000 in
theorem Zs:yx ctx 100000 7 []=true:=by kernel_rfl
def Eh:Ctx:=⟨Tryz.prog,fun f=>bif Nat.beq f 7 then some (I4 [[]]) else bif Nat.beq f 21 then some (I4 [[.str [108,101,116,32,120,32,61,32,49,32,60,32,50,32,60,32,51,59,59],.int .i64 270,.int .i64 14]]) else ctx.C' f,ctx.ext⟩
theorem alS:o3 Eh:=by
 refine ⟨fun f p args h v ab ai he=>?_,Ad.2⟩;simp only [Eh,iE] at ai;by_cases cv:f=7
 . rw [aqw cv] at ai;cases ai;subst cv;exact RM (C:=ctx) follows rj Ad (by decide) (by kernel_rfl) (fun l aD=>by simp only [aqV] at aD;subst aD;exact ⟨rfl,_,Zs⟩) he
 . rw [aqr cv] at ai;by_cases zi:f=21
   . rw [aqw zi] at ai;cases ai;subst zi;exact RM (C:=ctx) follows rj Ad (by decide) (by kernel_rfl) (fun l aD=>by simp only [aqV] at aD;subst aD;exact ⟨rfl,_,ac6⟩) he
   . rw [aqr zi] at ai;exact Ad.1 f p args h v ab ai he
set_option maxRecDepth 100000 in
theorem aix:yx Eh 100000 12 []=true:=by kernel_rfl
theorem acJ (a b a1 b2:Int):(fK.other .eql 30).run Tryz.prog (.agg [.int .i64 a,.int .i64 b]) (.agg [.int .i64 a1,.int .i64 b2])=some (.bool (decide (a=a1)&&decide (b=b2))):=by
 have h:(fK.other .eql 30).run Tryz.prog (.agg [.int .i64 a,.int .i64 b]) (.agg [.int .i64 a1,.int .i64 b2])=
  (match (bif Int.hY a a1 then (bif Int.hY b b2 then some true else some false) else some false) with
    | some b=>some (V.bool b)
    | none=>none):=by kernel_rfl
 rw [h];simp only [Ew];by_cases U:a=a1<;>by_cases ad:b=b2<;>simp [U,ad]
theorem aiw (h:ae):gm Tryz.prog 12 [] h (.bool true) h:=
 abz (by kernel_rfl) (fun E x q=>by subst q;simp [Rel]) ⟨_,Tryz.func12,by kernel_rfl⟩ (fun w hw=>anM (C:=Eh) follows rj hw alS (by kernel_rfl) (by kernel_rfl) aix) h
structure Pr (s:List UInt8):Prop where
 lex:∀e,hp s=.error e->l4 s=.error e
 Zx:∀W l,hp s=.ok W->l4 s=.ok l->∀t ∈ l,∃a:Nat,t.a=a/\kL (fun a=>∃w ∈ W,w.pos=a) a t
 up:∀l,l4 s=.ok l->l.Pairwise fun a b=>a.a<b.a
 mo:∀l,l4 s=.ok l->wU l=0
 size:∀l,l4 s=.ok l->fP l<=1000000000
theorem kL.mono {S DV:Nat->Prop} (gp:∀a,S a->DV a) {aZ:Nat} {t:aR} (h:kL S aZ t):kL DV aZ t:=by
 induction h with
 | mk U ad _ aT=>exact .mk U (gp _ ad) aT
theorem alK (W:List aK) (ao i:Nat):(∃w ∈ W,w.pos=c2 ao (W.drop i))\/c2 ao (W.drop i)=ao:=by
 cases aY:W.drop i with
 | nil=>exact .inr rfl
 | cons w r=>exact .inl ⟨w,List.mem_of_mem_drop (i:=i) (by rw [aY];exact aq8 ..),rfl⟩
theorem alL (s:List UInt8) (P:s.length<=3000->Pr s) (h:ae):e9 Tryz.prog 5 [.str s] h fun x ab=>x=.bool true:=by
 refine aaQ.z rfl (dw ?_);unfold c5;simp only [↓ag,ak,simprocAttr];refine eo (aiw h) ?_;by_cases B1:(3000:Int) < (s.length:Int)
 . simp only [B1,↓ag,ak,simprocAttr]
 have P:=P (by omega);have wl:IntKind.i64.wrap ((s.length:Int)+1)=((s.length+1:Nat):Int):=by rw [wrap_i64 (by omega) (by omega)];rfl
 have tt:=UX (h:=h) (n:=s.length+1) (z:=.bool false) (k:=.i64) (bG:=.i64) (by omega);obtain ⟨U,an⟩:∃U,h.new (.bz (List.replicate (s.length+1) (.bool false)) 0 false)=U:=⟨_,rfl⟩;rw [an] at tt;have aM:Ext h U:=by rw [<-an];exact (Ext.refl h).new _
 have H7:fe h.next U 1 (.slice (aE h.next) 0 (s.length+1) (s.length+1)) (s.length+1) ((List.replicate (s.length+1) false).map V.bool):=by rw [List.map_replicate,<-an];exact ⟨by simp,rfl,by rw [dj];exact aqh _,kf (by rw [jK];omega),aqh _,by unfold top;omega,_,0,false,ti _,by simp,by simp⟩
 have mz:h.next<U.next:=by rw [<-an,jK];omega
 generalize E2:V.slice (aE h.next) 0 (s.length+1) (s.length+1)=pM at tt H7;have Bc:∀b,pM.bd b->b=aE h.next:=fun b q=>by rw [<-E2] at q;exact q
 have ID:=H7.v.one;simp only [B1,wl,tt,ID.1,ID.2.1,ID.2.2,↓ag,ak,simprocAttr];refine cT (F3 s U) ?_;rintro x ad ⟨bh,ay⟩;have kN:=H7.ext bh;obtain ⟨W,cI,f1,f2,rfl,wG,nb⟩:∃W cI,∃f1 f2:Int,x=.tuple [cI,.agg [.int .i64 f1,.int .i64 f2]]/\fe U.next ad 4 cI W.length (hj W)/\((hp s=.ok W/\f1=0/\f2=0)\/∃e:Int × Nat,hp s=.error e/\W=[]/\f1=e.1/\f2=(e.2:Nat)):=by
  cases aD:hp s with
  | error e=>rw [aD] at ay;exact ⟨[],.cn,e.1,(e.2:Nat),ay,⟨rfl,rfl⟩,.inr ⟨e,rfl,rfl,rfl,rfl⟩⟩
  | ok W=>rw [aD] at ay;obtain ⟨v,rfl,S⟩:=ay;exact ⟨W,v,0,0,rfl,S,.inl ⟨rfl,rfl,rfl⟩⟩
 have aeo:W.length<=65536/\∀w ∈ W,w.pos<s.length:=by
  rcases nb with ⟨aD,_⟩ | ⟨e,_,rfl,_⟩
  . obtain ⟨g1,g2,g3,_⟩:=LN aD;exact ⟨by omega,fun w hw=>(g3 w hw).1⟩
  . exact ⟨by simp,fun w hw=>by cases hw⟩
 obtain ⟨aC,aH,cu,fT⟩:=fw ad [.int .i64 0,.int .i64 0] [.int .i64 f1,.int .i64 f2];have Yz:=kN.ext cu;have YB:=wG.ext cu;have lw:=wG.v.one;have US:=wG.v.len;have rB:Ext h aC:=(aM.trans bh).trans cu;simp only [aH,lw.1,lw.2.1,lw.2.2,↓ag,ak,simprocAttr];refine iV (fun r g=>r 0=.str s/\r 3=.bool true/\r 4=pM/\r 5=cI/\r 6=.ptr (aE ad.next) 0/\Ext h g/\Has g ad.next [.int .i64 f1,.int .i64 f2]/\∃(i:Nat) (hX:List Bool),r 7=.int .i64 i/\i<=W.length/\hX.length=s.length+1/\(∀w ∈ W.take i,hX[w.pos]? =some true)/\fe h.next g 1 pM (s.length+1) (hX.map V.bool)/\fe U.next g 4 cI W.length (hj W)) (fun r g=>W.length - (r 7).toN) ?_ ?_
 . exact ⟨by simp only [↓ag,dv,simprocAttr],by simp only [↓ag,dv,simprocAttr],by simp only [↓ag,dv,simprocAttr],by simp only [↓ag,dv,simprocAttr],by simp only [↓ag,dv,simprocAttr],rB,fT,0,List.replicate (s.length+1) false,by simp only [↓ag,dv,simprocAttr]<;>rfl,by omega,by simp,by simp,Yz,YB⟩
 rintro r g ⟨bZ,b6,eh,cK,eH,X,A,i,hX,eM,aG,gU,Fk,S,wG⟩;unfold Rj;by_cases a':i<W.length
 . have g0:((i:Int) < (W.length:Int))=True:=aqO (by omega);obtain ⟨b,off,cc,cy⟩:=wG.v.fy (k:=.i64) a';have apk:(hj W).length=W.length * 4:=Oy W;have eD:=cy.cell (i:=i * 4) (j:=2) (Ox a') (by omega) (by omega);have zw:=aeo.2 _ (aq1 a');have jN:gW (g.get b) (off+i * 4+2)=some (.int .i64 W[i].pos):=eD;have mm:((W[i].pos:Int)<0)=False:=aqx (by omega);have bS:((s.length:Int)<=(W[i].pos:Int))=False:=aqx (by omega);have jA:=rA a' (by omega);obtain ⟨c6,Mm,r2,t1,t2,t3,t4,t5⟩:=S.put (k:=.i64) (i:=W[i].pos) (by omega) (y:=.bool true) rfl rfl;have Fp:hC (hX.map V.bool) (W[i].pos * 1) (V.bool true).cells=(hX.set W[i].pos true).map V.bool:=by
    rw [show (V.bool true).cells=[V.bool true] from rfl,WJ _ _ _ (by rw [aqJ];omega),asj,List.map_set]
   rw [Fp] at t4;simp only [bZ,b6,eh,cK,eH,eM,US,g0,cc,jN,mm,bS,t1,t3,jA,↓ag,ak,simprocAttr];refine ⟨⟨X.oP t5 fun q z=>by rw [Bc q z,dj];exact aqh _,A.mod t5 fun z=>by have:=Bc _ z;rw [ns] at this;have:=bh.next;omega,i+1,hX.set W[i].pos true,rfl,a',by rw [List.length_set];exact gU,?_,t4,wG.mod t5 fun q y z=>by have:=wG.base y;rw [Bc q z,dj] at this;omega⟩,by omega⟩;intro w hw;rw [List.take_succ_eq_append_getElem a'] at hw;rw [List.getElem?_set];rcases arH.1 hw with hw | hw
   . split
     . rw [aqw (by omega)]
     . exact Fk w hw
   . rw [aqV] at hw;subst hw;rw [aqw rfl,aqw (by omega)]
 . have g0:((i:Int) < (W.length:Int))=False:=aqx (by omega);rw [arY (by omega)] at Fk;obtain ⟨c6,Mm,r2,t1,t2,t3,t4,t5⟩:=S.put (k:=.i64) (i:=s.length) (by omega) (y:=.bool true) rfl rfl;have Fp:hC (hX.map V.bool) (s.length * 1) (V.bool true).cells=(hX.set s.length true).map V.bool:=by
    rw [show (V.bool true).cells=[V.bool true] from rfl,WJ _ _ _ (by rw [aqJ];omega),asj,List.map_set]
   rw [Fp] at t4;have A7:Ext h r2:=X.oP t5 fun q z=>by rw [Bc q z,dj];exact aqh _
   have fB:Has r2 ad.next [.int .i64 f1,.int .i64 f2]:=A.mod t5 fun z=>by have:=Bc _ z;rw [ns] at this;have:=bh.next;omega
   have La:∀a,((∃w ∈ W,w.pos=a)\/a=s.length)->(hX.set s.length true)[a]? =some true:=by
    rintro a (⟨w,hw,rfl⟩ | rfl)
    . rw [List.getElem?_set]
      split
      . rw [aqw (by omega)]
      . exact Fk w hw
    . rw [List.getElem?_set,aqw rfl,aqw (by omega)]
   have E1:(hX.set s.length true).length=s.length+1:=by rw [List.length_set];exact gU
   clear Fp Fk;generalize hX.set s.length true=hX at La E1 t4;have aoU:(s.length:Int)=((s.length:Nat):Int):=rfl;simp only [bZ,b6,eh,cK,eH,eM,US,g0,t1,t3,↓ag,ak,simprocAttr];refine cT (als s r2) ?_;rintro x g2 ⟨dA,ay⟩;have g':=fB.ext dA;have kN:=t4.ext dA;have j7:=A7.trans dA;cases ai:l4 s with
   | error e=>
     rw [ai] at ay;obtain ⟨rfl,hA⟩:=ay;obtain ⟨g3,cE,eY,jn⟩:=fw g2 [.int .i64 0,.int .i64 0] [.int .i64 e.1,.int .i64 (e.2:Nat)];have qA:=g'.ext eY;have H8:=kN.ext eY;rcases nb with ⟨aD,rfl,rfl⟩ | ⟨dP,aD,rfl,rfl,rfl⟩
     . obtain ⟨he,j,bU⟩:=hA W aD;have gP:hX[e.2]? =some true:=La _ (by rw [bU];exact alK W s.length j);have a':e.2<hX.length:=(aqD.1 gP).1;obtain ⟨hv,apL,qx,wb⟩:=H8.v.fy (k:=.i64) (i:=e.2) (by omega);have Dr:=wb.hc (i:=e.2 * 1) (by simp;omega);have W9:(hX.map V.bool)[e.2 * 1]'(by simp;omega)=.bool true:=by
        rw [arJ];have:hX[e.2 * 1]'(by omega)=true:=by have:=(aqD.1 gP).2;simpa using this
        rw [this]
       rw [W9] at Dr;have f0:(e.1=0)=False:=aqx (by omega);have f1:(0<=(e.2:Int))=True:=aqO (by omega);have f2:((e.2:Int)<=(s.length:Int))=True:=aqO (by omega);rcases he with he | he
       . rw [he] at cE jn;simp only [cE,jn.g,qA.g,bZ,b6,eh,cK,eH,f1,f2,he,qx,Dr,↓ag,ak,simprocAttr]
       . rw [he] at cE jn;simp only [cE,jn.g,qA.g,bZ,b6,eh,cK,eH,f1,f2,he,qx,Dr,↓ag,ak,simprocAttr]
     . have he:=LM aD;have Kk:e=dP:=by have:=P.lex dP aD;rw [ai] at this;cases this;rfl
       subst Kk;have f0:(e.1=0)=False:=aqx (by omega);simp only [cE,jn.g,qA.g,bZ,b6,eh,cK,eH,f0,acJ,↓ag,ak,simprocAttr]
   | ok l=>
     rw [ai] at ay;obtain ⟨v,rfl,L,apj⟩:=ay;obtain ⟨g3,cE,eY,jn⟩:=fw g2 [.int .i64 0,.int .i64 0] [.int .i64 0,.int .i64 0];have qA:=g'.ext eY;have H8:=kN.ext eY;have rK:=L.ext eY;have ol:=L.one;have hle:=L.le;have jr:=L.len;rw [aqJ] at hle jr;rcases nb with ⟨aD,rfl,rfl⟩ | ⟨dP,aD,rfl,rfl,rfl⟩
     rotate_left
     . have:=P.lex dP aD;rw [ai] at this;cases this
     have Tg:=P.Zx W l aD ai;have afT:=P.up l ai;have aeD:=P.mo l ai;have cX:=P.size l ai;simp only [cE,jn.g,qA.g,ol.1,ol.2.1,ol.2.2,bZ,b6,eh,cK,eH,↓ag,ak,simprocAttr];refine iV (fun r k=>r 3=.bool true/\r 4=pM/\r 8=v/\Ext g3 k/\∃i:Nat,r 10=.int .i64 i/\i<=l.length) (fun r k=>l.length - (r 10).toN) ?_ ?_
     . exact ⟨by simp only [b6,↓ag,dv,simprocAttr],by simp only [eh,↓ag,dv,simprocAttr],by simp only [↓ag,dv,simprocAttr],Ext.refl _,0,by simp only [↓ag,dv,simprocAttr]<;>rfl,by omega⟩
     clear bZ b6 eh cK eH eM aG;rintro r k ⟨b6,eh,e5,E,i,kl,aG⟩;unfold Rk;have nA:=rK.ext E;have YA:=H8.ext E;by_cases a':i<l.length
     . have g0:((i:Int) < (l.length:Int))=True:=aqO (by omega);obtain ⟨b,off,u,fy,Z,hu,iH,hc⟩:=nA.at (k:=.i64) (i:=i) (by rw [aqJ];exact a');rw [arJ] at Z;obtain ⟨wl,rfl,aoC⟩:=Jc Z;obtain ⟨a,a_,ah⟩:=Tg l[i] (aq1 a');have FX:=iH k (Ext.refl k);have vu:gW (k.get b) (off+i * 5+2)=some (.int .i64 a):=by rw [hc k (Ext.refl k) 2 (by decide)];show some (V.int .i64 l[i].a)=_;rw [a_]
       have jA:=rA a' (by omega);have apx:=C_ (aq1 a');simp only [b6,eh,e5,kl,jr,g0,fy,FX,vu,↓ag,ak,simprocAttr];refine cT (P0 pM hX _ l[i] (aqh _) a _ k (ah.mono fun a q=>La a (.inl q)) (by rw [E1];exact YA.v) (by omega) (Z.fQ fun _ _=>trivial)) ?_;rintro x dF ⟨rfl,b1⟩;have Uz:=iH dF b1;have vv:gW (dF.get b) (off+i * 5+2)=some (.int .i64 a):=by rw [hc dF b1 2 (by decide)];show some (V.int .i64 l[i].a)=_;rw [a_]
       by_cases p1:i=0
       . subst p1;simp only [b6,eh,e5,kl,jr,g0,fy,FX,vu,Uz,vv,jA,↓ag,ak,simprocAttr];have b0:IntKind.i64.wrap 1=((1:Nat):Int):=by rw [wrap_i64 (by omega) (by omega)];rfl
         rw [b0];exact ⟨by simpa using FX,⟨E.trans b1,1,rfl,a'⟩,by omega⟩
       . have bU:i-1<l.length:=by omega
         obtain ⟨b2,nq,eI,aga,PA,ie,apu,aiP⟩:=nA.at (k:=.i64) (i:=i-1) (by rw [aqJ];exact bU);rw [arJ] at PA;obtain ⟨ap6,rfl,aoD⟩:=Jc PA;obtain ⟨a1,aep,_⟩:=Tg l[i-1] (aq1 bU);have p2:a1<a:=by have:=List.pairwise_iff_getElem.1 afT (i-1) i bU a' (by omega);omega
         have aiQ:gW (dF.get b2) (nq + (i-1) * 5+2)=some (.int .i64 a1):=by rw [aiP dF b1 2 (by decide)];show some (V.int .i64 l[i-1].a)=_;rw [aep]
         have f0:((0:Int) < (i:Int))=True:=aqO (by omega);have f1:((a:Int)<=(a1:Int))=False:=aqx (by omega);have wd:IntKind.i64.wrap ((i:Int)-1)=((i-1:Nat):Int):=by rw [wrap_i64 (by omega) (by omega)];omega
         simp only [b6,eh,e5,kl,jr,g0,fy,FX,vu,Uz,vv,aga,aiQ,f0,f1,wd,jA,↓ag,ak,simprocAttr];exact ⟨⟨E.trans b1,i+1,rfl,a'⟩,by omega⟩
     . have g0:((i:Int) < (l.length:Int))=False:=aqx (by omega);simp only [b6,eh,e5,kl,jr,g0,↓ag,ak,simprocAttr];refine cT (abw l cX v k (nA.fQ fun _ _=>trivial)) ?_;rintro x dF ⟨rfl,b1⟩;simp only [b6,eh,e5,kl,aeD,↓ag,ak,simprocAttr]
section
variable {S:Nat->Prop} {ao:Nat}
def sZ (S:Nat->Prop) (ao:Nat):List aK->Prop
 | []=>True
 | w::r=>S w.pos/\w.pos<c2 ao r/\sZ S ao r
theorem kL.low {aZ CG:Nat} {t:aR} (h:kL S aZ t) (aD:CG<=aZ):kL S CG t:=by
 cases h with
 | mk U ad aC=>exact .mk (aqn aD U) ad aC
def k8 (S:Nat->Prop) (aZ aG:Nat) (t:aR):Prop:=∃a:Nat,t.a=a/\a<aG/\kL S aZ t
theorem k8.wide {aZ CG aG gO:Nat} {t:aR} (h:k8 S aZ aG t) (U:CG<=aZ) (ad:aG<=gO):k8 S CG gO t:=by obtain ⟨a,e,q,b⟩:=h;exact ⟨a,e,ar0 q ad,b.low U⟩
theorem fS {aZ aG gO p:Nat} {k n:Int} {s:List UInt8} {l:List aR} (gp:S p) (U:aZ<=p) (ad:p<aG) (aD:∀c ∈ l,k8 S p gO c):k8 S aZ aG (.mk k n (p:Nat) s l):=
 ⟨p,rfl,ad,.mk U gp fun c aq=>(aD c aq).choose_spec.2.2⟩
theorem k8.self {aZ aG:Nat} {t:aR} (h:k8 S aZ aG t):∃a:Nat,t.a=a/\S a/\aZ<=a/\a<aG/\k8 S a aG t:=by
 obtain ⟨a,e,q,b⟩:=h;obtain ⟨a1,dP,U,ad,aC⟩:=b.inv;have:a=a1:=by omega
 subst this;refine ⟨a,e,ad,U,q,a,e,q,?_⟩;cases b with
 | mk g1 g2 g3=>
   simp only [aR.a] at e;have:_=a:=Int.ofNat.inj e;subst this;exact .mk (aqh _) g2 g3
theorem ok_two {aZ m aG b4:Nat} {k n:Int} {s:List UInt8} {a b:aR} (A:k8 S aZ m a) (wq:k8 S b4 aG b) (U:m<=b4) (ad:m<=aG):k8 S aZ aG (.mk k n a.a s [a,b]):=by
 obtain ⟨p,e,gp,an,av,fB⟩:=A.self;rw [e];refine fS gp an (by omega) (gO:=aG) fun c aq=>?_;simp only [aqN,List.not_mem_nil,or_false] at aq;rcases aq with rfl | rfl
 . exact fB.wide (aqh _) ad
 . exact wq.wide (by omega) (aqh _)
theorem akn {aZ m aG:Nat} {k n:Int} {s:List UInt8} {a:aR} (A:k8 S aZ m a) (ad:m<=aG):k8 S aZ aG (.mk k n a.a s [a]):=by obtain ⟨p,e,gp,an,av,fB⟩:=A.self;rw [e];refine fS gp an (by omega) (gO:=aG) fun c aq=>?_;rw [aqV] at aq;subst aq;exact fB.wide (aqh _) ad
end
def dy (S:Nat->Prop) (aZ p:Nat):o0->Prop
 | .fn n | .lt n | .iD _ n=>S n/\aZ<=n/\n<p
 | _=>True
def Pm (S:Nat->Prop) (ao:Nat) (au:o0) (acc:List aR) (ws:List aK) (l:List aR) (bw:List aK):Prop:=
 sZ S ao ws->sZ S ao bw/\c2 ao ws<=c2 ao bw/\∀aZ,aZ<=c2 ao ws->dy S aZ (c2 ao ws) au->(∀t ∈ acc,k8 S aZ (c2 ao ws) t)->∀t ∈ l,k8 S aZ (c2 ao bw) t
theorem uO {P:aR->Prop} {t:aR}:(∀x ∈ [t],P x)↔P t:=by simp
theorem PC {P:aR->Prop}:(∀x ∈ ([]:List aR),P x)↔True:=by simp
theorem Ig {P:aR->Prop} {l:List aR} {t:aR}:(∀x ∈ l++[t],P x)↔(∀x ∈ l,P x)/\P t:=by simp only [arH,aqV];exact ⟨fun h=>⟨fun x ay=>h x (.inl ay),h t (.inr rfl)⟩,fun h x ay=>ay.elim (h.1 x) fun e=>e ▸ h.2⟩
theorem pK {P:aR->Prop} {l:List aR} {t:aR}:(∀x ∈ t::l,P x)↔P t/\∀x ∈ l,P x:=by simp
theorem alJ (ao:Nat) (w:aK) (r:List aK):c2 ao (w::r)=w.pos:=rfl
theorem am6 (S:Nat->Prop) (ao:Nat) (w:aK) (r:List aK):sZ S ao (w::r)=(S w.pos/\w.pos<c2 ao r/\sZ S ao r):=rfl
theorem ako {S:Nat->Prop} {aZ aG p:Nat} {k n:Int} {s:List UInt8} {c:aR} (h:k8 S p aG c) (gp:S p) (U:aZ<=p) (ad:p<aG):k8 S aZ aG (.mk k n (p:Nat) s c.l):=by obtain ⟨a,e,q,b⟩:=h;obtain ⟨a1,dP,g1,g2,g3⟩:=b.inv;exact ⟨p,rfl,ad,.mk U gp fun x ay=>(g3 x ay).low g1⟩
theorem alE {S:Nat->Prop} {ao:Nat} {au:o0} {acc l:List aR} {ws bw:List aK}:Pm S ao au acc ws l bw=(sZ S ao ws->sZ S ao bw/\c2 ao ws<=c2 ao bw/\∀aZ,aZ<=c2 ao ws->dy S aZ (c2 ao ws) au->(∀t ∈ acc,k8 S aZ (c2 ao ws) t)->∀t ∈ l,k8 S aZ (c2 ao bw) t):=rfl
set_option linter.defProp false in
def dH:=And.intro @alE<|And.intro @uO<|And.intro @PC<|And.intro @Ig<|And.intro @pK<|And.intro @alJ<|And.intro @am6 true_implies
theorem ad5 {S:Nat->Prop} {ao:Nat} {au:o0} {acc l:List aR} {ws bw:List aK} (h:bs au acc ws l bw):Pm S ao au acc ws l bw:=by
 induction h
 case Oh h aT=>
  exact aT
 case MU h aT=>
  exact aT
 case MP h aT=>
  exact aT
 case M' h aT=>
  exact aT
 case seq1 h aT=>
  exact aT
 case MA h aT=>
  exact aT
 case MR h aT=>
  exact aT
 case I6 h aT=>
  exact aT
 case Ni h aT=>
  exact aT
 case Oi U hw ad cj ck=>
  simp only [dH,dy,aqv] at *;intro h;obtain ⟨⟨s1,cV,bb⟩,an,f1⟩:=cj h;obtain ⟨bI,av,f2⟩:=ck bb;exact ⟨bI,by omega,fun aZ bM=>ok_two (f1 aZ bM) (f2 _ (aqh _)) (by omega) (by omega)⟩
 case MV U hw ad cj ck=>
  simp only [dH,dy,aqv] at *;intro h;obtain ⟨⟨s1,cV,bb⟩,an,f1⟩:=cj h;obtain ⟨bI,av,f2⟩:=ck bb;exact ⟨bI,by omega,fun aZ bM=>ok_two (f1 aZ bM) (f2 _ (aqh _)) (by omega) (by omega)⟩
 case MQ U hw ad cj ck=>
  simp only [dH,dy,aqv] at *;intro h;obtain ⟨⟨s1,cV,bb⟩,an,f1⟩:=cj h;obtain ⟨bI,av,f2⟩:=ck bb;exact ⟨bI,by omega,fun aZ bM=>ok_two (f1 aZ bM) (f2 _ (aqh _)) (by omega) (by omega)⟩
 case NR U hw ad cj ck=>
  simp only [dH,dy,aqv] at *;intro h;obtain ⟨⟨s1,cV,bb⟩,an,f1⟩:=cj h;obtain ⟨bI,av,f2⟩:=ck bb;exact ⟨bI,by omega,fun aZ bM=>ok_two (f1 aZ bM) (f2 _ (aqh _)) (by omega) (by omega)⟩
 case oset U hw ad cj ck=>
  simp only [dH,dy,aqv] at *;intro h;obtain ⟨⟨s1,cV,bb⟩,an,f1⟩:=cj h;obtain ⟨bI,av,f2⟩:=ck bb;exact ⟨bI,by omega,fun aZ bM=>ok_two (f1 aZ bM) (f2 _ (aqh _)) (by omega) (by omega)⟩
 case MS U hw ad cj ck=>
  simp only [dH,dy,aqv] at *;intro h;obtain ⟨⟨s1,cV,bb⟩,an,f1⟩:=cj h;obtain ⟨bI,av,f2⟩:=ck bb;exact ⟨bI,by omega,fun aZ bM=>ok_two (f1 aZ bM) (f2 _ (aqh _)) (by omega) (by omega)⟩
 case I7 U hw az ad cj ck=>
  simp only [dH,dy,aqv] at *;intro h;obtain ⟨⟨s1,cV,bb⟩,an,f1⟩:=cj h;obtain ⟨bI,av,f2⟩:=ck bb;exact ⟨bI,by omega,fun aZ bM=>ok_two (f1 aZ bM) (f2 _ (aqh _)) (by omega) (by omega)⟩
 case named U ad cj ck=>
  simp only [dH,dy,aqv] at *;intro h;obtain ⟨bb,an,f1⟩:=cj h;obtain ⟨bI,av,f2⟩:=ck bb;exact ⟨bI,by omega,fun aZ bM=>f2 aZ (by omega) (f1 aZ bM)⟩
 case h8 U ad cj ck=>
  simp only [dH,dy,aqv] at *;intro h;obtain ⟨bb,an,f1⟩:=cj h;obtain ⟨bI,av,f2⟩:=ck bb;exact ⟨bI,by omega,fun aZ bM=>f2 aZ (by omega) (f1 aZ bM)⟩
 case ih U ad cj ck=>
  simp only [dH,dy,aqv] at *;intro h;obtain ⟨bb,an,f1⟩:=cj h;obtain ⟨bI,av,f2⟩:=ck bb;exact ⟨bI,by omega,fun aZ bM=>f2 aZ (by omega) (f1 aZ bM)⟩
 case app U ad cj ck=>
  simp only [dH,dy,aqv] at *;intro h;obtain ⟨bb,an,f1⟩:=cj h;obtain ⟨bI,av,f2⟩:=ck bb;exact ⟨bI,by omega,fun aZ bM=>f2 aZ (by omega) (f1 aZ bM)⟩
 case Gd=>
  simp only [dH,dy,aqv] at *;exact fun h=>⟨h,aqh _,fun aZ bM a_=>a_⟩
 case MC=>
  simp only [dH,dy,aqv] at *;exact fun h=>⟨h,aqh _,fun aZ bM a_=>a_⟩
 case ME=>
  simp only [dH,dy,aqv] at *;exact fun h=>⟨h,aqh _,fun aZ bM a_=>a_⟩
 case Iq=>
  simp only [dH,dy,aqv] at *;exact fun h=>⟨h,aqh _,fun aZ bM a_=>a_⟩
 case Oo=>
  simp only [dH,dy,aqv] at *;exact fun h=>⟨h,aqh _,fun aZ bM a_=>a_⟩
 case M1=>
  simp only [dH,dy,aqv] at *;exact fun h=>⟨h,aqh _,fun aZ bM a_=>a_⟩
 case Ji=>
  simp only [dH,dy,aqv] at *;exact fun h=>⟨h,aqh _,fun aZ bM a_=>a_⟩
 case MZ=>
  simp only [dH,dy,aqv] at *;exact fun h=>⟨h,aqh _,fun aZ bM=>trivial⟩
 case L7 ar h aT=>
  simp only [dH,dy,aqv] at *;rintro ⟨cZ,dn,bp⟩;obtain ⟨bb,an,f1⟩:=aT bp;exact ⟨bb,by omega,fun aZ bM a_=>f1 aZ (by omega) (akn a_ (by omega))⟩
 case Om ar=>
  simp only [dH,dy,aqv] at *;rintro ⟨cZ,dn,bp⟩;exact ⟨bp,by omega,fun aZ bM=>fS cZ bM dn (gO:=0) (fun c aq=>by cases aq)⟩
 case Ok ar=>
  simp only [dH,dy,aqv] at *;rintro ⟨cZ,dn,bp⟩;exact ⟨bp,by omega,fun aZ bM=>fS cZ bM dn (gO:=0) (fun c aq=>by cases aq)⟩
 case MY ar=>
  simp only [dH,dy,aqv] at *;rintro ⟨cZ,dn,bp⟩;exact ⟨bp,by omega,fun aZ bM=>fS cZ bM dn (gO:=0) (fun c aq=>by cases aq)⟩
 case Ns ar=>
  simp only [dH,dy,aqv] at *;rintro ⟨cZ,dn,bp⟩;exact ⟨bp,by omega,fun aZ bM=>fS cZ bM dn (gO:=0) (fun c aq=>by cases aq)⟩
 case M_ ar=>
  simp only [dH,dy,aqv] at *;rintro ⟨cZ,dn,bp⟩;exact ⟨bp,by omega,fun aZ bM=>fS cZ bM dn (gO:=0) (fun c aq=>by cases aq)⟩
 case Nf ar=>
  simp only [dH,dy,aqv] at *;rintro ⟨cZ,dn,bp⟩;exact ⟨bp,by omega,fun aZ bM=>fS cZ bM dn (gO:=0) (fun c aq=>by cases aq)⟩
 case Nq ar=>
  simp only [dH,dy,aqv] at *;rintro ⟨cZ,dn,bp⟩;exact ⟨bp,by omega,fun aZ bM=>fS cZ bM dn (gO:=0) (fun c aq=>by cases aq)⟩
 case Nb ar=>
  simp only [dH,dy,aqv] at *;rintro ⟨cZ,dn,bp⟩;exact ⟨bp,by omega,fun aZ bM=>fS cZ bM dn (gO:=0) (fun c aq=>by cases aq)⟩
 case M7 ar=>
  simp only [dH,dy,aqv] at *;rintro ⟨cZ,dn,bp⟩;exact ⟨bp,by omega,fun aZ bM=>fS cZ bM dn (gO:=0) (fun c aq=>by cases aq)⟩
 case I' ar=>
  simp only [dH,dy,aqv] at *;rintro ⟨cZ,dn,bp⟩;exact ⟨bp,by omega,fun aZ bM=>fS cZ bM dn (gO:=0) (fun c aq=>by cases aq)⟩
 case Ih ar=>
  simp only [dH,dy,aqv] at *;rintro ⟨cZ,dn,bp⟩;exact ⟨bp,by omega,fun aZ bM=>fS cZ bM dn (gO:=0) (fun c aq=>by cases aq)⟩
 case IA ar=>
  simp only [dH,dy,aqv] at *;rintro ⟨cZ,dn,bp⟩;exact ⟨bp,by omega,fun aZ bM=>fS cZ bM dn (gO:=0) (fun c aq=>by cases aq)⟩
 case IE ar=>
  simp only [dH,dy,aqv] at *;rintro ⟨cZ,dn,bp⟩;exact ⟨bp,by omega,fun aZ bM=>fS cZ bM dn (gO:=0) (fun c aq=>by cases aq)⟩
 case Ib ar=>
  simp only [dH,dy,aqv] at *;rintro ⟨cZ,dn,bp⟩;exact ⟨bp,by omega,fun aZ bM=>fS cZ bM dn (gO:=0) (fun c aq=>by cases aq)⟩
 case IB ar=>
  simp only [dH,dy,aqv] at *;rintro ⟨cZ,dn,bp⟩;exact ⟨bp,by omega,fun aZ bM=>fS cZ bM dn (gO:=0) (fun c aq=>by cases aq)⟩
 case Ic ar=>
  simp only [dH,dy,aqv] at *;rintro ⟨cZ,dn,bp⟩;exact ⟨bp,by omega,fun aZ bM=>fS cZ bM dn (gO:=0) (fun c aq=>by cases aq)⟩
 case Jd ar=>
  simp only [dH,dy,aqv] at *;rintro ⟨cZ,dn,bp⟩;exact ⟨bp,by omega,fun aZ bM=>fS cZ bM dn (gO:=0) (fun c aq=>by cases aq)⟩
 case M0 ar=>
  simp only [dH,dy,aqv] at *;rintro ⟨cZ,dn,bp⟩;exact ⟨bp,by omega,fun aZ bM=>fS cZ bM dn (gO:=0) (fun c aq=>by cases aq)⟩
 case Nd ar lP=>
  simp only [dH,dy,aqv] at *;rintro ⟨cZ,dn,s1,cV,bb⟩;exact ⟨bb,by omega,fun aZ bM=>fS cZ bM (by omega) (gO:=0) (fun c aq=>by cases aq)⟩
 case punit ar lP=>
  simp only [dH,dy,aqv] at *;rintro ⟨cZ,dn,s1,cV,bb⟩;exact ⟨bb,by omega,fun aZ bM=>fS cZ bM (by omega) (gO:=0) (fun c aq=>by cases aq)⟩
 case IC ar lP=>
  simp only [dH,dy,aqv] at *;rintro ⟨cZ,dn,s1,cV,bb⟩;exact ⟨bb,by omega,fun aZ bM=>fS cZ bM (by omega) (gO:=0) (fun c aq=>by cases aq)⟩
 case neg ar h aT=>
  simp only [dH,dy,aqv] at *;rintro ⟨cZ,dn,bp⟩;obtain ⟨bb,an,f1⟩:=aT bp;exact ⟨bb,by omega,fun aZ bM=>fS cZ bM (by omega) fun c aq=>by rw [aqV] at aq;subst aq;exact f1 _ (by omega)⟩
 case get ar h aT=>
  simp only [dH,dy,aqv] at *;rintro ⟨cZ,dn,bp⟩;obtain ⟨bb,an,f1⟩:=aT bp;exact ⟨bb,by omega,fun aZ bM=>fS cZ bM (by omega) fun c aq=>by rw [aqV] at aq;subst aq;exact f1 _ (by omega)⟩
 case raise ar h aT=>
  simp only [dH,dy,aqv] at *;rintro ⟨cZ,dn,bp⟩;obtain ⟨bb,an,f1⟩:=aT bp;exact ⟨bb,by omega,fun aZ bM=>fS cZ bM (by omega) fun c aq=>by rw [aqV] at aq;subst aq;exact f1 _ (by omega)⟩
 case I_ ar h aT=>
  simp only [dH,dy,aqv] at *;rintro ⟨cZ,dn,bp⟩;obtain ⟨bb,an,f1⟩:=aT bp;exact ⟨bb,by omega,fun aZ bM=>fS cZ bM (by omega) fun c aq=>by rw [aqV] at aq;subst aq;exact f1 _ (by omega)⟩
 case M8 ar h aT=>
  simp only [dH,dy,aqv] at *;rintro ⟨cZ,dn,bp⟩;obtain ⟨bb,an,f1⟩:=aT bp;exact ⟨bb,by omega,fun aZ bM=>fS cZ bM (by omega) fun c aq=>by rw [aqV] at aq;subst aq;exact f1 _ (by omega)⟩
 case Je ar aU h aT=>
  simp only [dH,dy,aqv] at *;rintro ⟨cZ,dn,s1,cV,bp⟩;obtain ⟨bb,an,f1⟩:=aT bp;exact ⟨bb,by omega,fun aZ bM=>fS cZ bM (by omega) fun c aq=>by rw [aqV] at aq;subst aq;exact f1 _ (by omega)⟩
 case Nh ar h aq aT=>
  simp only [dH,dy,aqv] at *;rintro ⟨cZ,dn,bp⟩;obtain ⟨⟨s1,cV,bb⟩,an,f1⟩:=aT bp;exact ⟨bb,by omega,fun aZ bM=>(f1 aZ (by omega)).wide (aqh _) (by omega)⟩
 case Ia ar h aq aT=>
  simp only [dH,dy,aqv] at *;rintro ⟨cZ,dn,bp⟩;obtain ⟨⟨s1,cV,bb⟩,an,f1⟩:=aT bp;exact ⟨bb,by omega,fun aZ bM=>(f1 aZ (by omega)).wide (aqh _) (by omega)⟩
 case Ii ar h aq aT=>
  simp only [dH,dy,aqv] at *;rintro ⟨cZ,dn,bp⟩;obtain ⟨⟨s1,cV,bb⟩,an,f1⟩:=aT bp;exact ⟨bb,by omega,fun aZ bM=>(f1 aZ (by omega)).wide (aqh _) (by omega)⟩
 case Ol ar U ad aq cj ck=>
  simp only [dH,dy,aqv] at *;rintro ⟨cZ,dn,bp⟩;obtain ⟨bb,an,f1⟩:=cj bp;obtain ⟨⟨s2,gz,bI⟩,av,f2⟩:=ck bb;exact ⟨bI,by omega,fun aZ bM=>(f1 aZ (by omega)).wide (aqh _) (by omega)⟩
 case Oj ar U ad aq bE cj ck=>
  simp only [dH,dy,aqv] at *;rintro ⟨cZ,dn,bp⟩;obtain ⟨bb,an,f1⟩:=cj bp;obtain ⟨⟨s2,gz,yr,xP,eR⟩,av,f2⟩:=ck bb;exact ⟨eR,by omega,fun aZ bM=>fS cZ bM (by omega) (f2 _ (by omega) (f1 _ (by omega)))⟩
 case Oq hw la U ad cj ck=>
  simp only [dH,dy,aqv] at *;rintro ⟨cZ,dn,bp⟩;obtain ⟨bb,an,f1⟩:=cj bp;obtain ⟨bI,av,f2⟩:=ck bb;exact ⟨bI,by omega,fun aZ bM a_=>f2 aZ (by omega) ⟨fun t aB=>(a_ t aB).wide (aqh _) (by omega),f1 aZ (by omega)⟩⟩
 case IY U hw ad cj ck=>
  simp only [dH,dy,aqv] at *;intro h;obtain ⟨⟨s1,cV,bb⟩,an,f1⟩:=cj h;obtain ⟨bI,av,f2⟩:=ck bb;exact ⟨bI,by omega,fun aZ bM a_=>⟨fun t aB=>(a_ t aB).wide (aqh _) (by omega),ok_two (f1 aZ bM) (f2 _ (aqh _)) (by omega) (by omega)⟩⟩
 case IZ U hw ad bE aC cj ck nQ=>
  simp only [dH,dy,aqv] at *;intro h;obtain ⟨⟨s1,cV,bb⟩,an,f1⟩:=cj h;obtain ⟨⟨s2,gz,bI⟩,av,f2⟩:=ck bb;obtain ⟨eR,aH,f3⟩:=nQ bI;exact ⟨eR,by omega,fun aZ bM a_=>f3 aZ (by omega) ⟨fun t aB=>(a_ t aB).wide (aqh _) (by omega),(ok_two (f1 aZ bM) (f2 _ (aqh _)) (by omega) (by omega)).wide (aqh _) (by omega)⟩⟩
 case fn U hw ad cj ck=>
  simp only [dH,dy,aqv] at *;intro h;obtain ⟨⟨s1,cV,bb⟩,an,f1⟩:=cj h;obtain ⟨bI,av,f2⟩:=ck bb;refine ⟨bI,by omega,fun aZ bM aL=>fS aL.1 aL.2.1 (by omega) (pK.2 ⟨(f1 _ (by omega)).wide (aqh _) (show _<=c2 ao _ by exact aqn (arh cV) av),uO.2 (f2 _ (by omega))⟩)⟩
 case Mu hw h aT=>
  simp only [dH,dy,aqv] at *;rintro ⟨cZ,dn,bp⟩;obtain ⟨bb,an,f1⟩:=aT bp;exact ⟨bb,by omega,fun aZ bM=>f1 aZ (by omega) ⟨cZ,bM,dn⟩⟩
 case Mn hw h aT=>
  simp only [dH,dy,aqv] at *;rintro ⟨cZ,dn,bp⟩;obtain ⟨bb,an,f1⟩:=aT bp;exact ⟨bb,by omega,fun aZ bM=>f1 aZ (by omega) ⟨cZ,bM,dn⟩⟩
 case Mv hw h aT=>
  simp only [dH,dy,aqv] at *;rintro ⟨cZ,dn,bp⟩;obtain ⟨bb,an,f1⟩:=aT bp;exact ⟨bb,by omega,fun aZ bM=>f1 aZ (by omega) ⟨cZ,bM,dn⟩⟩
 case MJ hw h aT=>
  simp only [dH,dy,aqv] at *;rintro ⟨cZ,dn,bp⟩;obtain ⟨bb,an,f1⟩:=aT bp;exact ⟨bb,by omega,fun aZ bM=>f1 aZ (by omega) ⟨cZ,bM,dn⟩⟩
 case Mo hw U aB ad he aC cj ck nQ=>
  simp only [dH,dy,aqv] at *;rintro ⟨cZ,dn,bp⟩;obtain ⟨⟨s1,cV,bb⟩,an,f1⟩:=cj bp;obtain ⟨⟨s2,gz,bI⟩,av,f2⟩:=ck bb;obtain ⟨eR,aH,f3⟩:=nQ bI;exact ⟨eR,by omega,fun aZ bM=>fS cZ bM (by omega) (pK.2 ⟨(f1 _ (by omega)).wide (aqh _) (aqn (arh cV) (aqn av (aqn (arh gz) aH))),pK.2 ⟨(f2 _ (by omega)).wide (aqh _) (aqn (arh gz) aH),uO.2 (f3 _ (by omega))⟩⟩)⟩
 case I1 U hw ad cj ck=>
  simp only [dH,dy,aqv] at *;intro h;obtain ⟨⟨s1,cV,bb⟩,an,f1⟩:=cj h;obtain ⟨bI,av,f2⟩:=ck bb;exact ⟨bI,by omega,fun aZ bM aL=>fS aL.1 aL.2.1 (by omega) (pK.2 ⟨(f1 _ (by omega)).wide (aqh _) (aqn (arh cV) av),f2 _ (by omega)⟩)⟩
 case I2 U hw bE ad cj ck=>
  simp only [dH,dy,aqv] at *;intro h;obtain ⟨⟨s1,cV,s2,gz,bb⟩,an,f1⟩:=cj h;obtain ⟨bI,av,f2⟩:=ck bb;exact ⟨bI,by omega,fun aZ bM aL=>fS aL.1 aL.2.1 (by omega) (pK.2 ⟨(f1 _ (by omega)).wide (aqh _) (aqn (arh cV) (aqn (arh gz) av)),f2 _ (by omega)⟩)⟩
 case gS aa U aG ad cj ck=>
  simp only [dH,dy,aqv] at *;rintro ⟨cZ,dn,bp⟩;obtain ⟨⟨s1,cV,bb⟩,an,f1⟩:=cj bp;obtain ⟨bI,av,f2⟩:=ck bb;exact ⟨bI,by omega,fun aZ bM aL=>fS aL.1 aL.2.1 (by omega) (Ig.2 ⟨fun t aB=>(f1 _ (by omega) t aB).wide (aqh _) (aqn (arh cV) av),f2 _ (by omega)⟩)⟩
 case LS U he ad aG aC cj ck nQ=>
  simp only [dH,dy,aqv] at *;intro h;obtain ⟨⟨s1,cV,bb⟩,an,f1⟩:=cj h;obtain ⟨⟨s2,gz,bI⟩,av,f2⟩:=ck bb;obtain ⟨eR,aH,f3⟩:=nQ bI;exact ⟨eR,by omega,fun aZ bM aL=>fS aL.1 aL.2.1 (by omega) (pK.2 ⟨(f1 _ (by omega)).wide (aqh _) (aqn (arh cV) (aqn av (aqn (arh gz) aH))),pK.2 ⟨(f2 _ (by omega)).wide (aqh _) (aqn (arh gz) aH),uO.2 (f3 _ (by omega))⟩⟩)⟩
 case IH ar he aA h aT=>
  simp only [dH,dy,aqv] at *;rintro ⟨cZ,dn,s1,cV,s2,gz,bp⟩;obtain ⟨bb,an,f1⟩:=aT bp;exact ⟨bb,by omega,fun aZ bM a_=>⟨fun t aB=>(a_ t aB).wide (aqh _) (by omega),fS cZ bM (by omega) (uO.2 (f1 _ (by omega) ⟨s2,by omega,gz⟩))⟩⟩
 case II ar he aA h bE ad cj ck=>
  simp only [dH,dy,aqv] at *;rintro ⟨cZ,dn,s1,cV,s2,gz,bp⟩;obtain ⟨⟨yr,xP,bb⟩,an,f1⟩:=cj bp;obtain ⟨bI,av,f2⟩:=ck bb;exact ⟨bI,by omega,fun aZ bM a_=>f2 aZ (by omega) ⟨fun t aB=>(a_ t aB).wide (aqh _) (by omega),fS cZ bM (by omega) (uO.2 (f1 _ (by omega) ⟨s2,by omega,gz⟩))⟩⟩
 case MD hw az U ad cj ck=>
  simp only [dH,dy,aqv] at *;rintro ⟨cZ,dn,bp⟩;obtain ⟨bb,an,f1⟩:=cj bp;obtain ⟨bI,av,f2⟩:=ck bb;exact ⟨bI,by omega,fun aZ bM a_=>f2 aZ (by omega) (ok_two a_ (f1 _ (aqh _)) (by omega) (by omega))⟩
 case MF hw az U ad cj ck=>
  simp only [dH,dy,aqv] at *;rintro ⟨cZ,dn,bp⟩;obtain ⟨bb,an,f1⟩:=cj bp;obtain ⟨bI,av,f2⟩:=ck bb;exact ⟨bI,by omega,fun aZ bM a_=>f2 aZ (by omega) (ok_two a_ (f1 _ (aqh _)) (by omega) (by omega))⟩
 case Ir U ad cj ck=>
  simp only [dH,dy,aqv] at *;intro h;obtain ⟨bb,an,f1⟩:=cj h;obtain ⟨bI,av,f2⟩:=ck bb;exact ⟨bI,by omega,fun aZ bM a_=>f2 aZ (by omega) (ok_two a_ (f1 _ (aqh _)) (by omega) (by omega))⟩
 case M4 aU ar h aq aT=>
  simp only [dH,dy,aqv] at *;rintro ⟨cZ,dn,s1,cV,bp⟩;obtain ⟨⟨s2,gz,bb⟩,an,f1⟩:=aT bp;exact ⟨bb,by omega,fun aZ bM t aB=>(f1 aZ (by omega) (fS s1 (by omega) cV (gO:=0) (fun c aq=>by cases aq)) t aB).wide (aqh _) (by omega)⟩
 case M3 hw la ar h aT=>
  simp only [dH,dy,aqv] at *;rintro ⟨cZ,dn,s1,cV,bp⟩;obtain ⟨bb,an,f1⟩:=aT bp;exact ⟨bb,by omega,fun aZ bM a_=>f1 aZ (by omega) ⟨fun t aB=>(a_ t aB).wide (aqh _) (by omega),fS s1 (by omega) cV (gO:=0) (fun c aq=>by cases aq)⟩⟩
 case Jj hw U ad cj ck=>
  simp only [dH,dy,aqv] at *;rintro ⟨cZ,dn,bp⟩;obtain ⟨bb,an,f1⟩:=cj bp;obtain ⟨bI,av,f2⟩:=ck bb;exact ⟨bI,by omega,fun aZ bM a_=>f2 aZ (by omega) ⟨fun t aB=>(a_ t aB).wide (aqh _) (by omega),f1 aZ (by omega)⟩⟩
 case Ju hw U aL he ad aC cj ck nQ=>
  simp only [dH,dy,aqv] at *;rintro ⟨cZ,dn,bp⟩;obtain ⟨⟨s1,cV,s2,gz,bb⟩,an,f1⟩:=cj bp;obtain ⟨bI,av,f2⟩:=ck bb;obtain ⟨eR,aH,f3⟩:=nQ bI;exact ⟨eR,by omega,fun aZ bM=>fS cZ bM (by omega) (f3 _ (by omega) ⟨fun t aB=>(f1 _ (by omega) t aB).wide (aqh _) (by omega),f2 _ (by omega)⟩)⟩
 case El hw h aT=>
  simp only [dH,dy,aqv] at *;rintro ⟨cZ,dn,bp⟩;obtain ⟨bb,an,f1⟩:=aT bp;exact ⟨bb,by omega,fun aZ bM=>ako (f1 _ (by omega)) cZ bM (by omega)⟩
 case Js hw aa h aT=>
  simp only [dH,dy,aqv] at *;rintro ⟨cZ,dn,s1,cV,bp⟩;obtain ⟨bb,an,f1⟩:=aT bp;exact ⟨bb,by omega,fun aZ bM=>fS cZ bM (by omega) (f1 _ (by omega))⟩
 case Jn hw U he ad cj ck=>
  simp only [dH,dy,aqv] at *;rintro ⟨cZ,dn,bp⟩;obtain ⟨⟨s1,cV,bb⟩,an,f1⟩:=cj bp;obtain ⟨bI,av,f2⟩:=ck bb;exact ⟨bI,by omega,fun aZ bM=>fS cZ bM (by omega) (pK.2 ⟨(f1 _ (by omega)).wide (aqh _) (aqn (arh cV) av),uO.2 (f2 _ (by omega))⟩)⟩
def M (g:Int) (t:aR):Prop:=xL t.k g=true/\t.may fa=true
def oj (w:aK):Prop:=k' w/\w.pos<=65536
def s0:List aK->Prop
 | []=>True
 | w::r=>(oj w/\r.length<65536)/\s0 r
theorem eT {k n a:Int} {s:List UInt8} {l:List aR} {gs:List Int} (r:iP) (aa:yp k=some r) (U:r.aZ<=n/\n<=r.aG) (a_:0<=a/\a<=65536) (bF:px fa r.s s=true) (bR:qf r k n l.length=true) (aJ:qV r k n l.length=gs) (cv:oS fa gs l=true):(aR.mk k n a s l).may fa=true:=by rw [aR.may,aa];simp only [zq,bF,bR,aJ,cv,arz,aqi,aqy];exact ⟨⟨⟨U.1,U.2⟩,a_.1⟩,a_.2⟩
theorem pq {g:Int} {t:aR} (h:M g t):0<=t.a/\t.a<=65536:=by
 obtain ⟨_,h⟩:=h;cases t with
 | mk k n a s l=>
   rw [aR.may] at h
   split at h
   . cases h
   . simp only [zq,aqi,aqy] at h;exact ⟨h.1.1.1.1.2,h.1.1.1.2⟩
theorem eU:oS fa [] []=true:=rfl
theorem ft {g:Int} {gs:List Int} {t:aR} {l:List aR} (h:M g t) (aD:oS fa gs l=true):oS fa (g::gs) (t::l)=true:=by rw [oS,h.1,h.2,aD];rfl
theorem yh {g:Int}:∀{l:List aR} {gs:List Int} {m:List aR},(∀t ∈ l,M g t)->oS fa gs m=true->oS fa (List.replicate l.length g++gs) (l++m)=true
 | [],gs,m,_,h=>by simpa using h
 | t::l,gs,m,aB,h=>by rw [aqp,List.replicate_succ,aqP,aqP];exact ft (aB t (aq8 ..)) (yh (fun x ay=>aB x (aq2 _ ay)) h)
theorem gA {w:aK} {P:Prop} (h:oj w/\P):0<=(w.pos:Int)/\(w.pos:Int)<=65536:=⟨by omega,by have:=h.1.2;omega⟩
theorem Oz {w:aK} {P:Prop} (h:oj w/\P) (ar:w.kind=3\/w.kind=4\/w.kind=5):fa w.kind w.text=true:=by obtain ⟨r,n,e,_⟩:=h.1.1;exact Vc e ar
theorem wa {w:aK} {P:Prop} (h:oj w/\P) (ar:w.kind=3):px fa 1 w.text=true:=by have:=Oz h (.inl ar);rw [ar] at this;exact this
theorem sC {w:aK} {P:Prop} (h:oj w/\P) (ar:w.kind=4):px fa 2 w.text=true:=by have:=Oz h (.inr (.inl ar));rw [ar] at this;exact this
theorem Hn {w:aK} {P:Prop} (h:oj w/\P) (ar:w.kind=5):px fa 3 w.text=true:=by have:=Oz h (.inr (.inr ar));rw [ar] at this;exact this
theorem anO {w:aK} {P:Prop} (h:oj w/\P):px fa 4 w.text=true:=by have:=(GX h.1.1).2.2;show decide (w.text.length<=4096)=true;exact arf this
theorem Og {s:List UInt8} (h:s ∈ [ji,vU,vT]\/s ∈ [vV,kI]\/s ∈ [qq,vW,vr]):px fa 5 s=true:=by show opsL.contains s=true;simp only [aqN,List.not_mem_nil,or_false] at h;rcases h with (rfl | rfl | rfl) | (rfl | rfl) | (rfl | rfl | rfl)<;>decide
theorem iz:px fa 0 []=true:=rfl
theorem OA {w:aK} {P:Prop} (h:oj w/\P) (ar:w.kind=1):-1073741824<=w.num/\w.num<=1073741823:=(GX h.1.1).2.1 ar
theorem an5 {w:aK} {P:Prop} (h:oj w/\P) (ar:w.kind=1):-1073741824<=xX w.num/\xX w.num<=1073741823:=by
 have:=OA h ar;unfold xX
 split<;>omega
theorem fu:(0:Int)<=0/\(0:Int)<=0:=by decide
def dC:o0->Int
 | .ty | .ix | .named | .names | .j6 | .jz=>1
 | .pat | .jO | .hq=>2
 | .cases=>4
 | .binds=>5
 | .fn _=>9
 | .params | .mN=>8
 | .decl=>7
 | _=>3
def dr:o0->aR->Prop
 | .ctors,_=>True
 | .ctor k,t=>t.k=k/\t.may fa=true
 | au,t=>M (dC au) t
def dz:o0->Prop
 | .fn n | .lt n=>n<=65536
 | .iD k n=>(k=32\/k=33)/\n<=65536
 | .ctor k=>k=47\/k=51
 | _=>True
def bV:o0->List aR->List aR->Prop
 | .jz,acc,l | .mN,acc,l=>acc.length<=64->l.length<=64
 | .params,_,l=>l.length<=64
 | .cases,_,l | .binds,_,l=>l≠[]
 | .ctors,acc,l=>∃t,l=acc++t/\∀x ∈ t,M 6 x
 | _,_,_=>True
def Pv (au:o0) (acc:List aR) (ws:List aK) (l:List aR) (bw:List aK):Prop:=
 s0 ws->dz au->(∀t ∈ acc,dr au t)->s0 bw/\(∀t ∈ l,dr au t)/\bV au acc l
theorem ajl {t:aR} (h:M 9 t):M 3 t:=by
 obtain ⟨U,ad⟩:=h;have:t.k=27:=by simpa [xL] using U
 exact ⟨by rw [this];rfl,ad⟩
theorem Y3 (w:aK) (r:List aK):s0 (w::r)=((oj w/\r.length<65536)/\s0 r):=rfl
theorem ajx {k n a a1:Int} {s:List UInt8} {l:List aR} (h:(aR.mk k n a s l).may fa=true) (a_:0<=a1/\a1<=65536):(aR.mk k n a1 s l).may fa=true:=by
 rw [aR.may] at h ⊢
 split at h
 . cases h
 . rename_i r aa;simp only [aa,zq,aqi,aqy] at h ⊢;exact ⟨⟨⟨⟨⟨h.1.1.1.1.1,a_.1⟩,a_.2⟩,h.1.1.2⟩,h.1.2⟩,h.2⟩
theorem al5 {au:o0} {acc l:List aR} {ws bw:List aK}:Pv au acc ws l bw=(s0 ws->dz au->(∀t ∈ acc,dr au t)->s0 bw/\(∀t ∈ l,dr au t)/\bV au acc l):=rfl
set_option linter.defProp false in
def dI:=And.intro @al5<|And.intro @uO<|And.intro @PC<|And.intro @Ig<|And.intro @pK<|And.intro @Y3<|And.intro true_implies and_true
theorem FZ {r:iP} {k n:Int} {len:Nat} (ar:k≠50) (U:r.least<=(len:Int)-r.first.length-r.last.length) (ad:(len:Int)-r.first.length-r.last.length<=r.kW):qf r k n len=true:=by simp only [qf,iX,firstM,aqr ar,aqi,aqy];exact ⟨U,ad⟩
theorem EU {r:iP} {k n:Int} {len m:Nat} (ar:k≠50) (h:(len:Int)-r.first.length-r.last.length=m):qV r k n len=r.first++List.replicate m r.rest++r.last:=by simp only [qV,iX,firstM,aqr ar,h,aqq]
theorem ajn {l:List aR} {b:aR} {n:Nat} (h:∀t ∈ l,M 5 t) (dK:l≠[]) (ah:M 3 b) (aL:n<=65536) (aD:l.length<=1000000):M 3 (.mk 30 0 n [] (l++[b])):=by
 have ai:=ar2.2 dK;have jr:(l++[b]).length=l.length+1:=by simp
 refine ⟨rfl,eT _ rfl fu ⟨by omega,by omega⟩ iz (FZ (by decide) ?_ ?_) (EU (m:=l.length) (by decide) ?_) ?_⟩
 . rw [jr];simp only [aqB,aqp];omega
 . rw [jr];simp only [aqB,aqp];omega
 . rw [jr];simp only [aqB,aqp];omega
 . exact yh h (ft ah eU)
theorem UW {k:Int} {l:List aR} {a:aR} {n:Nat} (ar:k=32\/k=33) (h:∀t ∈ l,M 4 t) (dK:l≠[]) (a_:M 3 a) (aL:n<=65536) (aD:l.length<=1000000):M 3 (.mk k 0 n [] (a::l)):=by
 have ai:=ar2.2 dK;have aJ:=ft a_ (yh (m:=[]) (gs:=[]) h eU);simp only [aqI] at aJ;rcases ar with rfl | rfl
 all_goals
  refine ⟨rfl,eT _ rfl fu ⟨by omega,by omega⟩ iz (FZ (by decide) ?_ ?_) (EU (m:=l.length) (by decide) ?_) ?_⟩
  . simp only [aqB,aqp];omega
  . simp only [aqB,aqp];omega
  . simp only [aqB,aqp];omega
  . simpa using aJ
theorem ajm {l:List aR} {w:aK} (h:∀t ∈ l,M 5 t) (dK:l≠[]) {P:Prop} (al:oj w/\P) (aD:l.length<=1000000):M 7 (.mk 53 0 w.pos [] l):=by
 have ai:=ar2.2 dK;have aJ:=yh (m:=[]) (gs:=[]) h eU;refine ⟨rfl,eT _ rfl fu (gA al) iz (FZ (by decide) ?_ ?_) (EU (m:=l.length) (by decide) ?_) ?_⟩
 . simp only [aqB];omega
 . simp only [aqB];omega
 . simp only [aqB];omega
 . simpa using aJ
theorem ajo {l:List aR} {w v:aK} (h:∀t ∈ l,M 1 t) (la:l.length<=64) {P:Prop} (al:oj w/\P) (Of:px fa 1 v.text=true):M 1 (.mk 2 0 w.pos v.text l):=by
 have aJ:=yh (m:=[]) (gs:=[]) h eU;refine ⟨rfl,eT _ rfl fu (gA al) Of (FZ (by decide) ?_ ?_) (EU (m:=l.length) (by decide) ?_) ?_⟩
 . simp only [aqB];omega
 . simp only [aqB];omega
 . simp only [aqB];omega
 . simpa using aJ
theorem ajp {l t m:List aR} {c:aR} {w v:aK} (h:∀x ∈ l,M 8 x) (la:l.length<=64) (aq:M 6 c) (aB:∀x ∈ t,M 6 x) (e:m=l++(c::t)) {P:Prop} (al:oj w/\P) (Of:px fa 1 v.text=true) (aD:m.length<=1000000):M 7 (.mk 50 l.length w.pos v.text m):=by
 have jr:m.length=l.length + (t.length+1):=by rw [e,aqC,aqp]
 have aJ:=yh h (yh (m:=[]) (gs:=[]) (l:=c::t) (pK.2 ⟨aq,aB⟩) eU);refine ⟨rfl,eT (gs:=List.replicate l.length 8++List.replicate (t.length+1) 6) {s:=1,aG:=64,rest:=6,least:=1,kW:=1073741824} rfl ⟨by simp only;omega,by simp only;omega⟩ (gA al) Of ?_ ?_ ?_⟩
 . simp only [qf,iX,firstM,aqu,aqK,aqq,aqB,aqi,aqy];omega
 . simp only [qV,iX,firstM,aqu,aqK,aqq,aqB,aqI];rw [show ((m.length:Int)-l.length - (0:Nat)).toNat=t.length+1 from by omega]
 . rw [e];simpa using aJ
theorem ajz {c:aR} {a1:Int} (h:c.may fa=true) (a_:0<=a1/\a1<=65536):(aR.mk c.k c.n a1 c.s c.l).may fa=true:=by
 cases c with
 | mk k n a s l=>exact ajx h a_
theorem alU (a b:List aR):fP (a++b)=fP a+fP b:=Nn a b
set_option maxRecDepth 20000 in
theorem ad4 {au:o0} {acc l:List aR} {ws bw:List aK} (h:bs au acc ws l bw):Pv au acc ws l bw:=by
 induction h
 case Oh h aT=>
  exact aT
 case MU h aT=>
  exact aT
 case MP h aT=>
  exact aT
 case M' h aT=>
  exact aT
 case seq1 h aT=>
  exact aT
 case MA h aT=>
  exact aT
 case MR h aT=>
  exact aT
 case I6 h aT=>
  exact aT
 case Ni h aT=>
  exact aT
 case Oi U p7 ad cj ck=>
  simp only [dI,dz,dr,dC,bV] at *;intro h;obtain ⟨hw,f1⟩:=cj h;obtain ⟨bI,f2⟩:=ck hw.2;exact ⟨bI,⟨rfl,eT _ rfl fu (pq f1) iz rfl rfl (ft f1 (ft f2 eU))⟩⟩
 case MV U p7 ad cj ck=>
  simp only [dI,dz,dr,dC,bV] at *;intro h;obtain ⟨hw,f1⟩:=cj h;obtain ⟨bI,f2⟩:=ck hw.2;exact ⟨bI,⟨rfl,eT _ rfl fu (pq f1) iz rfl rfl (ft f1 (ft f2 eU))⟩⟩
 case MQ U p7 ad cj ck=>
  simp only [dI,dz,dr,dC,bV] at *;intro h;obtain ⟨hw,f1⟩:=cj h;obtain ⟨bI,f2⟩:=ck hw.2;exact ⟨bI,⟨rfl,eT _ rfl fu (pq f1) iz rfl rfl (ft f1 (ft f2 eU))⟩⟩
 case NR U p7 ad cj ck=>
  simp only [dI,dz,dr,dC,bV] at *;intro h;obtain ⟨hw,f1⟩:=cj h;obtain ⟨bI,f2⟩:=ck hw.2;exact ⟨bI,⟨rfl,eT _ rfl fu (pq f1) iz rfl rfl (ft f1 (ft f2 eU))⟩⟩
 case oset U p7 ad cj ck=>
  simp only [dI,dz,dr,dC,bV] at *;intro h;obtain ⟨hw,f1⟩:=cj h;obtain ⟨bI,f2⟩:=ck hw.2;exact ⟨bI,⟨rfl,eT _ rfl fu (pq f1) iz rfl rfl (ft f1 (ft f2 eU))⟩⟩
 case MS U p7 ad cj ck=>
  simp only [dI,dz,dr,dC,bV] at *;intro h;obtain ⟨hw,f1⟩:=cj h;obtain ⟨bI,f2⟩:=ck hw.2;exact ⟨bI,⟨rfl,eT _ rfl fu (pq f1) iz rfl rfl (ft f1 (ft f2 eU))⟩⟩
 case I7 U p7 az ad cj ck=>
  simp only [dI,dz,dr,dC,bV] at *;intro h;obtain ⟨hw,f1⟩:=cj h;obtain ⟨bI,f2⟩:=ck hw.2;exact ⟨bI,⟨rfl,eT _ rfl fu (pq f1) (Og (.inl az)) rfl rfl (ft f1 (ft f2 eU))⟩⟩
 case named U ad cj ck=>
  simp only [dI,dz,dr,dC,bV] at *;intro h;obtain ⟨bb,f1⟩:=cj h;obtain ⟨bI,f2⟩:=ck bb f1;exact ⟨bI,f2⟩
 case h8 U ad cj ck=>
  simp only [dI,dz,dr,dC,bV] at *;intro h;obtain ⟨bb,f1⟩:=cj h;obtain ⟨bI,f2⟩:=ck bb f1;exact ⟨bI,f2⟩
 case ih U ad cj ck=>
  simp only [dI,dz,dr,dC,bV] at *;intro h;obtain ⟨bb,f1⟩:=cj h;obtain ⟨bI,f2⟩:=ck bb f1;exact ⟨bI,f2⟩
 case app U ad cj ck=>
  simp only [dI,dz,dr,dC,bV] at *;intro h;obtain ⟨bb,f1⟩:=cj h;obtain ⟨bI,f2⟩:=ck bb f1;exact ⟨bI,f2⟩
 case Gd=>
  simp only [dI,dz,dr,dC,bV] at *;exact fun h a_=>⟨h,a_⟩
 case MC=>
  simp only [dI,dz,dr,dC,bV] at *;exact fun h a_=>⟨h,a_⟩
 case ME=>
  simp only [dI,dz,dr,dC,bV] at *;exact fun h a_=>⟨h,a_⟩
 case Iq=>
  simp only [dI,dz,dr,dC,bV] at *;exact fun h a_=>⟨h,a_⟩
 case Oo=>
  simp only [dI,dz,dr,dC,bV] at *;exact fun h a_=>⟨h,a_,fun q=>q⟩
 case M1=>
  simp only [dI,dz,dr,dC,bV] at *;exact fun h a_=>⟨h,a_,fun q=>q⟩
 case Ji=>
  simp only [dI,dz,dr,dC,bV] at *;exact fun h _=>⟨h,fun _ _=>trivial,[],by simp,fun x ay=>by cases ay⟩
 case MZ=>
  simp only [dI,dz,dr,dC,bV] at *;exact fun h=>⟨h,by simp⟩
 case L7 ar h aT=>
  simp only [dI,dz,dr,dC,bV] at *;rintro ⟨al,bp⟩ a_;exact aT bp ⟨rfl,eT _ rfl fu (pq a_) (wa al ar) rfl rfl (ft a_ eU)⟩
 case Om ar=>
  simp only [dI,dz,dr,dC,bV] at *;rintro ⟨al,bp⟩;exact ⟨bp,⟨rfl,eT _ rfl fu (gA al) (Hn al ar) rfl rfl eU⟩⟩
 case Ok ar=>
  simp only [dI,dz,dr,dC,bV] at *;rintro ⟨al,bp⟩;exact ⟨bp,⟨rfl,eT _ rfl fu (gA al) (wa al ar) rfl rfl eU⟩⟩
 case MY ar=>
  simp only [dI,dz,dr,dC,bV] at *;rintro ⟨al,bp⟩;exact ⟨bp,⟨rfl,eT _ rfl fu (gA al) iz rfl rfl eU⟩⟩
 case Ns ar=>
  simp only [dI,dz,dr,dC,bV] at *;rintro ⟨al,bp⟩;exact ⟨bp,⟨rfl,eT _ rfl fu (gA al) (wa al ar) rfl rfl eU⟩⟩
 case M_ ar=>
  simp only [dI,dz,dr,dC,bV] at *;rintro ⟨al,bp⟩;exact ⟨bp,⟨rfl,eT _ rfl fu (gA al) (sC al ar) rfl rfl eU⟩⟩
 case Nf ar=>
  simp only [dI,dz,dr,dC,bV] at *;rintro ⟨al,bp⟩;exact ⟨bp,⟨rfl,eT _ rfl (OA al ar) (gA al) iz rfl rfl eU⟩⟩
 case Nq ar=>
  simp only [dI,dz,dr,dC,bV] at *;rintro ⟨al,bp⟩;exact ⟨bp,⟨rfl,eT _ rfl (by decide) (gA al) iz rfl rfl eU⟩⟩
 case Nb ar=>
  simp only [dI,dz,dr,dC,bV] at *;rintro ⟨al,bp⟩;exact ⟨bp,⟨rfl,eT _ rfl (by decide) (gA al) iz rfl rfl eU⟩⟩
 case M7 ar=>
  simp only [dI,dz,dr,dC,bV] at *;rintro ⟨al,bp⟩;exact ⟨bp,⟨rfl,eT _ rfl fu (gA al) (sC al ar) rfl rfl eU⟩⟩
 case I' ar=>
  simp only [dI,dz,dr,dC,bV] at *;rintro ⟨al,bp⟩;exact ⟨bp,⟨rfl,eT _ rfl fu (gA al) (sC al ar) rfl rfl eU⟩⟩
 case Ih ar=>
  simp only [dI,dz,dr,dC,bV] at *;rintro ⟨al,bp⟩;exact ⟨bp,⟨rfl,eT _ rfl (OA al ar) (gA al) iz rfl rfl eU⟩⟩
 case IA ar=>
  simp only [dI,dz,dr,dC,bV] at *;rintro ⟨al,bp⟩;exact ⟨bp,⟨rfl,eT _ rfl fu (gA al) (anO al) rfl rfl eU⟩⟩
 case IE ar=>
  simp only [dI,dz,dr,dC,bV] at *;rintro ⟨al,bp⟩;exact ⟨bp,⟨rfl,eT _ rfl fu (gA al) (wa al ar) rfl rfl eU⟩⟩
 case Ib ar=>
  simp only [dI,dz,dr,dC,bV] at *;rintro ⟨al,bp⟩;exact ⟨bp,⟨rfl,eT _ rfl fu (gA al) (sC al ar) rfl rfl eU⟩⟩
 case IB ar=>
  simp only [dI,dz,dr,dC,bV] at *;rintro ⟨al,bp⟩;exact ⟨bp,⟨rfl,eT _ rfl (by decide) (gA al) iz rfl rfl eU⟩⟩
 case Ic ar=>
  simp only [dI,dz,dr,dC,bV] at *;rintro ⟨al,bp⟩;exact ⟨bp,⟨rfl,eT _ rfl (by decide) (gA al) iz rfl rfl eU⟩⟩
 case Nd ar lP=>
  simp only [dI,dz,dr,dC,bV] at *;rintro ⟨al,b0,bp⟩;exact ⟨bp,⟨rfl,eT _ rfl (an5 b0 lP) (gA al) iz rfl rfl eU⟩⟩
 case punit ar lP=>
  simp only [dI,dz,dr,dC,bV] at *;rintro ⟨al,b0,bp⟩;exact ⟨bp,⟨rfl,eT _ rfl fu (gA al) iz rfl rfl eU⟩⟩
 case IC ar lP=>
  simp only [dI,dz,dr,dC,bV] at *;rintro ⟨al,b0,bp⟩;exact ⟨bp,⟨rfl,eT _ rfl fu (gA al) iz rfl rfl eU⟩⟩
 case Jd ar=>
  simp only [dI,dz,dr,dC,bV] at *;rintro ⟨al,bp⟩ aL;refine ⟨bp,rfl,?_⟩;rcases aL with rfl | rfl
  . exact eT _ rfl fu (gA al) (sC al ar) rfl rfl eU
  . exact eT _ rfl fu (gA al) (sC al ar) rfl rfl eU
 case Je ar aU h aT=>
  simp only [dI,dz,dr,dC,bV] at *;rintro ⟨al,b0,bp⟩ aL;obtain ⟨bb,f1⟩:=aT bp;refine ⟨bb,rfl,?_⟩;rcases aL with rfl | rfl
  . exact eT _ rfl fu (gA al) (sC al ar) rfl rfl (ft f1 eU)
  . exact eT _ rfl fu (gA al) (sC al ar) rfl rfl (ft f1 eU)
 case M0 ar=>
  simp only [dI,dz,dr,dC,bV] at *;rintro ⟨al,bp⟩;exact ⟨bp,⟨rfl,eT _ rfl fu (gA al) (Hn al ar) rfl rfl eU⟩,by simp⟩
 case neg ar h aT=>
  simp only [dI,dz,dr,dC,bV] at *;rintro ⟨al,bp⟩;obtain ⟨bb,f1⟩:=aT bp;exact ⟨bb,⟨rfl,eT _ rfl fu (gA al) iz rfl rfl (ft f1 eU)⟩⟩
 case get ar h aT=>
  simp only [dI,dz,dr,dC,bV] at *;rintro ⟨al,bp⟩;obtain ⟨bb,f1⟩:=aT bp;exact ⟨bb,⟨rfl,eT _ rfl fu (gA al) iz rfl rfl (ft f1 eU)⟩⟩
 case raise ar h aT=>
  simp only [dI,dz,dr,dC,bV] at *;rintro ⟨al,bp⟩;obtain ⟨bb,f1⟩:=aT bp;exact ⟨bb,⟨rfl,eT _ rfl fu (gA al) iz rfl rfl (ft f1 eU)⟩⟩
 case I_ ar h aT=>
  simp only [dI,dz,dr,dC,bV] at *;rintro ⟨al,bp⟩;obtain ⟨bb,f1⟩:=aT bp;exact ⟨bb,⟨rfl,eT _ rfl fu (gA al) (sC al ar) rfl rfl (ft f1 eU)⟩⟩
 case M8 ar h aT=>
  simp only [dI,dz,dr,dC,bV] at *;rintro ⟨al,bp⟩;obtain ⟨bb,f1⟩:=aT bp;exact ⟨bb,⟨rfl,eT _ rfl fu (gA al) (sC al ar) rfl rfl (ft f1 eU)⟩⟩
 case Nh ar h aq aT=>
  simp only [dI,dz,dr,dC,bV] at *;rintro ⟨al,bp⟩;obtain ⟨⟨b0,bb⟩,f1⟩:=aT bp;exact ⟨bb,f1⟩
 case Ia ar h aq aT=>
  simp only [dI,dz,dr,dC,bV] at *;rintro ⟨al,bp⟩;obtain ⟨⟨b0,bb⟩,f1⟩:=aT bp;exact ⟨bb,f1⟩
 case Ii ar h aq aT=>
  simp only [dI,dz,dr,dC,bV] at *;rintro ⟨al,bp⟩;obtain ⟨⟨b0,bb⟩,f1⟩:=aT bp;exact ⟨bb,f1⟩
 case Ol ar U ad aq cj ck=>
  simp only [dI,dz,dr,dC,bV] at *;rintro ⟨al,bp⟩;obtain ⟨bb,f1⟩:=cj bp;obtain ⟨⟨bn,bI⟩,_⟩:=ck bb f1;exact ⟨bI,f1⟩
 case Oj ar U ad aq bE cj ck=>
  simp only [dI,dz,dr,dC,bV] at *;rintro ⟨al,bp⟩;obtain ⟨bb,f1⟩:=cj bp;obtain ⟨⟨bn,gM,eR⟩,f2,la⟩:=ck bb f1;exact ⟨eR,ajo f2 (la (by simp)) al (wa gM bE)⟩
 case Oq hw la U ad cj ck=>
  simp only [dI,dz,dr,dC,bV] at *;rintro ⟨al,bp⟩ a_;obtain ⟨bb,f1⟩:=cj bp;obtain ⟨bI,f2,f3⟩:=ck bb ⟨a_,f1⟩;refine ⟨bI,f2,fun q=>f3 ?_⟩;rw [aqC,arT];omega
 case IY U hw ad cj ck=>
  simp only [dI,dz,dr,dC,bV] at *;intro h a_;obtain ⟨⟨b0,bb⟩,f1⟩:=cj h;obtain ⟨bI,f2⟩:=ck bb;exact ⟨bI,⟨a_,⟨rfl,eT _ rfl fu (pq f1) iz rfl rfl (ft f1 (ft f2 eU))⟩⟩,by simp⟩
 case IZ U hw ad bE aC cj ck nQ=>
  simp only [dI,dz,dr,dC,bV] at *;intro h a_;obtain ⟨⟨b0,bb⟩,f1⟩:=cj h;obtain ⟨⟨bn,bI⟩,f2⟩:=ck bb;exact nQ bI ⟨a_,⟨rfl,eT _ rfl fu (pq f1) iz rfl rfl (ft f1 (ft f2 eU))⟩⟩
 case fn U hw ad cj ck=>
  simp only [dI,dz,dr,dC,bV] at *;intro h aL;obtain ⟨⟨b0,bb⟩,f1⟩:=cj h;obtain ⟨bI,f2⟩:=ck bb;exact ⟨bI,⟨rfl,eT _ rfl fu ⟨by omega,by omega⟩ iz rfl rfl (ft f1 (ft f2 eU))⟩⟩
 case Mu hw h aT=>
  simp only [dI,dz,dr,dC,bV] at *;rintro ⟨al,bp⟩;exact aT bp al.1.2
 case Mn hw h aT=>
  simp only [dI,dz,dr,dC,bV] at *;rintro ⟨al,bp⟩;obtain ⟨bb,f1⟩:=aT bp al.1.2;exact ⟨bb,ajl f1⟩
 case Mv hw h aT=>
  simp only [dI,dz,dr,dC,bV] at *;rintro ⟨al,bp⟩;exact aT bp ⟨.inl trivial,al.1.2⟩
 case MJ hw h aT=>
  simp only [dI,dz,dr,dC,bV] at *;rintro ⟨al,bp⟩;exact aT bp ⟨.inr trivial,al.1.2⟩
 case Mo hw U aB ad he aC cj ck nQ=>
  simp only [dI,dz,dr,dC,bV] at *;rintro ⟨al,bp⟩;obtain ⟨⟨b0,bb⟩,f1⟩:=cj bp;obtain ⟨⟨bn,bI⟩,f2⟩:=ck bb;obtain ⟨eR,f3⟩:=nQ bI;exact ⟨eR,⟨rfl,eT _ rfl fu (gA al) iz rfl rfl (ft f1 (ft f2 (ft f3 eU)))⟩⟩
 case I1 U hw ad cj ck=>
  simp only [dI,dz,dr,dC,bV] at *;intro h aL;obtain ⟨⟨b0,bb⟩,f1⟩:=cj h;obtain ⟨bI,f2,dK⟩:=ck bb;exact ⟨bI,UW aL.1 f2 dK f1 aL.2 (by have:=r3 ad;have:=b0.2;simp only [fP,aqB] at *;omega)⟩
 case I2 U hw bE ad cj ck=>
  simp only [dI,dz,dr,dC,bV] at *;intro h aL;obtain ⟨⟨b0,bn,bb⟩,f1⟩:=cj h;obtain ⟨bI,f2,dK⟩:=ck bb;exact ⟨bI,UW aL.1 f2 dK f1 aL.2 (by have:=r3 ad;have:=bn.2;simp only [fP,aqB] at *;omega)⟩
 case gS aa U aG ad cj ck=>
  simp only [dI,dz,dr,dC,bV] at *;rintro ⟨al,bp⟩ aL;obtain ⟨⟨b0,bb⟩,f1,dK⟩:=cj bp;obtain ⟨bI,f2⟩:=ck bb;exact ⟨bI,ajn f1 dK f2 aL (by have:=r3 U;have:=al.2;simp only [fP,aqB] at *;omega)⟩
 case LS U he ad aG aC cj ck nQ=>
  simp only [dI,dz,dr,dC,bV] at *;intro h aL;obtain ⟨⟨b0,bb⟩,f1⟩:=cj h;obtain ⟨⟨bn,bI⟩,f2⟩:=ck bb;obtain ⟨eR,f3⟩:=nQ bI;exact ⟨eR,⟨rfl,eT _ rfl fu ⟨by omega,by omega⟩ iz rfl rfl (ft f1 (ft f2 (ft f3 eU)))⟩⟩
 case IH ar he aA h aT=>
  simp only [dI,dz,dr,dC,bV] at *;rintro ⟨al,b0,bn,bp⟩ a_;obtain ⟨bb,f1⟩:=aT bp bn.1.2;exact ⟨bb,⟨a_,⟨rfl,eT _ rfl fu (gA al) (wa al ar) rfl rfl (ft f1 eU)⟩⟩,by simp⟩
 case II ar he aA h bE ad cj ck=>
  simp only [dI,dz,dr,dC,bV] at *;rintro ⟨al,b0,bn,bp⟩ a_;obtain ⟨⟨gM,bb⟩,f1⟩:=cj bp bn.1.2;exact ck bb ⟨a_,⟨rfl,eT _ rfl fu (gA al) (wa al ar) rfl rfl (ft f1 eU)⟩⟩
 case MD hw az U ad cj ck=>
  simp only [dI,dz,dr,dC,bV] at *;rintro ⟨al,bp⟩ a_;obtain ⟨bb,f1⟩:=cj bp;exact ck bb ⟨rfl,eT _ rfl fu (pq a_) (Og (.inr (.inl az))) rfl rfl (ft a_ (ft f1 eU))⟩
 case MF hw az U ad cj ck=>
  simp only [dI,dz,dr,dC,bV] at *;rintro ⟨al,bp⟩ a_;obtain ⟨bb,f1⟩:=cj bp;exact ck bb ⟨rfl,eT _ rfl fu (pq a_) (Og (.inr (.inr az))) rfl rfl (ft a_ (ft f1 eU))⟩
 case Ir U ad cj ck=>
  simp only [dI,dz,dr,dC,bV] at *;intro h a_;obtain ⟨bb,f1⟩:=cj h;exact ck bb ⟨rfl,eT _ rfl fu (pq a_) iz rfl rfl (ft a_ (ft f1 eU))⟩
 case M4 aU ar h aq aT=>
  simp only [dI,dz,dr,dC,bV] at *;rintro ⟨al,b0,bp⟩;obtain ⟨⟨bn,bb⟩,f1,f2⟩:=aT bp ⟨rfl,eT _ rfl fu (gA b0) (Hn b0 ar) rfl rfl eU⟩;exact ⟨bb,f1,f2 (by simp)⟩
 case M3 hw la ar h aT=>
  simp only [dI,dz,dr,dC,bV] at *;rintro ⟨al,b0,bp⟩ a_;obtain ⟨bb,f1,f2⟩:=aT bp ⟨a_,⟨rfl,eT _ rfl fu (gA b0) (Hn b0 ar) rfl rfl eU⟩⟩;refine ⟨bb,f1,fun q=>f2 ?_⟩;rw [aqC,arT];omega
 case Jj hw U ad cj ck=>
  simp only [dI,dz,dr,dC,bV] at *;rintro ⟨al,bp⟩ _;obtain ⟨bb,f1⟩:=cj bp (.inl trivial);obtain ⟨bI,_,t,e,f2⟩:=ck bb (fun _ _=>trivial);exact ⟨bI,fun _ _=>trivial,_::t,by rw [e,aq7];rfl,pK.2 ⟨⟨by rw [f1.1];rfl,f1.2⟩,f2⟩⟩
 case Ju hw U aL he ad aC cj ck nQ=>
  simp only [dI,dz,dr,dC,bV] at *;rintro ⟨al,bp⟩;obtain ⟨⟨b0,bn,bb⟩,f1,la⟩:=cj bp;obtain ⟨bI,f2⟩:=ck bb (.inl trivial);obtain ⟨eR,_,t,e,f3⟩:=nQ bI (fun _ _=>trivial);exact ⟨eR,ajp f1 la ⟨by rw [f2.1];rfl,f2.2⟩ f3 (by rw [e,aq7];rfl) al (wa b0 aL) (by have:=r3 U;have:=r3 ad;have:=r3 aC;have:=al.2;have:=bn.2;simp only [fP,alU,aqB,aqC,aqp] at *;omega)⟩
 case El hw h aT=>
  simp only [dI,dz,dr,dC,bV] at *;rintro ⟨al,bp⟩;obtain ⟨bb,f1,f2⟩:=aT bp (.inr trivial);exact ⟨bb,(congrArg (fun k=>xL k 7) f1).trans rfl,ajz f2 (gA al)⟩
 case Js hw aa h aT=>
  simp only [dI,dz,dr,dC,bV] at *;rintro ⟨al,b0,bp⟩;obtain ⟨bb,f1,dK⟩:=aT bp;exact ⟨bb,ajm f1 dK al (by have:=r3 h;have:=b0.2;simp only [fP,aqB] at *;omega)⟩
 case Jn hw U he ad cj ck=>
  simp only [dI,dz,dr,dC,bV] at *;rintro ⟨al,bp⟩;obtain ⟨⟨b0,bb⟩,f1⟩:=cj bp;obtain ⟨bI,f2⟩:=ck bb;exact ⟨bI,⟨rfl,eT _ rfl fu (gA al) iz rfl rfl (ft f1 (ft f2 eU))⟩⟩
theorem WE {S:Nat->Prop} {ao:Nat}:∀{ws:List aK},(∀w ∈ ws,S w.pos/\w.pos<ao)->ws.Pairwise (fun a b=>a.pos<b.pos)->sZ S ao ws
 | [],_,_=>trivial
 | w::r,h,ai=>by
   have hM:=List.pairwise_cons.1 ai;refine ⟨(h w (aq8 ..)).1,?_,WE (fun x ay=>h x (aq2 _ ay)) hM.2⟩;cases r with
   | nil=>exact (h w (aq8 ..)).2
   | cons v r=>exact hM.1 v (aq8 ..)
theorem Xq:∀{ws:List aK},(∀w ∈ ws,oj w)->ws.length<=65536->s0 ws
 | [],_,_=>trivial
 | w::r,h,aD=>⟨⟨h w (aq8 ..),by simp only [aqp] at aD;omega⟩,Xq (fun x ay=>h x (aq2 _ ay)) (by simp only [aqp] at aD;omega)⟩
theorem R2 {S:Nat->Prop} {ao n:Nat}:∀(m:Nat) {l out:List aR} {ws:List aK},td ao (bD ao n) m l ws=.ok out->sZ S ao ws->s0 ws->
 ∃t,out=l++t/\(∀p ∈ t,M 7 p/\p.deep<=200/\∃a:Nat,p.a=a/\c2 ao ws<=a/\kL S a p)/\t.Pairwise (fun a b=>a.a<b.a)/\fP t<=2 * ws.length
 | 0,l,out,ws,h,_,_=>by cases h
 | m+1,l,out,ws,h,az,hw=>by
   simp only [td] at h
   split at h
   . cases h;exact ⟨[],by simp,(fun p ai=>by cases ai),List.Pairwise.nil,by simp [fP]⟩
   . obtain ⟨⟨p,bc⟩,U,h⟩:=c7 h;simp only at h
     split at h
     . cases h
     . rename_i aY;obtain ⟨br,ad,hZ⟩:=c7 h;have g:=R1 U;have s1:=r3 g;obtain ⟨bb,an,f1⟩:=ad5 (S:=S) (ao:=ao) g az;obtain ⟨b0,c1,_⟩:=ad4 g hw trivial (fun t aB=>by cases aB);obtain ⟨v,rfl,_⟩:=kd ad;obtain ⟨_,bI,eR⟩:=bb;obtain ⟨t,e,ct,c6,hv⟩:=R2 m hZ eR b0.2;obtain ⟨a,Jx,_,Uq,a_,a1,aoT,_,ah⟩:=(f1 _ (aqh _) trivial (fun t aB=>by cases aB) p (aqV.2 rfl)).self;have mp:M 7 p:=c1 p (aqV.2 rfl);have js:c2 ao (v::br)=v.pos:=rfl;refine ⟨p::t,by rw [e];simp,?_,?_,?_⟩
       . intro x ay;rcases aqN.1 ay with rfl | ay
         . exact ⟨mp,by omega,a,Jx,Uq,ah⟩
         . obtain ⟨bS,cJ,y,c3,iC,c5⟩:=ct x ay;exact ⟨bS,cJ,y,c3,by omega,c5⟩
       . refine List.Pairwise.cons (fun x ay=>?_) c6;obtain ⟨_,_,y,c3,iC,_⟩:=ct x ay;omega
       . clear h U hZ;simp only [fP,aqp,aqB] at s1 hv ⊢;omega
theorem alN (s:List UInt8):Pr s:=by
 have key:∀W l,hp s=.ok W->l4 s=.ok l->(∀p ∈ l,M 7 p/\p.deep<=200/\∃a:Nat,p.a=a/\kL (fun a=>∃w ∈ W,w.pos=a) a p)/\l.Pairwise (fun a b=>a.a<b.a)/\fP l<=2 * 65536:=by intro W l aD ai;obtain ⟨g1,g2,g3,g4⟩:=LN aD;unfold l4 at ai;rw [aD] at ai;obtain ⟨t,e,ct,c6,hv⟩:=R2 (S:=fun a=>∃w ∈ W,w.pos=a) _ ai (WE (fun w hw=>⟨⟨w,hw,rfl⟩,(g3 w hw).1⟩) g4) (Xq (fun w hw=>⟨(g3 w hw).2,by have:=(g3 w hw).1;omega⟩) (by omega));rw [aq5] at e;subst e;refine ⟨fun p ai=>?_,c6,by omega⟩;obtain ⟨bS,cJ,a,c3,_,c5⟩:=ct p ai;exact ⟨bS,cJ,a,c3,c5⟩
 have LI:∀l,l4 s=.ok l->∃W,hp s=.ok W:=fun l ai=>by
  cases aD:hp s with
  | error e=>unfold l4 at ai;rw [aD] at ai;cases ai
  | ok W=>exact ⟨W,rfl⟩
 constructor
 . intro e he;unfold l4;rw [he]
 . intro W l aD ai t aB;exact ((key W l aD ai).1 t aB).2.2
 . intro l ai;obtain ⟨W,aD⟩:=LI l ai;exact (key W l aD ai).2.1
 . intro l ai;obtain ⟨W,aD⟩:=LI l ai;have k:=(key W l aD ai).1;unfold wU;rw [aqw,aqw]
   . exact aqR.2 fun t aB=>arf (k t aB).2.1
   . refine aqR.2 fun t aB=>?_;obtain ⟨U,ad⟩:=(k t aB).1;rw [ad,arz];exact U
 . intro l ai;obtain ⟨W,aD⟩:=LI l ai;have:=(key W l aD ai).2.2;omega
theorem alM (s:List UInt8) (h:ae):e9 Tryz.prog 5 [.str s] h fun x ab=>x=.bool true:=alL s (fun _=>alN s) h
end
section
open Go bf Go.RowKit Go.Proofs Go.Lib
abbrev zR:List (String × DataW Unit):=Rows.parsePlacesRow.laid
theorem acM {n:String} {g:Nat} {t:TypeId} {ms:Array (String × TypeId)} {name:String} {d:DataW Unit} {W:World} (aJ:Tryz.prog.globalNamed n=some g) (Le:(Tryz.prog.globals[g]?).map (·.type)=some t) (aG:Tryz.prog.underlying t=some (.interface ms))
 (h:VarReads Tryz.prog W n (.iface name d)):yM W g:=by
 obtain ⟨r2,ui,cs,fuel,p,U,ad,aC,aX⟩:=h;obtain rfl:=arB (aJ.symm.trans U);obtain rfl:=arB (Le.symm.trans ad);obtain ⟨_,u,v,h0,_,_⟩:=iface_of_trod aG aX;refine ⟨.iface u v,?_,.inr ⟨u,v,rfl⟩⟩;have:=World.var?_cell aJ aC 0;rw [this,<-Array.getElem?_toList,h0];rfl
theorem ant {n:String} {g:Nat} {t e:TypeId} {m:Nat} {k:IntKind} {rC:List Int} {W:World} (aJ:Tryz.prog.globalNamed n=some g) (Le:(Tryz.prog.globals[g]?).map (·.type)=some t) (aB:Tryz.prog.underlying t=some (.array m e)) (he:Tryz.prog.underlying e=some (.int k)) (aeA:Tryz.prog.cellsOf e=1) (aeF:Tryz.prog.cellsOf t=m)
 (h:VarReads Tryz.prog W n (tabData k rC)):TabIs Tryz.prog W n k rC:=by
 obtain ⟨r2,ui,cs,fuel,p,U,ad,aC,aX⟩:=h;obtain rfl:=arB (aJ.symm.trans U);obtain rfl:=arB (Le.symm.trans ad);unfold TabIs;rw [aC,<-cells_of_tab aB he aeA aeF aX]
theorem anS:Go.Proofs.U8Types Tryz.prog Tryz.Cy:=Go.Proofs.U8Types.of260 Tryz.aiN
theorem anR:U8Extra Tryz.prog Tryz.Cy:=⟨by kernel_rfl,by kernel_rfl,by kernel_rfl,by kernel_rfl,by kernel_rfl,by kernel_rfl,by kernel_rfl⟩
theorem adl:(Rows.laid_unicode_utf8_first:DataW Unit)=firstData:=Pinned.utf8First_eq
theorem YL:(Rows.laid_unicode_utf8_acceptRanges:DataW Unit)=acceptData:=by kernel_rfl
theorem alO:(Rows.laid_internal_strconv_uint64pow10:DataW Unit)=tabData .u64 pow10Tab:=by kernel_rfl
theorem adu:Tryz.Cy.g 3=0:=by kernel_rfl
theorem adv:Tryz.Cy.g 4=1:=by kernel_rfl
theorem ai7 {l:List (String × DataW Unit)} {W:World} (hm:∀p ∈ zR,p ∈ l) (dU:laidMet Tryz.prog l W) (Ce:W.ShapedOpen Tryz.prog):HW W:=by
 have r:∀(n:String) (d:DataW Unit),(n,d) ∈ zR->VarReads Tryz.prog W n d:=fun n d h=>laidMet.reads dU (hm _ h);have aA:=r "unicode/utf8.first" Rows.laid_unicode_utf8_first (by simp [zR,Rows.parsePlacesRow]);have a_:=r "unicode/utf8.acceptRanges" Rows.laid_unicode_utf8_acceptRanges (by simp [zR,Rows.parsePlacesRow]);have aa:=r "strconv.ErrRange" Rows.laid_strconv_ErrRange (by simp [zR,Rows.parsePlacesRow]);have ai:=r "internal/strconv.uint64pow10" Rows.laid_internal_strconv_uint64pow10 (by simp [zR,Rows.parsePlacesRow]);rw [alO] at ai;rw [adl] at aA;rw [YL] at a_;refine ⟨?_,?_,?_,?_⟩
 . have:=Go.Proofs.utf8Tabs_of_readsT anS anR aA a_;rwa [adu,adv] at this
 . exact Go.Proofs.cell_of_shapedOpen_int Ce (g:=2) (t:=3) (zero:=#[.int .i64 0]) (of_decide_eq_true (by kernel_rfl)) (by kernel_rfl) rfl (by kernel_rfl) (by kernel_rfl) Tryz.underlying3
 . exact acM (n:= "strconv.ErrRange") (t:=126) (by kernel_rfl) (by kernel_rfl) Tryz.underlying126 aa
 . exact ant (g:=5) (t:=191) (e:=124) (m:=20) (by kernel_rfl) (by kernel_rfl) (by kernel_rfl) (by kernel_rfl) (by kernel_rfl) (by kernel_rfl) ai
end
end Go.Proofs.YtahfljfikfkpnaaGreatDoor
