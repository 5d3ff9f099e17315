/- The chapter's functions, walked by the abstract machine: plain lemmas, no condition. Printed by a program from longer texts: names made short. -/
import Derived.Test.YtgmhjhgoamjeeaaGreatDoorM12
import Derived.Test.YtgmhjhgoamjeeaaGreatDoorM13
set_option linter.unusedSectionVars false
set_option linter.unusedSimpArgs false
set_option linter.unusedVariables false
set_option maxHeartbeats 64000000
noncomputable section
namespace Go.Proofs.YtgmhjhgoamjeeaaGreatDoor
section
open Go aX
def TM (n:Nat):Bool:=match sd ctx 1000 106 [.int .u64 1,.int .u64 n] ae.empty with
 | .val (.tuple [.int .u64 a,.int .u64 b]) ao=>uq a 0&&uq b n&&Nat.beq ao.next 0
 | _=>false
set_option maxRecDepth 100000 in
theorem ai7:(List.range 65).all TM=true:=by kernel_rfl
theorem ai6 (n:Nat) (aV:n<=64) (h:ae):c9 Tryz.prog 106 [.int .u64 1,.int .u64 n] h fun x ab=>x=.tuple [.int .u64 0,.int .u64 n]/\ab=h:=by
 have q:=apU.1 ai7 n (aqQ.2 (by omega));unfold TM at q
 split at q
 . rename_i a b ao he;simp only [apq] at q;obtain ⟨⟨ak,al⟩,aI⟩:=q;have ak:=E3 ak;have al:=E3 al;have aI:=aqg aI;have c:=abQ (C:=ctx) follows yW Lj (n:=1000) (f:=106) (by rfl) (by kernel_rfl) (by kernel_rfl) ⟨_,Tryz.func106,by kernel_rfl⟩ he h;refine ⟨_,_,c,?_,?_⟩
   . simp only [V.c7,kT,ak,al]
   . unfold ae.app;rw [aI];rfl
 . cases q
theorem aj6 (z:Int):∀i:Nat,eY (List.replicate i (V.int .i64 z))=true:=fun i=>by
 induction i with
 | zero=>rfl
 | succ i bb=>simpa [List.replicate_succ,eY,V.one] using bb
theorem al0 {i m n:Nat} {z y:V} (aa:m<=i) (ad:i+m<=n):hP (List.replicate i z++List.replicate (n-i) y) i (List.take m (List.replicate i z))=List.replicate (i+m) z++List.replicate (n - (i+m)) y:=by
 apply arz;intro q;have hm:(List.take m (List.replicate i z)).length=m:=by rw [ap4,apP];omega
 rw [LO _ _ _ (by rw [hm,apD,apP,apP];omega),hm];by_cases a:q<i
 . rw [apz a,apM (by rw [apP];exact a),apM (by rw [apP];omega),aqN,aqN,apz a,apz (by omega)]
 . rw [apw a];by_cases b:q<i+m
   . rw [apz b,aqs (by omega),aqN,apz (by omega),apM (by rw [apP];omega),aqN,apz b]
   . rw [apw b,apO (by rw [apP];omega),apO (by rw [apP];omega),apP,apP,aqN,aqN];by_cases c:q<n
     . rw [apz (by omega),apz (by omega)]
     . rw [apw (by omega),apw (by omega)]
theorem ak4 (v:V) (z:Int) (n:Nat) (aV:n<=64) (h:ae) (H:fq h 1 v 1 [.int .i64 z]):c9 Tryz.prog 102 [v,.int .i64 n] h fun x ab=>b0 Any ab 1 ((List.replicate n z).map aX.gb) x/\Ext h ab:=by
 refine Yz.z rfl (cw ?_);unfold NJ;have f0:((n:Int)<0)=False:=apy (by omega);have bW:IntKind.u64.wrap (n:Int)=(n:Int):=by rw [IntKind.wrap_u64];omega
 have bx:IntKind.i64.wrap (n:Int)=(n:Int):=wrap_i64 (by omega) (by omega);have ay:IntKind.u64.wrap 1=1:=by decide
 have f1:((9223372036854775807:Int) < (n:Int))=False:=apy (by omega);have aA:hJ v=some (.int .i64 1):=H.len;simp +contextual only [f0,aA,ay,bW,↓an,aF,simprocAttr];refine cu (ai6 n aV h) ?_;rintro x aa ⟨rfl,rfl⟩;obtain ⟨ad,al,aS,g2⟩:∃H,aa.new (.bQ (List.replicate n (.int .i64 0)) 0 false)=H/\Ext aa H/\Has H aa.next (List.replicate n (.int .i64 0)):=fM aa _
 have mk:=aiO (h:=aa) (n:=n) (z:=.int .i64 0) (k:=.i64) (br:=.i64) (by omega);rw [al] at mk;have hlen:(List.replicate n (V.int .i64 0)).length=n:=apP;have AA:=copy_eq (h:=ad) (b:=aw aa.next) (off:=0) (l:=n) (c:=n) (H.ext aS) g2.g (by rw [hlen,apW];exact Nat.min_le_right _ _) rfl;simp +contextual only [f0,f1,bx,mk,AA,↓an,aF,simprocAttr];refine gl (fun r g=>r 7=.slice (aw aa.next) 0 n n/\∃i:Nat,r 8=.int .i64 i/\i<=n/\(1<=n->1<=i)/\Has g aa.next (List.replicate i (V.int .i64 z)++List.replicate (n-i) (V.int .i64 0))/\Ext aa g) (fun r g=>n - (r 8).toN) ?_ ?_
 . refine ⟨by simp only [↓an,bH,simprocAttr],Nat.min 1 n,by simp only [↓an,bH,simprocAttr],Nat.min_le_right _ _,fun q=>by rw [show Nat.min 1 n=1 from arp q];omega,?_,aS.set (apv _) _⟩;have:=g2.put (hP (List.replicate n (V.int .i64 0)) 0 (List.take (Nat.min 1 n) [V.int .i64 z]));by_cases bk:n=0
   . subst bk;exact this
   . rw [show Nat.min 1 n=1 from arp (by omega)] at this ⊢;obtain ⟨m,rfl⟩:∃m,n=m+1:=⟨n-1,by omega⟩;exact this
 rintro r g ⟨cY,i,ch,ax,vX,G,E⟩;unfold NK;by_cases aR:i<n
 . have g0:((i:Int) < (n:Int))=True:=apC (by omega);have Q2:=vX (by omega);have S:fq g 1 (.slice (aw aa.next) 0 i n) i (List.replicate i (V.int .i64 z)):=by
    refine ⟨by rw [apP,arC],rfl,hv G.lt,_,.inr ⟨0,false,G.g⟩,by rw [apD,apP];omega,?_⟩;rw [aqy,arG rfl]
   have AA:=copy_eq (h:=g) (b:=aw aa.next) (off:=i) (l:=n-i) (c:=n-i) S G.g (by rw [apD,apP,apP];have:Nat.min i (n-i)<=n-i:=Nat.min_le_right _ _;omega) (aj6 z i);have ad6:Nat.min i (n-i)<=i:=Nat.min_le_left _ _;have nQ:Nat.min i (n-i)<=n-i:=Nat.min_le_right _ _;have aom:1<=Nat.min i (n-i):=Nat.le_min.2 ⟨Q2,by omega⟩;generalize Nat.min i (n-i)=m at *;have dU:IntKind.i64.wrap ((i:Int) + ((m:Nat):Int))=((i+m:Nat):Int):=by rw [wrap_i64 (by omega) (by omega)];omega
   have bK:=aap (b:=aw aa.next) (k:=.i64) aR;have bR:=aao (b:=aw aa.next) (k:=.i64) ax Q2;simp +contextual only [cY,ch,g0,bK,bR,AA,dU,↓an,aF,simprocAttr];refine ⟨⟨i+m,rfl,by omega,fun _=>by omega,?_,E.set (apv _) _⟩,by omega⟩;have:=G.put (hP (List.replicate i (V.int .i64 z)++List.replicate (n-i) (V.int .i64 0)) i (List.take m (List.replicate i (V.int .i64 z))));rw [al0 ad6 (by omega)] at this ⊢;exact this
 . have g0:((i:Int) < (n:Int))=False:=apy (by omega);have:i=n:=by omega
   subst this;simp +contextual only [cY,ch,g0,↓an,aF,simprocAttr];refine ⟨fq.alU (l:=List.replicate i z) ?_ (fun b o l c e=>by cases e;exact apv _) (by rw [apP];unfold top;omega),E⟩;have aG:=G.g;rw [aq7,List.replicate_zero,aqF] at aG;have ax:gB (List.replicate i z)=List.replicate i (V.int .i64 z):=by unfold gB;rw [List.map_replicate]
   rw [ax,apP];exact ⟨by rw [apP,arC],rfl,hv G.lt,_,.inr ⟨0,false,aG⟩,by rw [apP];omega,by rw [aqy,aqX]⟩
theorem amx (nS:Int) (s:List UInt8) (h:ae):c9 Tryz.prog 101 [.int .i64 nS,.str s] h fun x ab=>x=.bool (zv ew nS s)/\Ext h ab:=by
 refine Yy.z rfl (cw ?_);unfold NI zv;by_cases bD:nS=1
 . simp +contextual only [apC bD,ap3,↓an,aF,simprocAttr];refine cu (Md 3 (by simp) s h) ?_;rintro x aa ⟨rfl,aK⟩;simp +contextual only [↓an,aF,simprocAttr];exact aK
 by_cases a2:nS=2
 . simp +contextual only [apy bD,apC a2,ap3,ap9,↓an,aF,simprocAttr];refine cu (Md 4 (by simp) s h) ?_;rintro x aa ⟨rfl,aK⟩;simp +contextual only [↓an,aF,simprocAttr];exact aK
 by_cases a3:nS=3
 . simp +contextual only [apy bD,apy a2,apC a3,ap3,ap9,↓an,aF,simprocAttr];refine cu (Md 5 (by simp) s h) ?_;rintro x aa ⟨rfl,aK⟩;simp +contextual only [↓an,aF,simprocAttr];exact aK
 by_cases a4:nS=4
 . have aH:decide (s.length<=4096)=decide ((s.length:Int)<=4096):=decide_eq_decide.2 ⟨fun q=>by omega,fun q=>by omega⟩;simp +contextual only [apy bD,apy a2,apy a3,apC a4,aH,ap3,ap9,↓an,aF,simprocAttr];exact Ext.refl _
 by_cases a5:nS=5
 . obtain ⟨aa,ak,aK,Y⟩:=Fm h 1 8 [.str [43],.str [45],.str [42],.str [47],.str [109,111,100],.str [61],.str [60],.str [60,61]] rfl (by unfold top;omega);simp +contextual only [apy bD,apy a2,apy a3,apy a4,apC a5,ak,ap3,ap9,↓an,aF,simprocAttr];refine hB (Z_ s opsL _ aa Y.v (by decide)) ?_;simp +contextual only [↓an,aF,simprocAttr];exact aK
 . simp +contextual only [apy bD,apy a2,apy a3,apy a4,apy a5,ap9,↓an,aF,simprocAttr];exact Ext.refl _
theorem hS.open {F:aL->Prop} {h:ae} {r:hS} {ag:List V} (H:bN F h r.enc ag):∃k5 mo,ag=[k5,.int .i64 r.rest,.int .i64 r.least,.int .i64 r.kI,mo,.int .i64 r.bP,.int .i64 r.ax,.int .i64 r.s]/\b0 F h 1 (r.first.map aX.gb) k5/\b0 F h 1 (r.last.map aX.gb) mo:=by unfold hS.enc at H;obtain ⟨k5,_,rfl,tw,H1⟩:=H.eZ;obtain ⟨_,rfl,cS⟩:=H1.int;obtain ⟨_,rfl,rP⟩:=cS.int;obtain ⟨_,rfl,u_⟩:=rP.int;obtain ⟨mo,_,rfl,Wz,rQ⟩:=u_.eZ;obtain ⟨_,rfl,GV⟩:=rQ.int;obtain ⟨_,rfl,GW⟩:=GV.int;obtain ⟨_,rfl,Wo⟩:=GW.int;obtain rfl:=Wo.no;exact ⟨k5,mo,rfl,tw,Wz⟩
theorem aiT {t:aQ} (h:qn t.k=none):t.may ew=false:=by cases t;rw [aQ.may];simp only [aQ.k] at h;rw [h]
theorem aiU {t:aQ} {r:hS} (h:qn t.k=some r):t.may ew=(A5 ew r t.k t.n t.a t.s&&kH r t.k t.n t.l.length&&nh ew (nJ r t.k t.n t.l.length) t.l):=by cases t;rw [aQ.may];simp only [aQ.k] at h;rw [h];rfl
theorem alo {k:Int} {r:hS} (h:qn k=some r):r.first.length<=3/\r.last.length<=1/\0<=r.least/\(k=50->r.bP=0/\r.ax=64):=by
 have hm:=LH (l:=w6) h;simp only [w6,apJ,aqD,List.not_mem_nil,or_false] at hm;rcases hm with h | h | h | h | h | h | h | h | h | h | h | h | h | h | h | h | h | h | h | h | h | h | h | h | h | h | h | h | h | h | h | h | h | h | h | h | h | h<;>
 obtain ⟨rfl,rfl⟩:=h<;>simp
theorem acC {r:hS} {k n:Int} {len i:Nat} (aY:0<=gG r k n len) (ax:i<len):(nJ r k n len)[i]? =some (if av:i < (firstM r k n).length then (firstM r k n)[i] else if i < (firstM r k n).length + (gG r k n len).toNat then r.rest else (r.last[i - ((firstM r k n).length + (gG r k n len).toNat)]?.getD 0)):=by
 have hlen:(len:Int)=(firstM r k n).length+gG r k n len+r.last.length:=by unfold gG;omega
 unfold nJ;by_cases a:i < (firstM r k n).length
 . rw [dif_pos a,aqc,apM a,apr a]
 . rw [dif_neg a];by_cases b:i < (firstM r k n).length + (gG r k n len).toNat
   . rw [apz b,apM (by rw [apD,apP];exact b),apO (by omega),aqN,apz (by omega)]
   . rw [apw b,apO (by rw [apD,apP];omega),apD,apP];rw [apr (by omega)];rfl
theorem acD {r:hS} {k n:Int} {len:Nat} (aY:0<=gG r k n len):(nJ r k n len).length=len:=by
 have hlen:(len:Int)=(firstM r k n).length+gG r k n len+r.last.length:=by unfold gG;omega
 unfold nJ;rw [apD,apD,apP];omega
theorem Al (b:aL) (o:Nat):(sP 2 1).run (.ptr b o) (.int .i64 0)=some (.ptr b o):=rfl
theorem Am (b:aL) (o:Nat):(sP 2 1).run (.ptr b o) (.int .i64 1)=some (.ptr b (o+1)):=rfl
theorem Tl:∀(N:Nat) (t:aQ),t.size<=N->N<=1000000000->∀(cM:V) (F:aL->Prop) (ag:List V) (h:ae),oj F h Gg cM->bN Any h t.enc ag->c9 Tryz.prog 97 [cM,.agg ag] h fun x ab=>x=.bool (t.may ew)/\Ext h ab
 | 0,t,aZ,_,_,_,_,_,_,_=>by have:=o6 t;omega
 | N+1,t,aZ,ac2,cM,F,ag,h,M,H=>by
   have zT:=H;obtain ⟨cB,rfl,L,_⟩:=aQ.open H;have bE:N<=1000000000:=by omega
   have ol:=L.one;have aA:=L.len;have hle:=L.le;rw [apG] at aA hle;have cq:=size_eq t;have db:=ni t.l;refine Zs.z rfl (cw ?_);unfold O8;obtain ⟨aa,ak,aK,tD⟩:=fM h [.int .i64 t.k,.int .i64 t.n,.int .i64 t.a,.str t.s,cB];have look:=(M.ext aK).look t.k (.agg [.bg,.int .i64 0,.int .i64 0,.int .i64 0,.bg,.int .i64 0,.int .i64 0,.int .i64 0]) true;rw [abI] at look;cases aC:qn t.k with
   | none=>
     rw [aC] at look;rcases look with ⟨_,lL⟩ | ⟨_,_,a',_⟩
     . rw [apu] at lL;replace lL:gk ja.int.eq _ true aa cM _=_:=lL;rw [aiT aC];obtain ⟨ad,al,aS,dv⟩:=fw aa [.bg,.int .i64 0,.int .i64 0,.int .i64 0,.bg,.int .i64 0,.int .i64 0,.int .i64 0] [.bg,.int .i64 0,.int .i64 0,.int .i64 0,.bg,.int .i64 0,.int .i64 0,.int .i64 0];simp +contextual only [ol.1,ol.2.1,ak,al,tD.g,lL,↓an,aF,simprocAttr];exact aK.trans aS
     . cases a'
   | some r=>
   rw [aC] at look;rcases look with ⟨a',_⟩ | ⟨ds,y,t',Y,lL⟩
   . cases a'
   rw [apu] at lL;replace lL:gk ja.int.eq _ true aa cM _=_:=lL;obtain rfl:r.enc=ds:=aqB t';rw [aiU aC];obtain ⟨ao0,ao1,ao2,alk⟩:=alo aC;obtain ⟨k5,mo,a6,Mz,MN⟩:=hS.open Y;have of:=Mz.one;have B_:=MN.one;obtain ⟨ad,al,aS,dv⟩:=fw aa [.bg,.int .i64 0,.int .i64 0,.int .i64 0,.bg,.int .i64 0,.int .i64 0,.int .i64 0] [k5,.int .i64 r.rest,.int .i64 r.least,.int .i64 r.kI,mo,.int .i64 r.bP,.int .i64 r.ax,.int .i64 r.s];have xB:=tD.ext aS;have bA:=aK.trans aS;unfold A5;by_cases bK:t.n<r.bP
   . rw [aqj (show ¬r.bP<=t.n by omega)];simp +contextual only [ol.1,ol.2.1,ak,al,tD.g,xB.g,dv.g,Al,Am,lL,a6,of.1,B_.1,apC bK,ap7,↓an,aF,simprocAttr];exact bA
   by_cases bR:r.ax<t.n
   . rw [aqj (show ¬t.n<=r.ax by omega)];simp +contextual only [ol.1,ol.2.1,ak,al,tD.g,xB.g,dv.g,Al,Am,lL,a6,of.1,B_.1,apy bK,apC bR,ap7,aqG,↓an,aF,simprocAttr];exact bA
   by_cases c3:t.a<0
   . rw [aqj (show ¬0<=t.a by omega)];simp +contextual only [ol.1,ol.2.1,ak,al,tD.g,xB.g,dv.g,Al,Am,lL,a6,of.1,B_.1,apy bK,apy bR,apC c3,ap7,aqG,↓an,aF,simprocAttr];exact bA
   by_cases hU:65536<t.a
   . rw [aqj (show ¬t.a<=65536 by omega)];simp +contextual only [ol.1,ol.2.1,ak,al,tD.g,xB.g,dv.g,Al,Am,lL,a6,of.1,B_.1,apy bK,apy bR,apy c3,apC hU,ap7,aqG,↓an,aF,simprocAttr];exact bA
   rw [aqf (show r.bP<=t.n by omega),aqf (show t.n<=r.ax by omega),aqf (show 0<=t.a by omega),aqf (show t.a<=65536 by omega)];simp +contextual only [ol.1,ol.2.1,ak,al,tD.g,xB.g,dv.g,Al,Am,lL,a6,of.1,B_.1,apy bK,apy bR,apy c3,apy hU,ap6,↓an,aF,simprocAttr];refine cu (amx r.s t.s ad) ?_;rintro x aJ ⟨rfl,bU⟩;have Hg:=xB.ext bU;have mz:=dv.ext bU;have fU:=bA.trans bU;cases c5:zv ew r.s t.s with
   | false=>
     simp +contextual only [ap7,↓an,aF,simprocAttr];exact fU
   | true=>
   have Wn:b0 Any aJ 1 (r.first.map aX.gb) k5:=(Mz.ext (aS.trans bU)).gR fun _ _=>trivial;have G_:b0 Any aJ 1 (r.last.map aX.gb) mo:=(MN.ext (aS.trans bU)).gR fun _ _=>trivial;have p1:∀(dQ:List Int),dQ.length<=64->IntKind.i64.wrap (IntKind.i64.wrap ((t.l.length:Int) - (dQ.length:Int)) - (r.last.length:Int))=(t.l.length:Int)-dQ.length-r.last.length:=fun dQ hD=>by rw [wrap_i64 (n:=(t.l.length:Int) - (dQ.length:Int)) (by omega) (by omega),wrap_i64 (by omega) (by omega)]
   have RF:=G_.len;rw [apG] at RF;by_cases Aw:t.k=50;obtain ⟨aox,aog⟩:=alk Aw;obtain ⟨n,aV⟩:=aqE (show 0<=t.n by omega);obtain ⟨bu,bB,b9,Z⟩:=Fm aJ 1 1 [.int .i64 8] rfl (by unfold top;omega);have MV:=Hg.ext b9;have g3:=Hg.g;have g4:=MV.g;rw [aV] at g3 g4;simp +contextual only [g3,g4,mz.g,bB,apC Aw,aV,↓an,aF,simprocAttr];refine cu (ak4 _ 8 n (by omega) bu Z.v) ?_;rintro D_ cV ⟨zR,dP⟩;have vQ:firstM r t.k t.n=List.replicate n 8:=by unfold firstM;rw [apz Aw,aV];rfl
   rw [<-vQ] at zR;have vg:=MV.ext dP;have nr:=(mz.ext b9).ext dP;have rN:=(fU.trans b9).trans dP;have MO:=(G_.ext b9).ext dP;have Rs:(firstM r t.k t.n).length<=64:=by rw [vQ,apP];omega
   rw [<-aV]
   rotate_left
   have vQ:firstM r t.k t.n=r.first:=by unfold firstM;rw [apw Aw]
   have zR:=Wn;rw [<-vQ] at zR;have vg:=Hg;have nr:=mz;have rN:=fU;have MO:=G_;have Rs:(firstM r t.k t.n).length<=64:=by rw [vQ];omega
   simp +contextual only [vg.g,nr.g,apy Aw,↓an,aF,simprocAttr]
   all_goals
    have iK:=zR.len;rw [apG] at iK;have p0:=p1 (firstM r t.k t.n) Rs;simp +contextual only [vg.g,nr.g,aA,iK,RF,p0,↓an,aF,simprocAttr];have yw:gG r t.k t.n t.l.length=(t.l.length:Int) - (firstM r t.k t.n).length-r.last.length:=rfl;rw [<-yw];by_cases d1:gG r t.k t.n t.l.length<r.least
    . have df:kH r t.k t.n t.l.length=false:=by unfold kH;rw [aqj (by omega)];rfl
      simp +contextual only [apC d1,df,aqG,ap7,vg.g,nr.g,↓an,aF,simprocAttr];exact rN
    by_cases d2:r.kI<gG r t.k t.n t.l.length
    . have df:kH r t.k t.n t.l.length=false:=by unfold kH;rw [aqj (show ¬gG r t.k t.n t.l.length<=r.kI by omega),aqG]
      simp +contextual only [apy d1,apC d2,df,aqG,ap7,vg.g,nr.g,↓an,aF,simprocAttr];exact rN
    have df:kH r t.k t.n t.l.length=true:=by unfold kH;rw [aqf (show r.least<=_ by omega),aqf (show gG r t.k t.n t.l.length<=r.kI by omega)];rfl
    have aY:0<=gG r t.k t.n t.l.length:=by omega
    simp +contextual only [apy d1,apy d2,df,aA,ap6,vg.g,nr.g,↓an,aF,simprocAttr];have vT:=acD aY;have ab5:=fun (i:Nat) (ax:i<t.l.length)=>acC (r:=r) (k:=t.k) (n:=t.n) aY ax;have aot:gG r t.k t.n t.l.length<=t.l.length:=by unfold gG;omega
    have uj:(t.l.length:Int)=(firstM r t.k t.n).length+gG r t.k t.n t.l.length+r.last.length:=by unfold gG;omega
    generalize nJ r t.k t.n t.l.length=gs at *;generalize gG r t.k t.n t.l.length=rest at *;obtain ⟨ta,rfl⟩:=aqE aY;generalize firstM r t.k t.n=b5 at *
    refine gl (fun R g=>R 0=cM/\R 3=.ptr (aw h.next) 0/\R 5=.ptr (aw aa.next) 0/\R 8=.int .i64 ta/\R 85=cB/\R 86=.int .i64 t.l.length/\(∃D_,R 7=D_/\b0 Any g 1 (b5.map aX.gb) D_)/\b0 Any g 1 (r.last.map aX.gb) mo/\
     Has g h.next [.int .i64 t.k,.int .i64 t.n,.int .i64 t.a,.str t.s,cB]/\Has g aa.next [k5,.int .i64 r.rest,.int .i64 r.least,.int .i64 r.kI,mo,.int .i64 r.bP,.int .i64 r.ax,.int .i64 r.s]/\Ext h g/\
     ∃i:Nat,R 87=.int .i64 i/\i<=t.l.length/\nh ew gs t.l=nh ew (gs.drop i) (t.l.drop i)) (fun R g=>t.l.length - (R 87).toN) ?_ ?_
    . exact ⟨by simp only [↓an,bH,simprocAttr],by simp only [↓an,bH,simprocAttr],by simp only [↓an,bH,simprocAttr],by simp only [↓an,bH,simprocAttr]<;>rfl,by simp only [↓an,bH,simprocAttr],by simp only [↓an,bH,simprocAttr],⟨_,by simp only [↓an,bH,simprocAttr],zR⟩,MO,vg,nr,rN,0,by simp only [↓an,bH,simprocAttr]<;>rfl,by omega,rfl⟩
    rintro R g ⟨bh,ct,bT,ch,uO,uP,⟨D_,cY,GQ⟩,pg,P,B,E,i,uQ,ax,bz⟩;unfold O9;by_cases aR:i<t.l.length
    . have g0:((i:Int) < (t.l.length:Int))=True:=apC (by omega);obtain ⟨b,off,wl,cr,X,fe,ld,_,_,_⟩:=aQ.oX (L.ext E) (k:=.i64) aR;have k0:=ld g (Ext.refl g);have gn:=fe.one;have dU:=h8 aR (by unfold top at hle;omega);have aoj:=za (t:=t) (ap1 aR);have iK:=GQ.len;rw [apG] at iK;obtain ⟨g1,dz,bF,Z⟩:=fw g [.int .i64 0,.int .i64 0,.int .i64 0,.str [],.bg] [.int .i64 t.l[i].k,.int .i64 t.l[i].n,.int .i64 t.l[i].a,.str t.l[i].s,wl];have tD:=P.ext bF;have my:=B.ext bF;have dX:=ab5 i aR;have G:gs[i]? =some gs[i]:=apr (by omega);rw [ap0 aR,ap0 (show i<gs.length by omega),nh] at bz;rw [G] at dX;have dX:=aqB dX;generalize gs[i]=MC at *;have bW:IntKind.i64.wrap ((b5.length:Int) + (ta:Int))=((b5.length+ta:Nat):Int):=by rw [wrap_i64 (by omega) (by omega)];omega
      by_cases bD:i<b5.length;have Dg:((i:Int) < (b5.length:Int))=True:=apC (by omega);obtain ⟨cg,ajF,wu,wD⟩:=(GQ.ext bF).E_ (k:=.i64) bD;have d2:=wD g1 (Ext.refl g1);rw [dif_pos bD] at dX;rw [<-dX] at d2;simp +contextual only [bh,ct,bT,cY,ch,uO,uP,uQ,g0,cr,k0,gn.1,gn.2.1,dz,Z.g,my.g,iK,Dg,wu,d2,↓an,aF,simprocAttr]
      rotate_left
      rw [dif_neg bD] at dX;have Dg:((i:Int) < (b5.length:Int))=False:=apy (by omega);by_cases a2:b5.length+ta<=i;have xH:(((b5.length+ta:Nat):Int)<=(i:Int))=True:=apC (by omega);have bx:IntKind.i64.wrap (IntKind.i64.wrap ((i:Int) - (b5.length:Int)) - (ta:Int))=((i - (b5.length+ta):Nat):Int):=by rw [wrap_i64 (n:=(i:Int) - (b5.length:Int)) (by omega) (by omega),wrap_i64 (by omega) (by omega)];omega
      obtain ⟨cg,ajF,wu,wD⟩:=(pg.ext bF).E_ (k:=.i64) (i:=i - (b5.length+ta)) (by omega);have d2:=wD g1 (Ext.refl g1);rw [apw (by omega),apx,apr (by omega),apX] at dX;rw [<-dX] at d2;simp +contextual only [bh,ct,bT,cY,ch,uO,uP,uQ,g0,cr,k0,gn.1,gn.2.1,dz,Z.g,my.g,iK,Dg,xH,bW,bx,wu,d2,↓an,aF,simprocAttr]
      rotate_left
      have xH:(((b5.length+ta:Nat):Int)<=(i:Int))=False:=apy (by omega);rw [apz (by omega)] at dX;simp +contextual only [bh,ct,bT,cY,ch,uO,uP,uQ,g0,cr,k0,gn.1,gn.2.1,dz,Z.g,my.g,iK,Dg,xH,bW,<-dX,↓an,aF,simprocAttr]
      all_goals
       refine cu (afD t.l[i] MC _ g1 (X.ext bF)) ?_;rintro x g2 ⟨rfl,aS⟩;have xG:=Z.ext aS;have GG:=bF.trans aS;cases OU:uv t.l[i].k MC with
       | false=>
         rw [OU,ap7,ap7] at bz;simp +contextual only [bh,ct,bT,ch,uO,uP,uQ,xG.g,↓an,aF,simprocAttr];exact ⟨by rw [bz],E.trans GG⟩
       | true=>
         simp +contextual only [bh,ct,bT,ch,uO,uP,uQ,xG.g,gn.1,gn.2.1,↓an,aF,simprocAttr];refine cu (Tl N t.l[i] (by omega) bE cM F _ g2 (M.ext (E.trans GG)) (X.ext GG)) ?_;rintro x g3 ⟨rfl,bU⟩;have tn:=GG.trans bU;cases O6:t.l[i].may ew with
         | false=>
           rw [O6,aqG,ap7] at bz;simp +contextual only [bh,ct,bT,ch,uO,uP,uQ,↓an,aF,simprocAttr];exact ⟨by rw [bz],E.trans tn⟩
         | true=>
           rw [OU,O6,ap6,ap6] at bz;simp +contextual only [bh,ct,bT,cY,ch,uO,uP,uQ,dU,↓an,aF,simprocAttr];exact ⟨⟨GQ.ext tn,pg.ext tn,P.ext tn,(by first | exact B.ext tn | (rw [dX];exact B.ext tn)),E.trans tn,i+1,rfl,aR,bz⟩,by omega⟩
    . have g0:((i:Int) < (t.l.length:Int))=False:=apy (by omega);rw [aqv (show t.l.length<=i by omega),nh] at bz;simp +contextual only [bh,ct,bT,ch,uO,uP,uQ,g0,↓an,aF,simprocAttr];exact ⟨by rw [bz],E⟩
def vs (l:List aQ):Int:=if l.all (fun t=>decide (hC t.k=7)&&t.may ew) then (if l.all (fun t=>decide (t.deep<=200)) then 0 else 260) else 2
theorem ZW (l:List aQ) (aZ:cA l<=1000000000) (v:V) (h:ae) (L:b0 Any h 5 (l.map aQ.enc) v):c9 Tryz.prog 65 [v] h fun x ab=>x=.int .i64 (vs l)/\Ext h ab:=by
 have aA:=L.len;have hle:=L.le;rw [apG] at aA hle;refine Zl.z rfl (cw ?_);unfold OR;simp +contextual only [↓an,aF,simprocAttr];refine cu (alp h) ?_;rintro cM aa ⟨aK,M⟩;simp +contextual only [aA,↓an,aF,simprocAttr];refine gl (fun r g=>r 0=v/\r 3=cM/\r 9=v/\r 10=.int .i64 l.length/\∃i:Nat,r 11=.int .i64 i/\i<=l.length/\Ext aa g/\(l.take i).all (fun t=>decide (hC t.k=7)&&t.may ew)=true) (fun r g=>l.length - (r 11).toN) ?_ ?_
 . exact ⟨by simp only [↓an,bH,simprocAttr],by simp only [↓an,bH,simprocAttr],by simp only [↓an,bH,simprocAttr],by simp only [↓an,bH,simprocAttr],0,by simp only [↓an,bH,simprocAttr]<;>rfl,by omega,Ext.refl aa,rfl⟩
 rintro r g ⟨bh,ct,dK,ek,i,hf,ax,E,cW⟩;unfold OS;have pg:=L.ext (aK.trans E);by_cases aR:i<l.length
 . have g0:((i:Int) < (l.length:Int))=True:=apC (by omega);obtain ⟨b,off,wl,cr,X,fe,ld⟩:=aQ.lh pg (k:=.i64) aR;have k0:=ld g (Ext.refl g);have dU:=h8 aR (by unfold top at hle;omega);have bk:=qh (ap1 aR);have gn:=fe.one;obtain ⟨g1,dz,bF,Z⟩:=fw g [.int .i64 0,.int .i64 0,.int .i64 0,.str [],.bg] [.int .i64 l[i].k,.int .i64 l[i].n,.int .i64 l[i].a,.str l[i].s,wl];simp +contextual only [bh,ct,dK,ek,hf,g0,cr,k0,dz,Z.g,gn.1,gn.2.1,↓an,aF,simprocAttr];refine cu (QV l[i].k g1) ?_;rintro x g2 ⟨rfl,rfl⟩;have bad:(decide (hC l[i].k=7)&&l[i].may ew)=false->vs l=2:=fun q=>by
    unfold vs;rw [apw];intro z;have:=apU.1 z _ (ap1 aR);rw [q] at this;cases this
   by_cases bK:hC l[i].k=7
   . simp +contextual only [bh,ct,dK,ek,hf,Z.g,apC bK,↓an,aF,simprocAttr];refine cu (Tl _ l[i] (apv _) (by omega) cM _ _ g2 (M.ext (E.trans bF)) (X.ext bF)) ?_;rintro x g3 ⟨rfl,bU⟩;cases bR:l[i].may ew with
     | true=>
       simp +contextual only [bh,ct,dK,ek,hf,dU,↓an,aF,simprocAttr];refine ⟨⟨i+1,rfl,aR,E.trans (bF.trans bU),?_⟩,by omega⟩;rw [take_one aR,List.all_append,cW];simp [bK,bR]
     | false=>
       simp +contextual only [bh,ct,dU,↓an,aF,simprocAttr];exact ⟨by rw [bad (by rw [bR,aqG])],aK.trans (E.trans (bF.trans bU))⟩
   . simp +contextual only [bh,ct,dK,ek,hf,Z.g,apy bK,↓an,aF,simprocAttr];exact ⟨by rw [bad (by rw [aqj bK,ap7])],aK.trans (E.trans bF)⟩
 . have g0:((i:Int) < (l.length:Int))=False:=apy (by omega);rw [aqn (by omega)] at cW;have ao:vs l=if l.all (fun t=>decide (t.deep<=200)) then 0 else 260:=by unfold vs;rw [apz cW]
   rw [ao];simp +contextual only [bh,ct,dK,ek,hf,aA,g0,↓an,aF,simprocAttr];refine gl (fun r g=>r 26=v/\r 27=.int .i64 l.length/\∃i:Nat,r 28=.int .i64 i/\i<=l.length/\Ext h g/\(l.take i).all (fun t=>decide (t.deep<=200))=true) (fun r g=>l.length - (r 28).toN) ?_ ?_
   . exact ⟨by simp only [bh,↓an,bH,simprocAttr],by simp only [↓an,bH,simprocAttr],0,by simp only [↓an,bH,simprocAttr]<;>rfl,by omega,aK.trans E,rfl⟩
   clear ax bh ct dK ek hf pg E g0 aR;rintro r g ⟨F1,F2,i,ke,ax,E,cW⟩;unfold OT;have pg:=L.ext E;by_cases aR:i<l.length
   . have g0:((i:Int) < (l.length:Int))=True:=apC (by omega);obtain ⟨b,off,wl,cr,X,fe,ld⟩:=aQ.lh pg (k:=.i64) aR;have k0:=ld g (Ext.refl g);have dU:=h8 aR (by unfold top at hle;omega);have bk:=qh (ap1 aR);have gn:=fe.one;obtain ⟨g1,dz,bF,Z⟩:=fw g [.int .i64 0,.int .i64 0,.int .i64 0,.str [],.bg] [.int .i64 l[i].k,.int .i64 l[i].n,.int .i64 l[i].a,.str l[i].s,wl];simp +contextual only [F1,F2,ke,g0,cr,k0,dz,Z.g,gn.1,gn.2.1,↓an,aF,simprocAttr];refine cu (PI _ l[i] (apv _) (by omega) _ g1 (X.ext bF)) ?_;rintro x g2 ⟨rfl,aS⟩;by_cases bK:(200:Int) < (l[i].deep:Int)
     . simp +contextual only [F1,F2,ke,apC bK,↓an,aF,simprocAttr];refine ⟨?_,E.trans (bF.trans aS)⟩;rw [apw];intro z;have:=apU.1 z _ (ap1 aR);simp only [apF] at this;omega
     . simp +contextual only [F1,F2,ke,dU,apy bK,↓an,aF,simprocAttr];refine ⟨⟨i+1,rfl,aR,E.trans (bF.trans aS),?_⟩,by omega⟩;rw [take_one aR,List.all_append,cW];simp;omega
   . have g0:((i:Int) < (l.length:Int))=False:=apy (by omega);rw [aqn (by omega)] at cW;simp +contextual only [F1,F2,ke,aA,g0,↓an,aF,simprocAttr];exact ⟨by rw [apz cW],E⟩
def ob (p:aQ):Bool:=decide (p.k=10)||decide (p.k=11)
abbrev c_:=Int × Int × List UInt8 × Int
def fs (p:aQ):c_:=(p.k,p.n,p.s,(p.l.length:Int))
structure bI where
 name:List UInt8
 ty:List UInt8
 tag:Int
 par:Int
 arg:List (List D)
def bI.enc (c:bI):List D:=[.s c.name,.s c.ty,.i .i64 c.tag,.i .i64 c.par,.l 4 c.arg]
def dZ (s:List UInt8):List bI->Option bI
 | []=>none
 | c::cs=>if c.name=s then some c else dZ s cs
def kW (cs:List bI) (s:List UInt8):List UInt8:=match dZ s cs with
 | some c=>c.ty
 | none=>[]
def jr (p:aQ):Bool:=decide (10<=p.k)&&decide (p.k<=16)&&p.may ew
def ks (cs:List bI) (p q:aQ):Bool:=decide (q.k=p.k)&&(decide (p.k≠16)||match dZ q.s cs with
 | some c=>decide (c.ty=kW cs p.s)&&decide (c.arg.length=q.l.length)
 | none=>false)
def gO (s:List aQ) (h:c_) (i:Nat):List aQ:=(s.filter fun q=>decide (fs q=h)).filterMap (·.l[i]?)
def iq (l:List aQ):List aQ:=l.filter fun p=>!ob p
def gH (cs:List bI):Nat->List aQ->Bool
 | 0,_=>true
 | n+1,l=>match iq l with
   | []=>true
   | p::s=>(p::s).all (ks cs p)&&(p::s).all fun q=>(List.range q.l.length).all fun i=>gH cs n (gO (p::s) (fs q) i)
def FH (pre:List bI) (c:bI):Bool:=!pre.any (fun d=>decide (d.name=c.name))&&!pre.any (fun d=>decide (d.ty=c.ty/\d.tag=c.tag))&&decide (c.arg.length<=1)&&ew 4 c.name
def jL (pre:List bI):List bI->Bool
 | []=>true
 | c::cs=>FH pre c&&jL (pre++[c]) cs
def h_ (cs:List bI) (l:List aQ):Int:=if (jL [] cs&&l.all jr&&gH cs (cA l) l)=true then 0 else 2
theorem alm (k:Int) (h:10<=k/\k<=16):hC k=2:=by unfold hC;rw [apw (by omega),apz h]
theorem acB {k:Int} (h:hC k=2):10<=k/\k<=16:=by
 unfold hC at h;by_cases bK:1<=k/\k<=4
 . rw [apz bK] at h;omega
 . rw [apw bK] at h;by_cases bR:10<=k/\k<=16
   . exact bR
   . rw [apw bR] at h;exfalso
     repeat' (split at h)
     all_goals omega
theorem Lk:∀{n:Nat} {l:List aQ},l.length<=n->mu ew (List.replicate n 2) l=true->∀q ∈ l,hC q.k=2/\q.lr ew=true
 | _,[],_,_,q,az=>by cases az
 | 0,t::l,aA,_,_,_=>by simp at aA
 | n+1,t::l,aA,h,q,az=>by
   simp only [List.replicate_succ,mu,uT,apq] at h;simp only [apB] at aA;rcases apJ.1 az with rfl | az
   . exact ⟨by simpa using h.1.1,h.1.2⟩
   . exact Lk (by omega) h.2 q az
theorem uA {p q:aQ} (h:q ∈ p.l):q.size<p.size:=za h
theorem FR {p:aQ} (aZ:p.size<=1000000000) (h:jr p=true):
 10<=p.k/\p.k<=16/\(p.k=15->p.l.length=2/\p.n=0/\p.s=[])/\(p.k=16->p.l.length<=1/\p.n=0)/\(p.k≠15->p.k≠16->p.l=[])/\∀q ∈ p.l,jr q=true:=by
 simp only [jr,apq,apF] at h;obtain ⟨⟨aa,ad⟩,aJ⟩:=h;have aC:=yS (named:=ew) p.size p (apv _) aZ;rw [aJ] at aC;rw [ale] at aC;simp only [apq,apF] at aC;obtain ⟨⟨⟨⟨⟨⟨bM,dc⟩,ct⟩,cL⟩,bT⟩,eU⟩,cY⟩:=aC;have lh:∀q ∈ p.l,hC q.k=2/\q.lr ew=true->jr q=true:=by intro q az ⟨a,b⟩;have:=acB a;rw [yS (named:=ew) q.size q (apv _) (by have:=uA az;omega)] at b;simp [jr,this.1,this.2,b]
 have aB:p.k=10\/p.k=11\/p.k=12\/p.k=13\/p.k=14\/p.k=15\/p.k=16:=by omega
 refine ⟨aa,ad,?_⟩;rcases aB with e | e | e | e | e | e | e<;>rw [e] at dc ct eU cY<;>simp [uU,qm,kS] at dc ct eU cY
 all_goals rw [e]
 all_goals first
  | (refine ⟨by intro z;omega,by intro z;omega,fun _ _=>eU,fun q az=>?_⟩;rw [eU] at az;cases az)
  | skip
 . exact ⟨fun _=>⟨eU,ct,dc⟩,by intro z;omega,by intro z;omega,fun q az=>lh q az (Lk (n:=2) (by omega) (by simpa [List.replicate] using cY) q az)⟩
 . exact ⟨by intro z;omega,fun _=>⟨eU,ct⟩,fun _ z=>absurd rfl z,fun q az=>lh q az (Lk (apv _) cY q az)⟩
end
end Go.Proofs.YtgmhjhgoamjeeaaGreatDoor
