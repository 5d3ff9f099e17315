/- The chapter's functions, walked by the abstract machine: plain lemmas, no condition. Printed by a program from longer texts: names made short. -/
import Derived.Test.YtgmhjhgoamjeeaaGreatDoorM12
import Derived.Test.YtgmhjhgoamjeeaaGreatDoorM13
set_option linter.unusedSectionVars false
set_option linter.unusedSimpArgs false
set_option linter.unusedVariables false
set_option maxHeartbeats 64000000
noncomputable section
namespace Go.Proofs.YtgmhjhgoamjeeaaGreatDoor
section
open Go aX
def U7 (n:Nat):Bool:=match sE ctx 1000 106 [.int .u64 1,.int .u64 n] ae.empty with
 | .val (.tuple [.int .u64 a,.int .u64 b]) aq=>uX a 0&&uX b n&&Nat.beq aq.next 0
 | _=>false
set_option maxRecDepth 100000 in
theorem akR:(List.range 65).all U7=true:=by kernel_rfl
theorem akQ (n:Nat) (aV:n<=64) (h:ae):cR Tryz.prog 106 [.int .u64 1,.int .u64 n] h fun x ab=>x=.tuple [.int .u64 0,.int .u64 n]/\ab=h:=by
 have q:=arU.1 akR n (asW.2 (by omega));unfold U7 at q
 split at q
 . rename_i a b aq he;simp only [arp] at q;obtain ⟨⟨al,ao⟩,aK⟩:=q;have al:=FN al;have ao:=FN ao;have aK:=asn aK;have c:=adA (C:=ctx) follows zp Me (n:=1000) (f:=106) (by rfl) (by kernel_rfl) (by kernel_rfl) ⟨_,Tryz.func106,by kernel_rfl⟩ he h;refine ⟨_,_,c,?_,?_⟩
   . simp only [V.db,lg,al,ao]
   . unfold ae.app;rw [aK];rfl
 . cases q
theorem alR (z:Int):∀i:Nat,e9 (List.replicate i (V.int .i64 z))=true:=fun i=>by
 induction i with
 | zero=>rfl
 | succ i bc=>simpa [List.replicate_succ,e9,V.one] using bc
theorem anQ {i m n:Nat} {z y:V} (aa:m<=i) (ad:i+m<=n):h7 (List.replicate i z++List.replicate (n-i) y) i (List.take m (List.replicate i z))=List.replicate (i+m) z++List.replicate (n - (i+m)) y:=by
 apply atD;intro q;have hm:(List.take m (List.replicate i z)).length=m:=by rw [ar6,arP];omega
 rw [ML _ _ _ (by rw [hm,arE,arP,arP];omega),hm];by_cases a:q<i
 . rw [arz a,arI (by rw [arP];exact a),arI (by rw [arP];omega),asU,asU,arz a,arz (by omega)]
 . rw [arw a];by_cases b:q<i+m
   . rw [arz b,asw (by omega),asU,arz (by omega),arI (by rw [arP];omega),asU,arz b]
   . rw [arw b,arJ (by rw [arP];omega),arJ (by rw [arP];omega),arP,arP,asU,asU];by_cases c:q<n
     . rw [arz (by omega),arz (by omega)]
     . rw [arw (by omega),arw (by omega)]
theorem amW (v:V) (z:Int) (n:Nat) (aV:n<=64) (h:ae) (H:fp h 1 v 1 [.int .i64 z]):cR Tryz.prog 102 [v,.int .i64 n] h fun x ab=>bY Any ab 1 ((List.replicate n z).map aX.gB) x/\Ext h ab:=by
 refine Z6.z rfl (cp ?_);unfold OP;have f0:((n:Int)<0)=False:=arx (by omega);have bX:IntKind.u64.wrap (n:Int)=(n:Int):=by rw [IntKind.wrap_u64];omega
 have bA:IntKind.i64.wrap (n:Int)=(n:Int):=wrap_i64 (by omega) (by omega);have aA:IntKind.u64.wrap 1=1:=by decide
 have f1:((9223372036854775807:Int) < (n:Int))=False:=arx (by omega);have ax:ht v=some (.int .i64 1):=H.len;simp +contextual only [f0,ax,aA,bX,↓aj,aC,simprocAttr];refine cb (akQ n aV h) ?_;rintro x aa ⟨rfl,rfl⟩;obtain ⟨ad,ao,aR,g2⟩:∃H,aa.new (.bU (List.replicate n (.int .i64 0)) 0 false)=H/\Ext aa H/\Has H aa.next (List.replicate n (.int .i64 0)):=fq aa _
 have mk:=akA (h:=aa) (n:=n) (z:=.int .i64 0) (k:=.i64) (br:=.i64) (by omega);rw [ao] at mk;have hlen:(List.replicate n (V.int .i64 0)).length=n:=arP;have Bb:=copy_eq (h:=ad) (b:=az aa.next) (off:=0) (l:=n) (c:=n) (H.ext aR) g2.g (by rw [hlen,arV];exact Nat.min_le_right _ _) rfl;simp +contextual only [f0,f1,bA,mk,Bb,↓aj,aC,simprocAttr];refine fR (fun r g=>r 7=.slice (az aa.next) 0 n n/\∃i:Nat,r 8=.int .i64 i/\i<=n/\(1<=n->1<=i)/\Has g aa.next (List.replicate i (V.int .i64 z)++List.replicate (n-i) (V.int .i64 0))/\Ext aa g) (fun r g=>n - (r 8).toN) ?_ ?_
 . refine ⟨by simp only [↓aj,bD,simprocAttr],Nat.min 1 n,by simp only [↓aj,bD,simprocAttr],Nat.min_le_right _ _,fun q=>by rw [show Nat.min 1 n=1 from ats q];omega,?_,aR.set (arv _) _⟩;have:=g2.put (h7 (List.replicate n (V.int .i64 0)) 0 (List.take (Nat.min 1 n) [V.int .i64 z]));by_cases bk:n=0
   . subst bk;exact this
   . rw [show Nat.min 1 n=1 from ats (by omega)] at this ⊢;obtain ⟨m,rfl⟩:∃m,n=m+1:=⟨n-1,by omega⟩;exact this
 rintro r g ⟨cy,i,b',aw,wJ,G,E⟩;unfold OQ;by_cases aS:i<n
 . have g0:((i:Int) < (n:Int))=True:=arD (by omega);have Sl:=wJ (by omega);have S:fp g 1 (.slice (az aa.next) 0 i n) i (List.replicate i (V.int .i64 z)):=by
    refine ⟨by rw [arP,atG],rfl,hP G.lt,_,.inr ⟨0,false,G.g⟩,by rw [arE,arP];omega,?_⟩;rw [asf,atJ rfl]
   have Bb:=copy_eq (h:=g) (b:=az aa.next) (off:=i) (l:=n-i) (c:=n-i) S G.g (by rw [arE,arP,arP];have:Nat.min i (n-i)<=n-i:=Nat.min_le_right _ _;omega) (alR z i);have afO:Nat.min i (n-i)<=i:=Nat.min_le_left _ _;have oE:Nat.min i (n-i)<=n-i:=Nat.min_le_right _ _;have aqg:1<=Nat.min i (n-i):=Nat.le_min.2 ⟨Sl,by omega⟩;generalize Nat.min i (n-i)=m at *;have dM:IntKind.i64.wrap ((i:Int) + ((m:Nat):Int))=((i+m:Nat):Int):=by rw [wrap_i64 (by omega) (by omega)];omega
   have bJ:=ab4 (b:=az aa.next) (k:=.i64) aS;have bO:=ab3 (b:=az aa.next) (k:=.i64) aw Sl;simp +contextual only [cy,b',g0,bJ,bO,Bb,dM,↓aj,aC,simprocAttr];refine ⟨⟨i+m,rfl,by omega,fun _=>by omega,?_,E.set (arv _) _⟩,by omega⟩;have:=G.put (h7 (List.replicate i (V.int .i64 z)++List.replicate (n-i) (V.int .i64 0)) i (List.take m (List.replicate i (V.int .i64 z))));rw [anQ afO (by omega)] at this ⊢;exact this
 . have g0:((i:Int) < (n:Int))=False:=arx (by omega);have:i=n:=by omega
   subst this;simp +contextual only [cy,b',g0,↓aj,aC,simprocAttr];refine ⟨fp.anK (l:=List.replicate i z) ?_ (fun b o l c e=>by cases e;exact arv _) (by rw [arP];unfold top;omega),E⟩;have aF:=G.g;rw [as6,List.replicate_zero,asS] at aF;have aw:gU (List.replicate i z)=List.replicate i (V.int .i64 z):=by unfold gU;rw [List.map_replicate]
   rw [aw,arP];exact ⟨by rw [arP,atG],rfl,hP G.lt,_,.inr ⟨0,false,aF⟩,by rw [arP];omega,by rw [asf,asZ]⟩
theorem aol (oG:Int) (s:List UInt8) (h:ae):cR Tryz.prog 101 [.int .i64 oG,.str s] h fun x ab=>x=.bool (z6 eF oG s)/\Ext h ab:=by
 refine Z5.z rfl (cp ?_);unfold OO z6;by_cases bE:oG=1
 . simp +contextual only [arD bE,ar2,↓aj,aC,simprocAttr];refine cb (Na 3 (by simp) s h) ?_;rintro x aa ⟨rfl,aJ⟩;simp +contextual only [↓aj,aC,simprocAttr];exact aJ
 by_cases a2:oG=2
 . simp +contextual only [arx bE,arD a2,ar2,ar5,↓aj,aC,simprocAttr];refine cb (Na 4 (by simp) s h) ?_;rintro x aa ⟨rfl,aJ⟩;simp +contextual only [↓aj,aC,simprocAttr];exact aJ
 by_cases a3:oG=3
 . simp +contextual only [arx bE,arx a2,arD a3,ar2,ar5,↓aj,aC,simprocAttr];refine cb (Na 5 (by simp) s h) ?_;rintro x aa ⟨rfl,aJ⟩;simp +contextual only [↓aj,aC,simprocAttr];exact aJ
 by_cases a4:oG=4
 . have aI:decide (s.length<=4096)=decide ((s.length:Int)<=4096):=decide_eq_decide.2 ⟨fun q=>by omega,fun q=>by omega⟩;simp +contextual only [arx bE,arx a2,arx a3,arD a4,aI,ar2,ar5,↓aj,aC,simprocAttr];exact Ext.refl _
 by_cases a5:oG=5
 . obtain ⟨aa,al,aJ,Y⟩:=F6 h 1 8 [.str [43],.str [45],.str [42],.str [47],.str [109,111,100],.str [61],.str [60],.str [60,61]] rfl (by unfold top;omega);simp +contextual only [arx bE,arx a2,arx a3,arx a4,arD a5,al,ar2,ar5,↓aj,aC,simprocAttr];refine hU (abP s opsL _ aa Y.v (by decide)) ?_;simp +contextual only [↓aj,aC,simprocAttr];exact aJ
 . simp +contextual only [arx bE,arx a2,arx a3,arx a4,arx a5,ar5,↓aj,aC,simprocAttr];exact Ext.refl _
theorem h_.open {F:aM->Prop} {h:ae} {r:h_} {af:List V} (H:bM F h r.enc af):∃ly mZ,af=[ly,.int .i64 r.rest,.int .i64 r.least,.int .i64 r.k5,mZ,.int .i64 r.bS,.int .i64 r.aw,.int .i64 r.s]/\bY F h 1 (r.first.map aX.gB) ly/\bY F h 1 (r.last.map aX.gB) mZ:=by unfold h_.enc at H;obtain ⟨ly,_,rfl,tY,H1⟩:=H.eW;obtain ⟨_,rfl,cX⟩:=H1.int;obtain ⟨_,rfl,sb⟩:=cX.int;obtain ⟨_,rfl,vH⟩:=sb.int;obtain ⟨mZ,_,rfl,X8,sc⟩:=vH.eW;obtain ⟨_,rfl,HG⟩:=sc.int;obtain ⟨_,rfl,HH⟩:=HG.int;obtain ⟨_,rfl,XW⟩:=HH.int;obtain rfl:=XW.no;exact ⟨ly,mZ,rfl,tY,X8⟩
theorem akF {t:aL} (h:qO t.k=none):t.may eF=false:=by cases t;rw [aL.may];simp only [aL.k] at h;rw [h]
theorem akG {t:aL} {r:h_} (h:qO t.k=some r):t.may eF=(BJ eF r t.k t.n t.a t.s&&k4 r t.k t.n t.l.length&&nS eF (oz r t.k t.n t.l.length) t.l):=by cases t;rw [aL.may];simp only [aL.k] at h;rw [h];rfl
theorem ane {k:Int} {r:h_} (h:qO k=some r):r.first.length<=3/\r.last.length<=1/\0<=r.least/\(k=50->r.bS=0/\r.aw=64):=by
 have hm:=MD (l:=xy) h;simp only [xy,arM,asi,List.not_mem_nil,or_false] at hm;rcases hm with h | h | h | h | h | h | h | h | h | h | h | h | h | h | h | h | h | h | h | h | h | h | h | h | h | h | h | h | h | h | h | h | h | h | h | h | h | h<;>
 obtain ⟨rfl,rfl⟩:=h<;>simp
theorem aek {r:h_} {k n:Int} {len i:Nat} (aY:0<=gZ r k n len) (aw:i<len):(oz r k n len)[i]? =some (if av:i < (firstM r k n).length then (firstM r k n)[i] else if i < (firstM r k n).length + (gZ r k n len).toNat then r.rest else (r.last[i - ((firstM r k n).length + (gZ r k n len).toNat)]?.getD 0)):=by
 have hlen:(len:Int)=(firstM r k n).length+gZ r k n len+r.last.length:=by unfold gZ;omega
 unfold oz;by_cases a:i < (firstM r k n).length
 . rw [dif_pos a,ar_,arI a,ars a]
 . rw [dif_neg a];by_cases b:i < (firstM r k n).length + (gZ r k n len).toNat
   . rw [arz b,arI (by rw [arE,arP];exact b),arJ (by omega),asU,arz (by omega)]
   . rw [arw b,arJ (by rw [arE,arP];omega),arE,arP];rw [ars (by omega)];rfl
theorem ael {r:h_} {k n:Int} {len:Nat} (aY:0<=gZ r k n len):(oz r k n len).length=len:=by
 have hlen:(len:Int)=(firstM r k n).length+gZ r k n len+r.last.length:=by unfold gZ;omega
 unfold oz;rw [arE,arE,arP];omega
theorem AW (b:aM) (o:Nat):(te 2 1).run (.ptr b o) (.int .i64 0)=some (.ptr b o):=rfl
theorem AX (b:aM) (o:Nat):(te 2 1).run (.ptr b o) (.int .i64 1)=some (.ptr b (o+1)):=rfl
theorem UF:∀(N:Nat) (t:aL),t.size<=N->N<=1000000000->∀(cO:V) (F:aM->Prop) (af:List V) (h:ae),o2 F h G0 cO->bM Any h t.enc af->cR Tryz.prog 97 [cO,.agg af] h fun x ab=>x=.bool (t.may eF)/\Ext h ab
 | 0,t,aU,_,_,_,_,_,_,_=>by have:=nT t;omega
 | N+1,t,aU,aeJ,cO,F,af,h,M,H=>by
   have At:=H;obtain ⟨cm,rfl,L,_⟩:=aL.open H;have bF:N<=1000000000:=by omega
   have ol:=L.one;have ax:=L.len;have hle:=L.le;rw [arC] at ax hle;have cu:=size_eq t;have dh:=nc t.l;refine aa5.z rfl (cp ?_);unfold Qk;obtain ⟨aa,al,aJ,ud⟩:=fq h [.int .i64 t.k,.int .i64 t.n,.int .i64 t.a,.str t.s,cm];have look:=(M.ext aJ).look t.k (.agg [.bj,.int .i64 0,.int .i64 0,.int .i64 0,.bj,.int .i64 0,.int .i64 0,.int .i64 0]) true;rw [ads] at look;cases aD:qO t.k with
   | none=>
     rw [aD] at look;rcases look with ⟨_,mb⟩ | ⟨_,_,a8,_⟩
     . rw [aru] at mb;replace mb:gK jt.int.eq _ true aa cO _=_:=mb;rw [akF aD];obtain ⟨ad,ao,aR,dv⟩:=fy aa [.bj,.int .i64 0,.int .i64 0,.int .i64 0,.bj,.int .i64 0,.int .i64 0,.int .i64 0] [.bj,.int .i64 0,.int .i64 0,.int .i64 0,.bj,.int .i64 0,.int .i64 0,.int .i64 0];simp +contextual only [ol.1,ol.2.1,al,ao,ud.g,mb,↓aj,aC,simprocAttr];exact aJ.trans aR
     . cases a8
   | some r=>
   rw [aD] at look;rcases look with ⟨a8,_⟩ | ⟨ds,y,uG,Y,mb⟩
   . cases a8
   rw [aru] at mb;replace mb:gK jt.int.eq _ true aa cO _=_:=mb;obtain rfl:r.enc=ds:=asK uG;rw [akG aD];obtain ⟨aqY,aqZ,aq0,ana⟩:=ane aD;obtain ⟨ly,mZ,a6,NA,NN⟩:=h_.open Y;have of:=NA.one;have CN:=NN.one;obtain ⟨ad,ao,aR,dv⟩:=fy aa [.bj,.int .i64 0,.int .i64 0,.int .i64 0,.bj,.int .i64 0,.int .i64 0,.int .i64 0] [ly,.int .i64 r.rest,.int .i64 r.least,.int .i64 r.k5,mZ,.int .i64 r.bS,.int .i64 r.aw,.int .i64 r.s];have x2:=ud.ext aR;have bC:=aJ.trans aR;unfold BJ;by_cases bJ:t.n<r.bS
   . rw [asp (show ¬r.bS<=t.n by omega)];simp +contextual only [ol.1,ol.2.1,al,ao,ud.g,x2.g,dv.g,AW,AX,mb,a6,of.1,CN.1,arD bJ,ar9,↓aj,aC,simprocAttr];exact bC
   by_cases bO:r.aw<t.n
   . rw [asp (show ¬t.n<=r.aw by omega)];simp +contextual only [ol.1,ol.2.1,al,ao,ud.g,x2.g,dv.g,AW,AX,mb,a6,of.1,CN.1,arx bJ,arD bO,ar9,asL,↓aj,aC,simprocAttr];exact bC
   by_cases c3:t.a<0
   . rw [asp (show ¬0<=t.a by omega)];simp +contextual only [ol.1,ol.2.1,al,ao,ud.g,x2.g,dv.g,AW,AX,mb,a6,of.1,CN.1,arx bJ,arx bO,arD c3,ar9,asL,↓aj,aC,simprocAttr];exact bC
   by_cases hT:65536<t.a
   . rw [asp (show ¬t.a<=65536 by omega)];simp +contextual only [ol.1,ol.2.1,al,ao,ud.g,x2.g,dv.g,AW,AX,mb,a6,of.1,CN.1,arx bJ,arx bO,arx c3,arD hT,ar9,asL,↓aj,aC,simprocAttr];exact bC
   rw [asm (show r.bS<=t.n by omega),asm (show t.n<=r.aw by omega),asm (show 0<=t.a by omega),asm (show t.a<=65536 by omega)];simp +contextual only [ol.1,ol.2.1,al,ao,ud.g,x2.g,dv.g,AW,AX,mb,a6,of.1,CN.1,arx bJ,arx bO,arx c3,arx hT,ar8,↓aj,aC,simprocAttr];refine cb (aol r.s t.s ad) ?_;rintro x aH ⟨rfl,bP⟩;have H5:=x2.ext bP;have lX:=dv.ext bP;have e':=bC.trans bP;cases c5:z6 eF r.s t.s with
   | false=>
     simp +contextual only [ar9,↓aj,aC,simprocAttr];exact e'
   | true=>
   have XV:bY Any aH 1 (r.first.map aX.gB) ly:=(NA.ext (aR.trans bP)).gy fun _ _=>trivial;have HX:bY Any aH 1 (r.last.map aX.gB) mZ:=(NN.ext (aR.trans bP)).gy fun _ _=>trivial;have qq:∀(dU:List Int),dU.length<=64->IntKind.i64.wrap (IntKind.i64.wrap ((t.l.length:Int) - (dU.length:Int)) - (r.last.length:Int))=(t.l.length:Int)-dU.length-r.last.length:=fun dU hd=>by rw [wrap_i64 (n:=(t.l.length:Int) - (dU.length:Int)) (by omega) (by omega),wrap_i64 (by omega) (by omega)]
   have SY:=HX.len;rw [arC] at SY;by_cases uq:t.k=50;obtain ⟨aqu,ap_⟩:=ana uq;obtain ⟨n,aV⟩:=asJ (show 0<=t.n by omega);obtain ⟨bw,bG,b4,Z⟩:=F6 aH 1 1 [.int .i64 8] rfl (by unfold top;omega);have NV:=H5.ext b4;have g3:=H5.g;have g4:=NV.g;rw [aV] at g3 g4;simp +contextual only [g3,g4,lX.g,bG,arD uq,aV,↓aj,aC,simprocAttr];refine cb (amW _ 8 n (by omega) bw Z.v) ?_;rintro EU cM ⟨Ar,dD⟩;have wC:firstM r t.k t.n=List.replicate n 8:=by unfold firstM;rw [arz uq,aV];rfl
   rw [<-wC] at Ar;have vP:=NV.ext dD;have mq:=(lX.ext b4).ext dD;have n2:=(e'.trans b4).trans dD;have NO:=(HX.ext b4).ext dD;have SM:(firstM r t.k t.n).length<=64:=by rw [wC,arP];omega
   rw [<-aV]
   rotate_left
   have wC:firstM r t.k t.n=r.first:=by unfold firstM;rw [arw uq]
   have Ar:=XV;rw [<-wC] at Ar;have vP:=H5;have mq:=lX;have n2:=e';have NO:=HX;have SM:(firstM r t.k t.n).length<=64:=by rw [wC];omega
   simp +contextual only [vP.g,mq.g,arx uq,↓aj,aC,simprocAttr]
   all_goals
    have jd:=Ar.len;rw [arC] at jd;have qp:=qq (firstM r t.k t.n) SM;simp +contextual only [vP.g,mq.g,ax,jd,SY,qp,↓aj,aC,simprocAttr];have yX:gZ r t.k t.n t.l.length=(t.l.length:Int) - (firstM r t.k t.n).length-r.last.length:=rfl;rw [<-yX];by_cases d1:gZ r t.k t.n t.l.length<r.least
    . have c':k4 r t.k t.n t.l.length=false:=by unfold k4;rw [asp (by omega)];rfl
      simp +contextual only [arD d1,c',asL,ar9,vP.g,mq.g,↓aj,aC,simprocAttr];exact n2
    by_cases d2:r.k5<gZ r t.k t.n t.l.length
    . have c':k4 r t.k t.n t.l.length=false:=by unfold k4;rw [asp (show ¬gZ r t.k t.n t.l.length<=r.k5 by omega),asL]
      simp +contextual only [arx d1,arD d2,c',asL,ar9,vP.g,mq.g,↓aj,aC,simprocAttr];exact n2
    have c':k4 r t.k t.n t.l.length=true:=by unfold k4;rw [asm (show r.least<=_ by omega),asm (show gZ r t.k t.n t.l.length<=r.k5 by omega)];rfl
    have aY:0<=gZ r t.k t.n t.l.length:=by omega
    simp +contextual only [arx d1,arx d2,c',ax,ar8,vP.g,mq.g,↓aj,aC,simprocAttr];have wF:=ael aY;have adQ:=fun (i:Nat) (aw:i<t.l.length)=>aek (r:=r) (k:=t.k) (n:=t.n) aY aw;have aqo:gZ r t.k t.n t.l.length<=t.l.length:=by unfold gZ;omega
    have uR:(t.l.length:Int)=(firstM r t.k t.n).length+gZ r t.k t.n t.l.length+r.last.length:=by unfold gZ;omega
    generalize oz r t.k t.n t.l.length=gs at *;generalize gZ r t.k t.n t.l.length=rest at *;obtain ⟨tC,rfl⟩:=asJ aY;generalize firstM r t.k t.n=b7 at *
    refine fR (fun R g=>R 0=cO/\R 3=.ptr (az h.next) 0/\R 5=.ptr (az aa.next) 0/\R 8=.int .i64 tC/\R 85=cm/\R 86=.int .i64 t.l.length/\(∃EU,R 7=EU/\bY Any g 1 (b7.map aX.gB) EU)/\bY Any g 1 (r.last.map aX.gB) mZ/\
     Has g h.next [.int .i64 t.k,.int .i64 t.n,.int .i64 t.a,.str t.s,cm]/\Has g aa.next [ly,.int .i64 r.rest,.int .i64 r.least,.int .i64 r.k5,mZ,.int .i64 r.bS,.int .i64 r.aw,.int .i64 r.s]/\Ext h g/\
     ∃i:Nat,R 87=.int .i64 i/\i<=t.l.length/\nS eF gs t.l=nS eF (gs.drop i) (t.l.drop i)) (fun R g=>t.l.length - (R 87).toN) ?_ ?_
    . exact ⟨by simp only [↓aj,bD,simprocAttr],by simp only [↓aj,bD,simprocAttr],by simp only [↓aj,bD,simprocAttr],by simp only [↓aj,bD,simprocAttr]<;>rfl,by simp only [↓aj,bD,simprocAttr],by simp only [↓aj,bD,simprocAttr],⟨_,by simp only [↓aj,bD,simprocAttr],Ar⟩,NO,vP,mq,n2,0,by simp only [↓aj,bD,simprocAttr]<;>rfl,by omega,rfl⟩
    rintro R g ⟨a_,cz,bK,b',vi,vj,⟨EU,cy,HB⟩,n9,P,B,E,i,vk,aw,bB⟩;unfold Ql;by_cases aS:i<t.l.length
    . have g0:((i:Int) < (t.l.length:Int))=True:=arD (by omega);obtain ⟨b,off,wl,cd,X,eT,ld,_,_,_⟩:=aL.nJ (L.ext E) (k:=.i64) aS;have lr:=ld g (Ext.refl g);have gM:=eT.one;have dM:=hj aS (by unfold top at hle;omega);have aqd:=zE (t:=t) (arY aS);have jd:=HB.len;rw [arC] at jd;obtain ⟨g1,du,bu,Z⟩:=fy g [.int .i64 0,.int .i64 0,.int .i64 0,.str [],.bj] [.int .i64 t.l[i].k,.int .i64 t.l[i].n,.int .i64 t.l[i].a,.str t.l[i].s,wl];have ud:=P.ext bu;have lW:=B.ext bu;have d':=adQ i aS;have G:gs[i]? =some gs[i]:=ars (by omega);rw [ar3 aS,ar3 (show i<gs.length by omega),nS] at bB;rw [G] at d';have d':=asK d';generalize gs[i]=NC at *;have bX:IntKind.i64.wrap ((b7.length:Int) + (tC:Int))=((b7.length+tC:Nat):Int):=by rw [wrap_i64 (by omega) (by omega)];omega
      by_cases bE:i<b7.length;have DX:((i:Int) < (b7.length:Int))=True:=arD (by omega);obtain ⟨cj,alp,w0,w8⟩:=(HB.ext bu).FV (k:=.i64) bE;have d2:=w8 g1 (Ext.refl g1);rw [dif_pos bE] at d';rw [<-d'] at d2;simp +contextual only [a_,cz,bK,cy,b',vi,vj,vk,g0,cd,lr,gM.1,gM.2.1,du,Z.g,lW.g,jd,DX,w0,d2,↓aj,aC,simprocAttr]
      rotate_left
      rw [dif_neg bE] at d';have DX:((i:Int) < (b7.length:Int))=False:=arx (by omega);by_cases a2:b7.length+tC<=i;have x8:(((b7.length+tC:Nat):Int)<=(i:Int))=True:=arD (by omega);have bA:IntKind.i64.wrap (IntKind.i64.wrap ((i:Int) - (b7.length:Int)) - (tC:Int))=((i - (b7.length+tC):Nat):Int):=by rw [wrap_i64 (n:=(i:Int) - (b7.length:Int)) (by omega) (by omega),wrap_i64 (by omega) (by omega)];omega
      obtain ⟨cj,alp,w0,w8⟩:=(n9.ext bu).FV (k:=.i64) (i:=i - (b7.length+tC)) (by omega);have d2:=w8 g1 (Ext.refl g1);rw [arw (by omega),ary,ars (by omega),ar0] at d';rw [<-d'] at d2;simp +contextual only [a_,cz,bK,cy,b',vi,vj,vk,g0,cd,lr,gM.1,gM.2.1,du,Z.g,lW.g,jd,DX,x8,bX,bA,w0,d2,↓aj,aC,simprocAttr]
      rotate_left
      have x8:(((b7.length+tC:Nat):Int)<=(i:Int))=False:=arx (by omega);rw [arz (by omega)] at d';simp +contextual only [a_,cz,bK,cy,b',vi,vj,vk,g0,cd,lr,gM.1,gM.2.1,du,Z.g,lW.g,jd,DX,x8,bX,<-d',↓aj,aC,simprocAttr]
      all_goals
       refine cb (aho t.l[i] NC _ g1 (X.ext bu)) ?_;rintro x g2 ⟨rfl,aR⟩;have x7:=Z.ext aR;have Ho:=bu.trans aR;cases A8:u0 t.l[i].k NC with
       | false=>
         rw [A8,ar9,ar9] at bB;simp +contextual only [a_,cz,bK,b',vi,vj,vk,x7.g,↓aj,aC,simprocAttr];exact ⟨by rw [bB],E.trans Ho⟩
       | true=>
         simp +contextual only [a_,cz,bK,b',vi,vj,vk,x7.g,gM.1,gM.2.1,↓aj,aC,simprocAttr];refine cb (UF N t.l[i] (by omega) bF cO F _ g2 (M.ext (E.trans Ho)) (X.ext Ho)) ?_;rintro x g3 ⟨rfl,bP⟩;have tQ:=Ho.trans bP;cases Qh:t.l[i].may eF with
         | false=>
           rw [Qh,asL,ar9] at bB;simp +contextual only [a_,cz,bK,b',vi,vj,vk,↓aj,aC,simprocAttr];exact ⟨by rw [bB],E.trans tQ⟩
         | true=>
           rw [A8,Qh,ar8,ar8] at bB;simp +contextual only [a_,cz,bK,cy,b',vi,vj,vk,dM,↓aj,aC,simprocAttr];exact ⟨⟨HB.ext tQ,n9.ext tQ,P.ext tQ,(by first | exact B.ext tQ | (rw [d'];exact B.ext tQ)),E.trans tQ,i+1,rfl,aS,bB⟩,by omega⟩
    . have g0:((i:Int) < (t.l.length:Int))=False:=arx (by omega);rw [asy (show t.l.length<=i by omega),nS] at bB;simp +contextual only [a_,cz,bK,b',vi,vj,vk,g0,↓aj,aC,simprocAttr];exact ⟨by rw [bB],E⟩
def v7 (l:List aL):Int:=if l.all (fun t=>decide (hW t.k=7)&&t.may eF) then (if l.all (fun t=>decide (t.deep<=200)) then 0 else 260) else 2
theorem abA (l:List aL) (aU:b8 l<=1000000000) (v:V) (h:ae) (L:bY Any h 5 (l.map aL.enc) v):cR Tryz.prog 65 [v] h fun x ab=>x=.int .i64 (v7 l)/\Ext h ab:=by
 have ax:=L.len;have hle:=L.le;rw [arC] at ax hle;refine aaW.z rfl (cp ?_);unfold P3;simp +contextual only [↓aj,aC,simprocAttr];refine cb (anf h) ?_;rintro cO aa ⟨aJ,M⟩;simp +contextual only [ax,↓aj,aC,simprocAttr];refine fR (fun r g=>r 0=v/\r 3=cO/\r 9=v/\r 10=.int .i64 l.length/\∃i:Nat,r 11=.int .i64 i/\i<=l.length/\Ext aa g/\(l.take i).all (fun t=>decide (hW t.k=7)&&t.may eF)=true) (fun r g=>l.length - (r 11).toN) ?_ ?_
 . exact ⟨by simp only [↓aj,bD,simprocAttr],by simp only [↓aj,bD,simprocAttr],by simp only [↓aj,bD,simprocAttr],by simp only [↓aj,bD,simprocAttr],0,by simp only [↓aj,bD,simprocAttr]<;>rfl,by omega,Ext.refl aa,rfl⟩
 rintro r g ⟨a_,cz,dS,dG,i,gj,aw,E,cY⟩;unfold P4;have n9:=L.ext (aJ.trans E);by_cases aS:i<l.length
 . have g0:((i:Int) < (l.length:Int))=True:=arD (by omega);obtain ⟨b,off,wl,cd,X,eT,ld⟩:=aL.k3 n9 (k:=.i64) aS;have lr:=ld g (Ext.refl g);have dM:=hj aS (by unfold top at hle;omega);have bk:=nb (arY aS);have gM:=eT.one;obtain ⟨g1,du,bu,Z⟩:=fy g [.int .i64 0,.int .i64 0,.int .i64 0,.str [],.bj] [.int .i64 l[i].k,.int .i64 l[i].n,.int .i64 l[i].a,.str l[i].s,wl];simp +contextual only [a_,cz,dS,dG,gj,g0,cd,lr,du,Z.g,gM.1,gM.2.1,↓aj,aC,simprocAttr];refine cb (Se l[i].k g1) ?_;rintro x g2 ⟨rfl,rfl⟩;have bad:(decide (hW l[i].k=7)&&l[i].may eF)=false->v7 l=2:=fun q=>by
    unfold v7;rw [arw];intro z;have:=arU.1 z _ (arY aS);rw [q] at this;cases this
   by_cases bJ:hW l[i].k=7
   . simp +contextual only [a_,cz,dS,dG,gj,Z.g,arD bJ,↓aj,aC,simprocAttr];refine cb (UF _ l[i] (arv _) (by omega) cO _ _ g2 (M.ext (E.trans bu)) (X.ext bu)) ?_;rintro x g3 ⟨rfl,bP⟩;cases bO:l[i].may eF with
     | true=>
       simp +contextual only [a_,cz,dS,dG,gj,dM,↓aj,aC,simprocAttr];refine ⟨⟨i+1,rfl,aS,E.trans (bu.trans bP),?_⟩,by omega⟩;rw [take_one aS,List.all_append,cY];simp [bJ,bO]
     | false=>
       simp +contextual only [a_,cz,dM,↓aj,aC,simprocAttr];exact ⟨by rw [bad (by rw [bO,asL])],aJ.trans (E.trans (bu.trans bP))⟩
   . simp +contextual only [a_,cz,dS,dG,gj,Z.g,arx bJ,↓aj,aC,simprocAttr];exact ⟨by rw [bad (by rw [asp bJ,ar9])],aJ.trans (E.trans bu)⟩
 . have g0:((i:Int) < (l.length:Int))=False:=arx (by omega);rw [asu (by omega)] at cY;have aq:v7 l=if l.all (fun t=>decide (t.deep<=200)) then 0 else 260:=by unfold v7;rw [arz cY]
   rw [aq];simp +contextual only [a_,cz,dS,dG,gj,ax,g0,↓aj,aC,simprocAttr];refine fR (fun r g=>r 26=v/\r 27=.int .i64 l.length/\∃i:Nat,r 28=.int .i64 i/\i<=l.length/\Ext h g/\(l.take i).all (fun t=>decide (t.deep<=200))=true) (fun r g=>l.length - (r 28).toN) ?_ ?_
   . exact ⟨by simp only [a_,↓aj,bD,simprocAttr],by simp only [↓aj,bD,simprocAttr],0,by simp only [↓aj,bD,simprocAttr]<;>rfl,by omega,aJ.trans E,rfl⟩
   clear aw a_ cz dS dG gj n9 E g0 aS;rintro r g ⟨GJ,GK,i,kD,aw,E,cY⟩;unfold P5;have n9:=L.ext E;by_cases aS:i<l.length
   . have g0:((i:Int) < (l.length:Int))=True:=arD (by omega);obtain ⟨b,off,wl,cd,X,eT,ld⟩:=aL.k3 n9 (k:=.i64) aS;have lr:=ld g (Ext.refl g);have dM:=hj aS (by unfold top at hle;omega);have bk:=nb (arY aS);have gM:=eT.one;obtain ⟨g1,du,bu,Z⟩:=fy g [.int .i64 0,.int .i64 0,.int .i64 0,.str [],.bj] [.int .i64 l[i].k,.int .i64 l[i].n,.int .i64 l[i].a,.str l[i].s,wl];simp +contextual only [GJ,GK,kD,g0,cd,lr,du,Z.g,gM.1,gM.2.1,↓aj,aC,simprocAttr];refine cb (QZ _ l[i] (arv _) (by omega) _ g1 (X.ext bu)) ?_;rintro x g2 ⟨rfl,aR⟩;by_cases bJ:(200:Int) < (l[i].deep:Int)
     . simp +contextual only [GJ,GK,kD,arD bJ,↓aj,aC,simprocAttr];refine ⟨?_,E.trans (bu.trans aR)⟩;rw [arw];intro z;have:=arU.1 z _ (arY aS);simp only [arF] at this;omega
     . simp +contextual only [GJ,GK,kD,dM,arx bJ,↓aj,aC,simprocAttr];refine ⟨⟨i+1,rfl,aS,E.trans (bu.trans aR),?_⟩,by omega⟩;rw [take_one aS,List.all_append,cY];simp;omega
   . have g0:((i:Int) < (l.length:Int))=False:=arx (by omega);rw [asu (by omega)] at cY;simp +contextual only [GJ,GK,kD,ax,g0,↓aj,aC,simprocAttr];exact ⟨by rw [arz cY],E⟩
def nY (p:aL):Bool:=decide (p.k=10)||decide (p.k=11)
abbrev de:=Int × Int × List UInt8 × Int
def fB (p:aL):de:=(p.k,p.n,p.s,(p.l.length:Int))
structure bz where
 name:List UInt8
 ty:List UInt8
 tag:Int
 par:Int
 arg:List (List D)
def bz.enc (c:bz):List D:=[.s c.name,.s c.ty,.i .i64 c.tag,.i .i64 c.par,.l 4 c.arg]
def eh (s:List UInt8):List bz->Option bz
 | []=>none
 | c::cs=>if c.name=s then some c else eh s cs
def jR (cs:List bz) (s:List UInt8):List UInt8:=match eh s cs with
 | some c=>c.ty
 | none=>[]
def jk (p:aL):Bool:=decide (10<=p.k)&&decide (p.k<=16)&&p.may eF
def kl (cs:List bz) (p q:aL):Bool:=decide (q.k=p.k)&&(decide (p.k≠16)||match eh q.s cs with
 | some c=>decide (c.ty=jR cs p.s)&&decide (c.arg.length=q.l.length)
 | none=>false)
def hh (s:List aL) (h:de) (i:Nat):List aL:=(s.filter fun q=>decide (fB q=h)).filterMap (·.l[i]?)
def h8 (l:List aL):List aL:=l.filter fun p=>!nY p
def gk (cs:List bz):Nat->List aL->Bool
 | 0,_=>true
 | n+1,l=>match h8 l with
   | []=>true
   | p::s=>(p::s).all (kl cs p)&&(p::s).all fun q=>(List.range q.l.length).all fun i=>gk cs n (hh (p::s) (fB q) i)
def Gn (pre:List bz) (c:bz):Bool:=!pre.any (fun d=>decide (d.name=c.name))&&!pre.any (fun d=>decide (d.ty=c.ty/\d.tag=c.tag))&&decide (c.arg.length<=1)&&eF 4 c.name
def j6 (pre:List bz):List bz->Bool
 | []=>true
 | c::cs=>Gn pre c&&j6 (pre++[c]) cs
def gC (cs:List bz) (l:List aL):Int:=if (j6 [] cs&&l.all jk&&gk cs (b8 l) l)=true then 0 else 2
theorem anb (k:Int) (h:10<=k/\k<=16):hW k=2:=by unfold hW;rw [arw (by omega),arz h]
theorem aej {k:Int} (h:hW k=2):10<=k/\k<=16:=by
 unfold hW at h;by_cases bJ:1<=k/\k<=4
 . rw [arz bJ] at h;omega
 . rw [arw bJ] at h;by_cases bO:10<=k/\k<=16
   . exact bO
   . rw [arw bO] at h;exfalso
     repeat' (split at h)
     all_goals omega
theorem Mf:∀{n:Nat} {l:List aL},l.length<=n->na eF (List.replicate n 2) l=true->∀q ∈ l,hW q.k=2/\q.lR eF=true
 | _,[],_,_,q,ay=>by cases ay
 | 0,t::l,ax,_,_,_=>by simp at ax
 | n+1,t::l,ax,h,q,ay=>by
   simp only [List.replicate_succ,na,vn,arp] at h;simp only [arA] at ax;rcases arM.1 ay with rfl | ay
   . exact ⟨by simpa using h.1.1,h.1.2⟩
   . exact Mf (by omega) h.2 q ay
theorem u5 {p q:aL} (h:q ∈ p.l):q.size<p.size:=zE h
theorem CR {p:aL} (aU:p.size<=1000000000) (h:jk p=true):
 10<=p.k/\p.k<=16/\(p.k=15->p.l.length=2/\p.n=0/\p.s=[])/\(p.k=16->p.l.length<=1/\p.n=0)/\(p.k≠15->p.k≠16->p.l=[])/\∀q ∈ p.l,jk q=true:=by
 simp only [jk,arp,arF] at h;obtain ⟨⟨aa,ad⟩,aH⟩:=h;have aD:=zl (named:=eF) p.size p (arv _) aU;rw [aH] at aD;rw [am7] at aD;simp only [arp,arF] at aD;obtain ⟨⟨⟨⟨⟨⟨bH,c2⟩,cz⟩,cC⟩,bK⟩,ed⟩,cy⟩:=aD;have k3:∀q ∈ p.l,hW q.k=2/\q.lR eF=true->jk q=true:=by intro q ay ⟨a,b⟩;have:=aej a;rw [zl (named:=eF) q.size q (arv _) (by have:=u5 ay;omega)] at b;simp [jk,this.1,this.2,b]
 have aB:p.k=10\/p.k=11\/p.k=12\/p.k=13\/p.k=14\/p.k=15\/p.k=16:=by omega
 refine ⟨aa,ad,?_⟩;rcases aB with e | e | e | e | e | e | e<;>rw [e] at c2 cz ed cy<;>simp [vo,qN,lf] at c2 cz ed cy
 all_goals rw [e]
 all_goals first
  | (refine ⟨by intro z;omega,by intro z;omega,fun _ _=>ed,fun q ay=>?_⟩;rw [ed] at ay;cases ay)
  | skip
 . exact ⟨fun _=>⟨ed,cz,c2⟩,by intro z;omega,by intro z;omega,fun q ay=>k3 q ay (Mf (n:=2) (by omega) (by simpa [List.replicate] using cy) q ay)⟩
 . exact ⟨by intro z;omega,fun _=>⟨ed,cz⟩,fun _ z=>absurd rfl z,fun q ay=>k3 q ay (Mf (arv _) cy q ay)⟩
end
end Go.Proofs.YtgmhjhgoamjeeaaGreatDoor
