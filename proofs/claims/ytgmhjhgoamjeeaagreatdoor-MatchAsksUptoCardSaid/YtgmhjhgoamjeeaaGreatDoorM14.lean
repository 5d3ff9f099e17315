/- The chapter's functions, walked by the abstract machine: plain lemmas, no condition. Printed by a program from longer texts: names made short. -/
import Derived.Test.YtgmhjhgoamjeeaaGreatDoorM12
import Derived.Test.YtgmhjhgoamjeeaaGreatDoorM13
set_option linter.unusedSectionVars false
set_option linter.unusedSimpArgs false
set_option linter.unusedVariables false
set_option maxHeartbeats 64000000
noncomputable section
namespace Go.Proofs.YtgmhjhgoamjeeaaGreatDoor
section
open Go aZ
def T2 (n:Nat):Bool:=match sx ctx 1000 106 [.int .u64 1,.int .u64 n] ae.empty with
 | .val (.tuple [.int .u64 a,.int .u64 b]) au=>uz a 0&&uz b n&&Nat.beq au.next 0
 | _=>false
set_option maxRecDepth 100000 in
theorem ai5:(List.range 65).all T2=true:=by kernel_rfl
theorem ai4 (n:Nat) (aV:n<=64) (h:ae):cv Tryz.prog 106 [.int .u64 1,.int .u64 n] h fun x aa=>x=.tuple [.int .u64 0,.int .u64 n]/\aa=h:=by
 have q:=apP.1 ai5 n (aqX.2 (by omega));unfold T2 at q
 split at q
 . rename_i a b au he;simp only [apn] at q;obtain ⟨⟨aj,an⟩,aJ⟩:=q;have aj:=E1 aj;have an:=E1 an;have aJ:=aqj aJ;have c:=abS (C:=ctx) follows y2 Ln (n:=1000) (f:=106) (by rfl) (by kernel_rfl) (by kernel_rfl) ⟨_,Tryz.func106,by kernel_rfl⟩ he h;refine ⟨_,_,c,?_,?_⟩
   . simp only [V.c7,k3,aj,an]
   . unfold ae.app;rw [aJ];rfl
 . cases q
theorem aj3 (z:Int):∀i:Nat,e5 (List.replicate i (V.int .i64 z))=true:=fun i=>by
 induction i with
 | zero=>rfl
 | succ i bh=>simpa [List.replicate_succ,e5,V.one] using bh
theorem al_ {i m n:Nat} {z y:V} (U:m<=i) (ab:i+m<=n):hx (List.replicate i z++List.replicate (n-i) y) i (List.take m (List.replicate i z))=List.replicate (i+m) z++List.replicate (n - (i+m)) y:=by
 apply arA;intro q;have hm:(List.take m (List.replicate i z)).length=m:=by rw [apU,apw];omega
 rw [LR _ _ _ (by rw [hm,apC,apw,apw];omega),hm];by_cases a:q<i
 . rw [apB a,apM (by rw [apw];exact a),apM (by rw [apw];omega),aqQ,aqQ,apB a,apB (by omega)]
 . rw [apu a];by_cases b:q<i+m
   . rw [apB b,aqk (by omega),aqQ,apB (by omega),apM (by rw [apw];omega),aqQ,apB b]
   . rw [apu b,apN (by rw [apw];omega),apN (by rw [apw];omega),apw,apw,aqQ,aqQ];by_cases c:q<n
     . rw [apB (by omega),apB (by omega)]
     . rw [apu (by omega),apu (by omega)]
theorem ak8 (v:V) (z:Int) (n:Nat) (aV:n<=64) (h:ae) (H:e2 h 1 v 1 [.int .i64 z]):cv Tryz.prog 102 [v,.int .i64 n] h fun x aa=>bN Any aa 1 ((List.replicate n z).map aZ.gA) x/\Ext h aa:=by
 refine YC.z rfl (cr ?_);unfold NF;have f0:((n:Int)<0)=False:=apx (by omega);have bP:IntKind.u64.wrap (n:Int)=(n:Int):=by rw [IntKind.wrap_u64];omega
 have bH:IntKind.i64.wrap (n:Int)=(n:Int):=wrap_i64 (by omega) (by omega);have az:IntKind.u64.wrap 1=1:=by decide
 have f1:((9223372036854775807:Int) < (n:Int))=False:=apx (by omega);have ar:hK v=some (.int .i64 1):=H.len;simp +contextual only [f0,ar,az,bP,↓ag,al,simprocAttr];refine bS (ai4 n aV h) ?_;rintro x U ⟨rfl,rfl⟩;obtain ⟨ab,an,aK,g2⟩:∃H,U.new (.bT (List.replicate n (.int .i64 0)) 0 false)=H/\Ext U H/\Has H U.next (List.replicate n (.int .i64 0)):=fE U _
 have mk:=aiP (h:=U) (n:=n) (z:=.int .i64 0) (k:=.i64) (bp:=.i64) (by omega);rw [an] at mk;have hlen:(List.replicate n (V.int .i64 0)).length=n:=apw;have pL:=copy_eq (h:=ab) (b:=aC U.next) (off:=0) (l:=n) (c:=n) (H.ext aK) g2.g (by rw [hlen,apX];exact Nat.min_le_right _ _) rfl;simp +contextual only [f0,f1,bH,mk,pL,↓ag,al,simprocAttr];refine eO (fun r g=>r 7=.slice (aC U.next) 0 n n/\∃i:Nat,r 8=.int .i64 i/\i<=n/\(1<=n->1<=i)/\Has g U.next (List.replicate i (V.int .i64 z)++List.replicate (n-i) (V.int .i64 0))/\Ext U g) (fun r g=>n - (r 8).toN) ?_ ?_
 . refine ⟨by simp only [↓ag,bz,simprocAttr],Nat.min 1 n,by simp only [↓ag,bz,simprocAttr],Nat.min_le_right _ _,fun q=>by rw [show Nat.min 1 n=1 from Nat.min_eq_left q];omega,?_,aK.set (aps _) _⟩;have:=g2.put (hx (List.replicate n (V.int .i64 0)) 0 (List.take (Nat.min 1 n) [V.int .i64 z]));by_cases bm:n=0
   . subst bm;exact this
   . rw [show Nat.min 1 n=1 from Nat.min_eq_left (by omega)] at this ⊢;obtain ⟨m,rfl⟩:∃m,n=m+1:=⟨n-1,by omega⟩;exact this
 rintro r g ⟨dN,i,dk,ax,ur,G,E⟩;unfold NG;by_cases aL:i<n
 . have g0:((i:Int) < (n:Int))=True:=apD (by omega);have Q4:=ur (by omega);have S:e2 g 1 (.slice (aC U.next) 0 i n) i (List.replicate i (V.int .i64 z)):=by
    refine ⟨by rw [apw,aru],rfl,h5 G.lt,_,.inr ⟨0,false,G.g⟩,by rw [apC,apw];omega,?_⟩;rw [aqu,arI rfl]
   have pL:=copy_eq (h:=g) (b:=aC U.next) (off:=i) (l:=n-i) (c:=n-i) S G.g (by rw [apC,apw,apw];have:Nat.min i (n-i)<=n-i:=Nat.min_le_right _ _;omega) (aj3 z i);have ad8:Nat.min i (n-i)<=i:=Nat.min_le_left _ _;have n1:Nat.min i (n-i)<=n-i:=Nat.min_le_right _ _;have aor:1<=Nat.min i (n-i):=Nat.le_min.2 ⟨Q4,by omega⟩;generalize Nat.min i (n-i)=m at *;have db:IntKind.i64.wrap ((i:Int) + ((m:Nat):Int))=((i+m:Nat):Int):=by rw [wrap_i64 (by omega) (by omega)];omega
   have bQ:=aaL (b:=aC U.next) (k:=.i64) aL;have b2:=aaK (b:=aC U.next) (k:=.i64) ax Q4;simp +contextual only [dN,dk,g0,bQ,b2,pL,db,↓ag,al,simprocAttr];refine ⟨⟨i+m,rfl,by omega,fun _=>by omega,?_,E.set (aps _) _⟩,by omega⟩;have:=G.put (hx (List.replicate i (V.int .i64 z)++List.replicate (n-i) (V.int .i64 0)) i (List.take m (List.replicate i (V.int .i64 z))));rw [al_ ad8 (by omega)] at this ⊢;exact this
 . have g0:((i:Int) < (n:Int))=False:=apx (by omega);have:i=n:=by omega
   subst this;simp +contextual only [dN,dk,g0,↓ag,al,simprocAttr];refine ⟨e2.gI (l:=List.replicate i z) ?_ (fun b o l c e=>by cases e;exact aps _) (by rw [apw];unfold top;omega),E⟩;have aG:=G.g;rw [aq5,List.replicate_zero,aqB] at aG;have ax:gw (List.replicate i z)=List.replicate i (V.int .i64 z):=by unfold gw;rw [List.map_replicate]
   rw [ax,apw];exact ⟨by rw [apw,aru],rfl,h5 G.lt,_,.inr ⟨0,false,aG⟩,by rw [apw];omega,by rw [aqu,are]⟩
theorem amF (n2:Int) (s:List UInt8) (h:ae):cv Tryz.prog 101 [.int .i64 n2,.str s] h fun x aa=>x=.bool (zA dh n2 s)/\Ext h aa:=by
 refine YB.z rfl (cr ?_);unfold ND zA;by_cases bJ:n2=1
 . simp +contextual only [apD bJ,ap0,↓ag,al,simprocAttr];refine bS (Mi 3 (by simp) s h) ?_;rintro x U ⟨rfl,av⟩;simp +contextual only [↓ag,al,simprocAttr];exact av
 by_cases a2:n2=2
 . simp +contextual only [apx bJ,apD a2,ap0,ap2,↓ag,al,simprocAttr];refine bS (Mi 4 (by simp) s h) ?_;rintro x U ⟨rfl,av⟩;simp +contextual only [↓ag,al,simprocAttr];exact av
 by_cases a3:n2=3
 . simp +contextual only [apx bJ,apx a2,apD a3,ap0,ap2,↓ag,al,simprocAttr];refine bS (Mi 5 (by simp) s h) ?_;rintro x U ⟨rfl,av⟩;simp +contextual only [↓ag,al,simprocAttr];exact av
 by_cases a4:n2=4
 . have aH:decide (s.length<=4096)=decide ((s.length:Int)<=4096):=decide_eq_decide.2 ⟨fun q=>by omega,fun q=>by omega⟩;simp +contextual only [apx bJ,apx a2,apx a3,apD a4,aH,ap0,ap2,↓ag,al,simprocAttr];exact Ext.refl _
 by_cases a5:n2=5
 . obtain ⟨U,aj,av,Y⟩:=qo h 1 8 [.str [43],.str [45],.str [42],.str [47],.str [109,111,100],.str [61],.str [60],.str [60,61]] rfl (by unfold top;omega);simp +contextual only [apx bJ,apx a2,apx a3,apx a4,apD a5,aj,ap0,ap2,↓ag,al,simprocAttr];refine fZ (aaw s opsL _ U Y.v (by decide)) ?_;simp +contextual only [↓ag,al,simprocAttr];exact av
 . simp +contextual only [apx bJ,apx a2,apx a3,apx a4,apx a5,ap2,↓ag,al,simprocAttr];exact Ext.refl _
theorem ia.open {F:aO->Prop} {h:ae} {r:ia} {af:List V} (H:b6 F h r.enc af):∃lg mF,af=[lg,.int .i64 r.rest,.int .i64 r.least,.int .i64 r.kU,mF,.int .i64 r.br,.int .i64 r.ax,.int .i64 r.s]/\bN F h 1 (r.first.map aZ.gA) lg/\bN F h 1 (r.last.map aZ.gA) mF:=by unfold ia.enc at H;obtain ⟨lg,_,rfl,tF,H1⟩:=H.d';obtain ⟨_,rfl,cE⟩:=H1.int;obtain ⟨_,rfl,vh⟩:=cE.int;obtain ⟨_,rfl,zT⟩:=vh.int;obtain ⟨mF,_,rfl,G_,vi⟩:=zT.d';obtain ⟨_,rfl,WD⟩:=vi.int;obtain ⟨_,rfl,WE⟩:=WD.int;obtain ⟨_,rfl,WG⟩:=WE.int;obtain rfl:=WG.no;exact ⟨lg,mF,rfl,tF,G_⟩
theorem aiT {t:aM} (h:pq t.k=none):t.may dh=false:=by cases t;rw [aM.may];simp only [aM.k] at h;rw [h]
theorem aiU {t:aM} {r:ia} (h:pq t.k=some r):t.may dh=(A4 dh r t.k t.n t.a t.s&&kR r t.k t.n t.l.length&&nu dh (nV r t.k t.n t.l.length) t.l):=by cases t;rw [aM.may];simp only [aM.k] at h;rw [h];rfl
theorem alz {k:Int} {r:ia} (h:pq k=some r):r.first.length<=3/\r.last.length<=1/\0<=r.least/\(k=50->r.br=0/\r.ax=64):=by
 have hm:=F_ (l:=tj) h;simp only [tj,apI,aqw,List.not_mem_nil,or_false] at hm;rcases hm with h | h | h | h | h | h | h | h | h | h | h | h | h | h | h | h | h | h | h | h | h | h | h | h | h | h | h | h | h | h | h | h | h | h | h | h | h | h<;>
 obtain ⟨rfl,rfl⟩:=h<;>simp
theorem acD {r:ia} {k n:Int} {len i:Nat} (aY:0<=gU r k n len) (ax:i<len):(nV r k n len)[i]? =some (if aB:i < (firstM r k n).length then (firstM r k n)[i] else if i < (firstM r k n).length + (gU r k n len).toNat then r.rest else (r.last[i - ((firstM r k n).length + (gU r k n len).toNat)]?.getD 0)):=by
 have hlen:(len:Int)=(firstM r k n).length+gU r k n len+r.last.length:=by unfold gU;omega
 unfold nV;by_cases a:i < (firstM r k n).length
 . rw [dif_pos a,ap8,apM a,apo a]
 . rw [dif_neg a];by_cases b:i < (firstM r k n).length + (gU r k n len).toNat
   . rw [apB b,apM (by rw [apC,apw];exact b),apN (by omega),aqQ,apB (by omega)]
   . rw [apu b,apN (by rw [apC,apw];omega),apC,apw];rw [apo (by omega)];rfl
theorem acE {r:ia} {k n:Int} {len:Nat} (aY:0<=gU r k n len):(nV r k n len).length=len:=by
 have hlen:(len:Int)=(firstM r k n).length+gU r k n len+r.last.length:=by unfold gU;omega
 unfold nV;rw [apC,apC,apw];omega
theorem Ap (b:aO) (o:Nat):(sX 2 1).run (.ptr b o) (.int .i64 0)=some (.ptr b o):=rfl
theorem Aq (b:aO) (o:Nat):(sX 2 1).run (.ptr b o) (.int .i64 1)=some (.ptr b (o+1)):=rfl
theorem Ty:∀(N:Nat) (t:aM),t.size<=N->N<=1000000000->∀(cq:V) (F:aO->Prop) (af:List V) (h:ae),oB F h Ga cq->b6 Any h t.enc af->cv Tryz.prog 97 [cq,.agg af] h fun x aa=>x=.bool (t.may dh)/\Ext h aa
 | 0,t,aW,_,_,_,_,_,_,_=>by have:=oi t;omega
 | N+1,t,aW,Rc,cq,F,af,h,M,H=>by
   have xq:=H;obtain ⟨ca,rfl,L,_⟩:=aM.open H;have bK:N<=1000000000:=by omega
   have ol:=L.one;have ar:=L.len;have hle:=L.le;rw [apv] at ar hle;have cn:=size_eq t;have dj:=mI t.l;refine ZM.z rfl (cr ?_);unfold Po;obtain ⟨U,aj,av,tN⟩:=fE h [.int .i64 t.k,.int .i64 t.n,.int .i64 t.a,.str t.s,ca];have look:=(M.ext av).look t.k (.agg [.bu,.int .i64 0,.int .i64 0,.int .i64 0,.bu,.int .i64 0,.int .i64 0,.int .i64 0]) true;rw [abN] at look;cases aD:pq t.k with
   | none=>
     rw [aD] at look;rcases look with ⟨_,lZ⟩ | ⟨_,_,a7,_⟩
     . rw [apt] at lZ;replace lZ:g' jL.int.eq _ true U cq _=_:=lZ;rw [aiT aD];obtain ⟨ab,an,aK,jJ⟩:=hA U [.bu,.int .i64 0,.int .i64 0,.int .i64 0,.bu,.int .i64 0,.int .i64 0,.int .i64 0] [.bu,.int .i64 0,.int .i64 0,.int .i64 0,.bu,.int .i64 0,.int .i64 0,.int .i64 0];simp +contextual only [ol.1,ol.2.1,aj,an,tN.g,lZ,↓ag,al,simprocAttr];exact av.trans aK
     . cases a7
   | some r=>
   rw [aD] at look;rcases look with ⟨a7,_⟩ | ⟨ds,y,uk,Y,lZ⟩
   . cases a7
   rw [apt] at lZ;replace lZ:g' jL.int.eq _ true U cq _=_:=lZ;obtain rfl:r.enc=ds:=aqF uk;rw [aiU aD];obtain ⟨ao1,ao2,ao3,alr⟩:=alz aD;obtain ⟨lg,mF,a8,MD,MQ⟩:=ia.open Y;have of:=MD.one;have Cc:=MQ.one;obtain ⟨ab,an,aK,jJ⟩:=hA U [.bu,.int .i64 0,.int .i64 0,.int .i64 0,.bu,.int .i64 0,.int .i64 0,.int .i64 0] [lg,.int .i64 r.rest,.int .i64 r.least,.int .i64 r.kU,mF,.int .i64 r.br,.int .i64 r.ax,.int .i64 r.s];have xF:=tN.ext aK;have bM:=av.trans aK;unfold A4;by_cases bQ:t.n<r.br
   . rw [ap_ (show ¬r.br<=t.n by omega)];simp +contextual only [ol.1,ol.2.1,aj,an,tN.g,xF.g,jJ.g,Ap,Aq,lZ,a8,of.1,Cc.1,apD bQ,aqd,↓ag,al,simprocAttr];exact bM
   by_cases b2:r.ax<t.n
   . rw [ap_ (show ¬t.n<=r.ax by omega)];simp +contextual only [ol.1,ol.2.1,aj,an,tN.g,xF.g,jJ.g,Ap,Aq,lZ,a8,of.1,Cc.1,apx bQ,apD b2,aqd,aqG,↓ag,al,simprocAttr];exact bM
   by_cases c3:t.a<0
   . rw [ap_ (show ¬0<=t.a by omega)];simp +contextual only [ol.1,ol.2.1,aj,an,tN.g,xF.g,jJ.g,Ap,Aq,lZ,a8,of.1,Cc.1,apx bQ,apx b2,apD c3,aqd,aqG,↓ag,al,simprocAttr];exact bM
   by_cases gr:65536<t.a
   . rw [ap_ (show ¬t.a<=65536 by omega)];simp +contextual only [ol.1,ol.2.1,aj,an,tN.g,xF.g,jJ.g,Ap,Aq,lZ,a8,of.1,Cc.1,apx bQ,apx b2,apx c3,apD gr,aqd,aqG,↓ag,al,simprocAttr];exact bM
   rw [ap7 (show r.br<=t.n by omega),ap7 (show t.n<=r.ax by omega),ap7 (show 0<=t.a by omega),ap7 (show t.a<=65536 by omega)];simp +contextual only [ol.1,ol.2.1,aj,an,tN.g,xF.g,jJ.g,Ap,Aq,lZ,a8,of.1,Cc.1,apx bQ,apx b2,apx c3,apx gr,aqm,↓ag,al,simprocAttr];refine bS (amF r.s t.s ab) ?_;rintro x aI ⟨rfl,bF⟩;have Hj:=xF.ext bF;have GI:=jJ.ext bF;have gl:=bM.trans bF;cases c5:zA dh r.s t.s with
   | false=>
     simp +contextual only [aqd,↓ag,al,simprocAttr];exact gl
   | true=>
   have WC:bN Any aI 1 (r.first.map aZ.gA) lg:=(MD.ext (aK.trans bF)).eQ fun _ _=>trivial;have Hb:bN Any aI 1 (r.last.map aZ.gA) mF:=(MQ.ext (aK.trans bF)).eQ fun _ _=>trivial;have uy:∀(dA:List Int),dA.length<=64->IntKind.i64.wrap (IntKind.i64.wrap ((t.l.length:Int) - (dA.length:Int)) - (r.last.length:Int))=(t.l.length:Int)-dA.length-r.last.length:=fun dA eX=>by rw [wrap_i64 (n:=(t.l.length:Int) - (dA.length:Int)) (by omega) (by omega),wrap_i64 (by omega) (by omega)]
   have RH:=Hb.len;rw [apv] at RH;by_cases AA:t.k=50;obtain ⟨aoF,aon⟩:=alr AA;obtain ⟨n,aV⟩:=Int.eq_ofNat_of_zero_le (show 0<=t.n by omega);obtain ⟨bq,bE,bZ,Z⟩:=qo aI 1 1 [.int .i64 8] rfl (by unfold top;omega);have MU:=Hj.ext bZ;have g3:=Hj.g;have g4:=MU.g;rw [aV] at g3 g4;simp +contextual only [g3,g4,GI.g,bE,apD AA,aV,↓ag,al,simprocAttr];refine bS (ak8 _ 8 n (by omega) bq Z.v) ?_;rintro v8 cF ⟨zS,df⟩;have A7:firstM r t.k t.n=List.replicate n 8:=by unfold firstM;rw [apB AA,aV];rfl
   rw [<-A7] at zS;have vx:=MU.ext df;have nE:=(GI.ext bZ).ext df;have lF:=(gl.trans bZ).trans df;have MR:=(Hb.ext bZ).ext df;have Ru:(firstM r t.k t.n).length<=64:=by rw [A7,apw];omega
   rw [<-aV]
   rotate_left
   have A7:firstM r t.k t.n=r.first:=by unfold firstM;rw [apu AA]
   have zS:=WC;rw [<-A7] at zS;have vx:=Hj;have nE:=GI;have lF:=gl;have MR:=Hb;have Ru:(firstM r t.k t.n).length<=64:=by rw [A7];omega
   simp +contextual only [vx.g,nE.g,apx AA,↓ag,al,simprocAttr]
   all_goals
    have jP:=zS.len;rw [apv] at jP;have qg:=uy (firstM r t.k t.n) Ru;simp +contextual only [vx.g,nE.g,ar,jP,RH,qg,↓ag,al,simprocAttr];have yz:gU r t.k t.n t.l.length=(t.l.length:Int) - (firstM r t.k t.n).length-r.last.length:=rfl;rw [<-yz];by_cases d1:gU r t.k t.n t.l.length<r.least
    . have cX:kR r t.k t.n t.l.length=false:=by unfold kR;rw [ap_ (by omega)];rfl
      simp +contextual only [apD d1,cX,aqG,aqd,vx.g,nE.g,↓ag,al,simprocAttr];exact lF
    by_cases d2:r.kU<gU r t.k t.n t.l.length
    . have cX:kR r t.k t.n t.l.length=false:=by unfold kR;rw [ap_ (show ¬gU r t.k t.n t.l.length<=r.kU by omega),aqG]
      simp +contextual only [apx d1,apD d2,cX,aqG,aqd,vx.g,nE.g,↓ag,al,simprocAttr];exact lF
    have cX:kR r t.k t.n t.l.length=true:=by unfold kR;rw [ap7 (show r.least<=_ by omega),ap7 (show gU r t.k t.n t.l.length<=r.kU by omega)];rfl
    have aY:0<=gU r t.k t.n t.l.length:=by omega
    simp +contextual only [apx d1,apx d2,cX,ar,aqm,vx.g,nE.g,↓ag,al,simprocAttr];have sJ:=acE aY;have ab8:=fun (i:Nat) (ax:i<t.l.length)=>acD (r:=r) (k:=t.k) (n:=t.n) aY ax;have aoz:gU r t.k t.n t.l.length<=t.l.length:=by unfold gU;omega
    have JZ:(t.l.length:Int)=(firstM r t.k t.n).length+gU r t.k t.n t.l.length+r.last.length:=by unfold gU;omega
    generalize nV r t.k t.n t.l.length=gs at *;generalize gU r t.k t.n t.l.length=rest at *;obtain ⟨ti,rfl⟩:=Int.eq_ofNat_of_zero_le aY;generalize firstM r t.k t.n=b8 at *
    refine eO (fun R g=>R 0=cq/\R 3=.ptr (aC h.next) 0/\R 5=.ptr (aC U.next) 0/\R 8=.int .i64 ti/\R 85=ca/\R 86=.int .i64 t.l.length/\(∃v8,R 7=v8/\bN Any g 1 (b8.map aZ.gA) v8)/\bN Any g 1 (r.last.map aZ.gA) mF/\
     Has g h.next [.int .i64 t.k,.int .i64 t.n,.int .i64 t.a,.str t.s,ca]/\Has g U.next [lg,.int .i64 r.rest,.int .i64 r.least,.int .i64 r.kU,mF,.int .i64 r.br,.int .i64 r.ax,.int .i64 r.s]/\Ext h g/\
     ∃i:Nat,R 87=.int .i64 i/\i<=t.l.length/\nu dh gs t.l=nu dh (gs.drop i) (t.l.drop i)) (fun R g=>t.l.length - (R 87).toN) ?_ ?_
    . exact ⟨by simp only [↓ag,bz,simprocAttr],by simp only [↓ag,bz,simprocAttr],by simp only [↓ag,bz,simprocAttr],by simp only [↓ag,bz,simprocAttr]<;>rfl,by simp only [↓ag,bz,simprocAttr],by simp only [↓ag,bz,simprocAttr],⟨_,by simp only [↓ag,bz,simprocAttr],zS⟩,MR,vx,nE,lF,0,by simp only [↓ag,bz,simprocAttr]<;>rfl,by omega,rfl⟩
    rintro R g ⟨a1,b3,bL,dk,uZ,u0,⟨v8,dN,zR⟩,nJ,P,B,E,i,u1,ax,bt⟩;unfold Pp;by_cases aL:i<t.l.length
    . have g0:((i:Int) < (t.l.length:Int))=True:=apD (by omega);obtain ⟨b,off,wl,bW,X,dK,ld,_,_,_⟩:=aM.ki (L.ext E) (k:=.i64) aL;have iK:=ld g (Ext.refl g);have lz:=dK.one;have db:=fW aL (by unfold top at hle;omega);have ad2:=uY (t:=t) (apV aL);have jP:=zR.len;rw [apv] at jP;obtain ⟨g1,eR,bB,Z⟩:=hA g [.int .i64 0,.int .i64 0,.int .i64 0,.str [],.bu] [.int .i64 t.l[i].k,.int .i64 t.l[i].n,.int .i64 t.l[i].a,.str t.l[i].s,wl];have tN:=P.ext bB;have xl:=B.ext bB;have eB:=ab8 i aL;have G:gs[i]? =some gs[i]:=apo (by omega);rw [apW aL,apW (show i<gs.length by omega),nu] at bt;rw [G] at eB;have eB:=aqF eB;generalize gs[i]=MF at *;have bP:IntKind.i64.wrap ((b8.length:Int) + (ti:Int))=((b8.length+ti:Nat):Int):=by rw [wrap_i64 (by omega) (by omega)];omega
      by_cases bJ:i<b8.length;have Di:((i:Int) < (b8.length:Int))=True:=apD (by omega);obtain ⟨b7,B8,mz,qn⟩:=(zR.ext bB).yM (k:=.i64) bJ;have d2:=qn g1 (Ext.refl g1);rw [dif_pos bJ] at eB;rw [<-eB] at d2;simp +contextual only [a1,b3,bL,dN,dk,uZ,u0,u1,g0,bW,iK,lz.1,lz.2.1,eR,Z.g,xl.g,jP,Di,mz,d2,↓ag,al,simprocAttr]
      rotate_left
      rw [dif_neg bJ] at eB;have Di:((i:Int) < (b8.length:Int))=False:=apx (by omega);by_cases a2:b8.length+ti<=i;have Hs:(((b8.length+ti:Nat):Int)<=(i:Int))=True:=apD (by omega);have bH:IntKind.i64.wrap (IntKind.i64.wrap ((i:Int) - (b8.length:Int)) - (ti:Int))=((i - (b8.length+ti):Nat):Int):=by rw [wrap_i64 (n:=(i:Int) - (b8.length:Int)) (by omega) (by omega),wrap_i64 (by omega) (by omega)];omega
      obtain ⟨b7,B8,mz,qn⟩:=(nJ.ext bB).yM (k:=.i64) (i:=i - (b8.length+ti)) (by omega);have d2:=qn g1 (Ext.refl g1);rw [apu (by omega),apy,apo (by omega),aqe] at eB;rw [<-eB] at d2;simp +contextual only [a1,b3,bL,dN,dk,uZ,u0,u1,g0,bW,iK,lz.1,lz.2.1,eR,Z.g,xl.g,jP,Di,Hs,bP,bH,mz,d2,↓ag,al,simprocAttr]
      rotate_left
      have Hs:(((b8.length+ti:Nat):Int)<=(i:Int))=False:=apx (by omega);rw [apB (by omega)] at eB;simp +contextual only [a1,b3,bL,dN,dk,uZ,u0,u1,g0,bW,iK,lz.1,lz.2.1,eR,Z.g,xl.g,jP,Di,Hs,bP,<-eB,↓ag,al,simprocAttr]
      all_goals
       refine bS (afB t.l[i] MF _ g1 (X.ext bB)) ?_;rintro x g2 ⟨rfl,aK⟩;have xK:=Z.ext aK;have GA:=bB.trans aK;cases AB:uC t.l[i].k MF with
       | false=>
         rw [AB,aqd,aqd] at bt;simp +contextual only [a1,b3,bL,dk,uZ,u0,u1,xK.g,↓ag,al,simprocAttr];exact ⟨by rw [bt],E.trans GA⟩
       | true=>
         simp +contextual only [a1,b3,bL,dk,uZ,u0,u1,xK.g,lz.1,lz.2.1,↓ag,al,simprocAttr];refine bS (Ty N t.l[i] (by omega) bK cq F _ g2 (M.ext (E.trans GA)) (X.ext GA)) ?_;rintro x g3 ⟨rfl,bF⟩;have xk:=GA.trans bF;cases q3:t.l[i].may dh with
         | false=>
           rw [q3,aqG,aqd] at bt;simp +contextual only [a1,b3,bL,dk,uZ,u0,u1,↓ag,al,simprocAttr];exact ⟨by rw [bt],E.trans xk⟩
         | true=>
           rw [AB,q3,aqm,aqm] at bt;simp +contextual only [a1,b3,bL,dN,dk,uZ,u0,u1,db,↓ag,al,simprocAttr];exact ⟨⟨zR.ext xk,nJ.ext xk,P.ext xk,(by first | exact B.ext xk | (rw [eB];exact B.ext xk)),E.trans xk,i+1,rfl,aL,bt⟩,by omega⟩
    . have g0:((i:Int) < (t.l.length:Int))=False:=apx (by omega);rw [aqf (show t.l.length<=i by omega),nu] at bt;simp +contextual only [a1,b3,bL,dk,uZ,u0,u1,g0,↓ag,al,simprocAttr];exact ⟨by rw [bt],E⟩
def vO (l:List aM):Int:=if l.all (fun t=>decide (fG t.k=7)&&t.may dh) then (if l.all (fun t=>decide (t.deep<=200)) then 0 else 260) else 2
theorem aaf (l:List aM) (aW:cj l<=1000000000) (v:V) (h:ae) (L:bN Any h 5 (l.map aM.enc) v):cv Tryz.prog 65 [v] h fun x aa=>x=.int .i64 (vO l)/\Ext h aa:=by
 have ar:=L.len;have hle:=L.le;rw [apv] at ar hle;refine Zr.z rfl (cr ?_);unfold OS;simp +contextual only [↓ag,al,simprocAttr];refine bS (alA h) ?_;rintro cq U ⟨av,M⟩;simp +contextual only [ar,↓ag,al,simprocAttr];refine eO (fun r g=>r 0=v/\r 3=cq/\r 9=v/\r 10=.int .i64 l.length/\∃i:Nat,r 11=.int .i64 i/\i<=l.length/\Ext U g/\(l.take i).all (fun t=>decide (fG t.k=7)&&t.may dh)=true) (fun r g=>l.length - (r 11).toN) ?_ ?_
 . exact ⟨by simp only [↓ag,bz,simprocAttr],by simp only [↓ag,bz,simprocAttr],by simp only [↓ag,bz,simprocAttr],by simp only [↓ag,bz,simprocAttr],0,by simp only [↓ag,bz,simprocAttr]<;>rfl,by omega,Ext.refl U,rfl⟩
 rintro r g ⟨a1,b3,dT,e6,i,gH,ax,E,dx⟩;unfold OT;have nJ:=L.ext (av.trans E);by_cases aL:i<l.length
 . have g0:((i:Int) < (l.length:Int))=True:=apD (by omega);obtain ⟨b,off,wl,bW,X,dK,ld⟩:=aM.lV nJ (k:=.i64) aL;have iK:=ld g (Ext.refl g);have db:=fW aL (by unfold top at hle;omega);have bm:=rM (apV aL);have lz:=dK.one;obtain ⟨g1,eR,bB,Z⟩:=hA g [.int .i64 0,.int .i64 0,.int .i64 0,.str [],.bu] [.int .i64 l[i].k,.int .i64 l[i].n,.int .i64 l[i].a,.str l[i].s,wl];simp +contextual only [a1,b3,dT,e6,gH,g0,bW,iK,eR,Z.g,lz.1,lz.2.1,↓ag,al,simprocAttr];refine bS (Q0 l[i].k g1) ?_;rintro x g2 ⟨rfl,rfl⟩;have bad:(decide (fG l[i].k=7)&&l[i].may dh)=false->vO l=2:=fun q=>by
    unfold vO;rw [apu];intro z;have:=apP.1 z _ (apV aL);rw [q] at this;cases this
   by_cases bQ:fG l[i].k=7
   . simp +contextual only [a1,b3,dT,e6,gH,Z.g,apD bQ,↓ag,al,simprocAttr];refine bS (Ty _ l[i] (aps _) (by omega) cq _ _ g2 (M.ext (E.trans bB)) (X.ext bB)) ?_;rintro x g3 ⟨rfl,bF⟩;cases b2:l[i].may dh with
     | true=>
       simp +contextual only [a1,b3,dT,e6,gH,db,↓ag,al,simprocAttr];refine ⟨⟨i+1,rfl,aL,E.trans (bB.trans bF),?_⟩,by omega⟩;rw [take_one aL,List.all_append,dx];simp [bQ,b2]
     | false=>
       simp +contextual only [a1,b3,db,↓ag,al,simprocAttr];exact ⟨by rw [bad (by rw [b2,aqG])],av.trans (E.trans (bB.trans bF))⟩
   . simp +contextual only [a1,b3,dT,e6,gH,Z.g,apx bQ,↓ag,al,simprocAttr];exact ⟨by rw [bad (by rw [ap_ bQ,aqd])],av.trans (E.trans bB)⟩
 . have g0:((i:Int) < (l.length:Int))=False:=apx (by omega);rw [apZ (by omega)] at dx;have au:vO l=if l.all (fun t=>decide (t.deep<=200)) then 0 else 260:=by unfold vO;rw [apB dx]
   rw [au];simp +contextual only [a1,b3,dT,e6,gH,ar,g0,↓ag,al,simprocAttr];refine eO (fun r g=>r 26=v/\r 27=.int .i64 l.length/\∃i:Nat,r 28=.int .i64 i/\i<=l.length/\Ext h g/\(l.take i).all (fun t=>decide (t.deep<=200))=true) (fun r g=>l.length - (r 28).toN) ?_ ?_
   . exact ⟨by simp only [a1,↓ag,bz,simprocAttr],by simp only [↓ag,bz,simprocAttr],0,by simp only [↓ag,bz,simprocAttr]<;>rfl,by omega,av.trans E,rfl⟩
   clear ax a1 b3 dT e6 gH nJ E g0 aL;rintro r g ⟨FW,FX,i,FY,ax,E,dx⟩;unfold OU;have nJ:=L.ext E;by_cases aL:i<l.length
   . have g0:((i:Int) < (l.length:Int))=True:=apD (by omega);obtain ⟨b,off,wl,bW,X,dK,ld⟩:=aM.lV nJ (k:=.i64) aL;have iK:=ld g (Ext.refl g);have db:=fW aL (by unfold top at hle;omega);have bm:=rM (apV aL);have lz:=dK.one;obtain ⟨g1,eR,bB,Z⟩:=hA g [.int .i64 0,.int .i64 0,.int .i64 0,.str [],.bu] [.int .i64 l[i].k,.int .i64 l[i].n,.int .i64 l[i].a,.str l[i].s,wl];simp +contextual only [FW,FX,FY,g0,bW,iK,eR,Z.g,lz.1,lz.2.1,↓ag,al,simprocAttr];refine bS (PT _ l[i] (aps _) (by omega) _ g1 (X.ext bB)) ?_;rintro x g2 ⟨rfl,aK⟩;by_cases bQ:(200:Int) < (l[i].deep:Int)
     . simp +contextual only [FW,FX,FY,apD bQ,↓ag,al,simprocAttr];refine ⟨?_,E.trans (bB.trans aK)⟩;rw [apu];intro z;have:=apP.1 z _ (apV aL);simp only [apE] at this;omega
     . simp +contextual only [FW,FX,FY,db,apx bQ,↓ag,al,simprocAttr];refine ⟨⟨i+1,rfl,aL,E.trans (bB.trans aK),?_⟩,by omega⟩;rw [take_one aL,List.all_append,dx];simp;omega
   . have g0:((i:Int) < (l.length:Int))=False:=apx (by omega);rw [apZ (by omega)] at dx;simp +contextual only [FW,FX,FY,ar,g0,↓ag,al,simprocAttr];exact ⟨by rw [apB dx],E⟩
def r2 (p:aM):Bool:=decide (p.k=10)||decide (p.k=11)
abbrev dD:=Int × Int × List UInt8 × Int
def eY (p:aM):dD:=(p.k,p.n,p.s,(p.l.length:Int))
structure bY where
 name:List UInt8
 ty:List UInt8
 tag:Int
 par:Int
 arg:List (List D)
def bY.enc (c:bY):List D:=[.s c.name,.s c.ty,.i .i64 c.tag,.i .i64 c.par,.l 4 c.arg]
def eD (s:List UInt8):List bY->Option bY
 | []=>none
 | c::cs=>if c.name=s then some c else eD s cs
def nA (cs:List bY) (s:List UInt8):List UInt8:=match eD s cs with
 | some c=>c.ty
 | none=>[]
def fj (p:aM):Bool:=decide (10<=p.k)&&decide (p.k<=16)&&p.may dh
def gB (cs:List bY) (p q:aM):Bool:=decide (q.k=p.k)&&(decide (p.k≠16)||match eD q.s cs with
 | some c=>decide (c.ty=nA cs p.s)&&decide (c.arg.length=q.l.length)
 | none=>false)
def h8 (s:List aM) (h:dD) (i:Nat):List aM:=(s.filter fun q=>decide (eY q=h)).filterMap (·.l[i]?)
def hQ (l:List aM):List aM:=l.filter fun p=>!r2 p
def d_ (cs:List bY):Nat->List aM->Bool
 | 0,_=>true
 | n+1,l=>match hQ l with
   | []=>true
   | p::s=>(p::s).all (gB cs p)&&(p::s).all fun q=>(List.range q.l.length).all fun i=>d_ cs n (h8 (p::s) (eY q) i)
def rJ (pre:List bY) (c:bY):Bool:=!pre.any (fun d=>decide (d.name=c.name))&&!pre.any (fun d=>decide (d.ty=c.ty/\d.tag=c.tag))&&decide (c.arg.length<=1)&&dh 4 c.name
def h2 (pre:List bY):List bY->Bool
 | []=>true
 | c::cs=>rJ pre c&&h2 (pre++[c]) cs
def jO (cs:List bY) (l:List aM):Int:=if (h2 [] cs&&l.all fj&&d_ cs (cj l) l)=true then 0 else 2
theorem aly (k:Int) (h:10<=k/\k<=16):fG k=2:=by unfold fG;rw [apu (by omega),apB h]
theorem acB {k:Int} (h:fG k=2):10<=k/\k<=16:=by
 unfold fG at h;by_cases bQ:1<=k/\k<=4
 . rw [apB bQ] at h;omega
 . rw [apu bQ] at h;by_cases b2:10<=k/\k<=16
   . exact b2
   . rw [apu b2] at h;exfalso
     repeat' (split at h)
     all_goals omega
theorem Lo:∀{n:Nat} {l:List aM},l.length<=n->ko dh (List.replicate n 2) l=true->∀q ∈ l,fG q.k=2/\q.j0 dh=true
 | _,[],_,_,q,aq=>by cases aq
 | 0,t::l,ar,_,_,_=>by simp at ar
 | n+1,t::l,ar,h,q,aq=>by
   simp only [List.replicate_succ,ko,po,apn] at h;simp only [apz] at ar;rcases apI.1 aq with rfl | aq
   . exact ⟨by simpa using h.1.1,h.1.2⟩
   . exact Lo (by omega) h.2 q aq
theorem yO {p q:aM} (h:q ∈ p.l):q.size<p.size:=uY h
theorem te {p:aM} (aW:p.size<=1000000000) (h:fj p=true):
 10<=p.k/\p.k<=16/\(p.k=15->p.l.length=2/\p.n=0/\p.s=[])/\(p.k=16->p.l.length<=1/\p.n=0)/\(p.k≠15->p.k≠16->p.l=[])/\∀q ∈ p.l,fj q=true:=by
 simp only [fj,apn,apE] at h;obtain ⟨⟨U,ab⟩,aI⟩:=h;have aD:=uO (named:=dh) p.size p (aps _) aW;rw [aI] at aD;rw [U9] at aD;simp only [apn,apE] at aD;obtain ⟨⟨⟨⟨⟨⟨a',cG⟩,b3⟩,eg⟩,bL⟩,dI⟩,dN⟩:=aD;have lV:∀q ∈ p.l,fG q.k=2/\q.j0 dh=true->fj q=true:=by intro q aq ⟨a,b⟩;have:=acB a;rw [uO (named:=dh) q.size q (aps _) (by have:=yO aq;omega)] at b;simp [fj,this.1,this.2,b]
 have aA:p.k=10\/p.k=11\/p.k=12\/p.k=13\/p.k=14\/p.k=15\/p.k=16:=by omega
 refine ⟨U,ab,?_⟩;rcases aA with e | e | e | e | e | e | e<;>rw [e] at cG b3 dI dN<;>simp [qB,hv,di] at cG b3 dI dN
 all_goals rw [e]
 all_goals first
  | (refine ⟨by intro z;omega,by intro z;omega,fun _ _=>dI,fun q aq=>?_⟩;rw [dI] at aq;cases aq)
  | skip
 . exact ⟨fun _=>⟨dI,b3,cG⟩,by intro z;omega,by intro z;omega,fun q aq=>lV q aq (Lo (n:=2) (by omega) (by simpa [List.replicate] using dN) q aq)⟩
 . exact ⟨by intro z;omega,fun _=>⟨dI,b3⟩,fun _ z=>absurd rfl z,fun q aq=>lV q aq (Lo (aps _) dN q aq)⟩
end
end Go.Proofs.YtgmhjhgoamjeeaaGreatDoor
