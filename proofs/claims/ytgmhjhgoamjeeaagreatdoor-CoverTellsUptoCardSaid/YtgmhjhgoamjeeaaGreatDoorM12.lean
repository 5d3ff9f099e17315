/- The chapter's functions, walked by the abstract machine: plain lemmas, no condition. Printed by a program from longer texts: names made short. -/
import Derived.Test.YtgmhjhgoamjeeaaGreatDoorM10
import Derived.Test.YtgmhjhgoamjeeaaGreatDoorM11
set_option linter.unusedSectionVars false
set_option linter.unusedSimpArgs false
set_option linter.unusedVariables false
set_option maxHeartbeats 64000000
noncomputable section
namespace Go.Proofs.YtgmhjhgoamjeeaaGreatDoor
section
open Go a7
theorem aE.lX [Lay] {F:aQ->Prop} {h:ag} {l:List aE} {v:V} (H:bB F h 5 (l.map aE.enc) v) {k:IntKind} {i:Nat} (aB:i<l.length):
 ∃b off cB,hG 5 v (.int k i)=some (.ptr b (off+i * 5))/\cb F h l[i].enc [.int .i64 l[i].k,.int .i64 l[i].n,.int .i64 l[i].a,.str l[i].s,cB]/\bB F h 5 (l[i].l.map aE.enc) cB/\
  (∀ab,Ext h ab->nj 5 (ab.get b) (off+i * 5)=some (.agg [.int .i64 l[i].k,.int .i64 l[i].n,.int .i64 l[i].a,.str l[i].s,cB]))/\
  (∀ab,Ext h ab->gX (ab.get b) (off+i * 5)=some (.int .i64 l[i].k))/\(∀ab,Ext h ab->gX (ab.get b) (off+i * 5+3)=some (.str l[i].s))/\(∀ab,Ext h ab->gX (ab.get b) (off+i * 5+4)=some cB):=by
 obtain ⟨b,off,u,ax,aH,bA,b5,cW⟩:=H.at (k:=k) (i:=i) (by rw [ap6];exact aB);rw [arV] at aH;obtain ⟨cB,rfl,L,_⟩:=aE.open aH;exact ⟨b,off,cB,ax,aH,L,b5,fun ab e=>by simpa using cW ab e 0 (by omega),fun ab e=>by simpa using cW ab e 3 (by omega),fun ab e=>by simpa using cW ab e 4 (by omega)⟩
theorem Vl {l:List aE} {i:Nat} (aB:i<l.length):b0 l[i].l<b0 l:=by have aa:=pS (aqC aB);have ae:=size_eq l[i];omega
theorem U3:∀(N:Nat) (l:List aE),b0 l<N->∀(m:Int) (v:V) (h:ag),bB Any h 5 (l.map aE.enc) v->cr Tryz.prog 60 [v,.int .i64 m] h fun x ab=>(∃n,x=.int .i64 n)/\ab=h
 | 0,l,aO,_,_,_,_=>by omega
 | N+1,l,aO,m,v,h,L=>by
   have aw:=L.len;have hle:=L.le;rw [ap6] at aw hle;refine Z1.z rfl (cm ?_);unfold Pm;simp +contextual only [↓af,an,simprocAttr];refine ek (fun r g=>r 0=v/\r 1=.int .i64 m/\g=h/\∃(i:Nat) (n:Int),r 5=.int .i64 n/\r 6=.int .i64 i/\i<=l.length) (fun r g=>l.length - (r 6).toN) ?_ ?_
   . exact ⟨by simp only [↓af,bq,simprocAttr],by simp only [↓af,bq,simprocAttr],rfl,0,0,by simp only [↓af,bq,simprocAttr],by simp only [↓af,bq,simprocAttr]<;>rfl,by omega⟩
   rintro r g ⟨aU,a8,rfl,i,n,bS,cz,aB⟩;unfold Pn;by_cases aN:i<l.length
   . have g0:((i:Int) < (l.length:Int))=True:=aqh (by omega);by_cases aW:n<=m
     . have y1:=aqh aW;obtain ⟨b,off,wl,bQ,X,eR,ld,eW,oN,oO⟩:=aE.lX L (k:=.i64) aN;have d3:=oN g (Ext.refl g);have d4:=oO g (Ext.refl g);have cv:=fk aN (by unfold top at hle;omega);have ea:l[i].s.length<=top:=by obtain ⟨_,_,_,q⟩:=aE.open X;exact q
       have alz:=alA (P:=Tryz.prog) (n:=l[i].s.length) (by unfold top at ea;omega);simp +contextual only [aU,a8,bS,cz,aw,g0,y1,bQ,d3,d4,alz,↓af,an,simprocAttr];refine bF (U3 N l[i].l (by have:=Vl aN;omega) _ wl g eR) ?_;rintro x g2 ⟨⟨y,rfl⟩,rfl⟩;simp +contextual only [aU,a8,bS,cz,cv,↓af,an,simprocAttr];exact ⟨⟨i+1,_,rfl,rfl,aN⟩,by omega⟩
     . have y1:=ap_ aW;simp +contextual only [aU,a8,bS,cz,aw,g0,y1,↓af,an,simprocAttr];exact ⟨_,rfl⟩
   . have g0:((i:Int) < (l.length:Int))=False:=ap_ (by omega);simp +contextual only [aU,a8,bS,cz,aw,g0,↓af,an,simprocAttr];exact ⟨_,rfl⟩
theorem aiE (l:List aE) (m:Int) (v:V) (h:ag) (L:bB Any h 5 (l.map aE.enc) v):cr Tryz.prog 32 [v,.int .i64 m] h fun x ab=>(∃b,x=.bool b)/\ab=h:=by refine ZS.z rfl (cm ?_);unfold OY;simp +contextual only [↓af,an,simprocAttr];refine bF (U3 _ l (Nat.lt_succ_self _) m v h L) ?_;rintro x g2 ⟨⟨y,rfl⟩,rfl⟩;simp +contextual only [↓af,an,simprocAttr];exact ⟨_,rfl⟩
theorem QE:∀(N:Nat) (l:List aE),b0 l<N->N<=1000000000->∀(v:V) (h:ag),bB Any h 5 (l.map aE.enc) v->cr Tryz.prog 17 [v] h fun x ab=>bB (lC h) ab 5 (l.map aE.enc) x/\Ext h ab
 | 0,l,aO,_,_,_,_=>by omega
 | N+1,l,aO,bI,v,h,L=>by
   have aw:=L.len;have hle:=L.le;rw [ap6] at aw hle;refine ZM.z rfl (cm ?_);unfold uq;simp +contextual only [↓af,an,simprocAttr];refine ek (fun r g=>r 0=v/\∃(i:Nat) (w:V),r 3=w/\r 4=.int .i64 i/\i<=l.length/\db h.next (lC h) g 5 ((l.take i).map aE.enc) w/\Ext h g) (fun r g=>l.length - (r 4).toN) ?_ ?_
   . exact ⟨by simp only [↓af,bq,simprocAttr],0,.bL,by simp only [↓af,bq,simprocAttr],by simp only [↓af,bq,simprocAttr]<;>rfl,by omega,db.nil _ _ _ _,Ext.refl h⟩
   rintro r g ⟨aU,i,w,bP,d_,aB,W,E⟩;unfold OP;have na:=mG l;by_cases aN:i<l.length
   . have g0:((i:Int) < (l.length:Int))=True:=aqh (by omega);obtain ⟨b,off,wl,bQ,X,eR,ld,eW,oN,oO⟩:=aE.lX (L.ext E) (k:=.i64) aN;have d0:=ld g (Ext.refl g);obtain ⟨g1,dU,bD,Z⟩:=gE g [.int .i64 0,.int .i64 0,.int .i64 0,.str [],.bL] [.int .i64 l[i].k,.int .i64 l[i].n,.int .i64 l[i].a,.str l[i].s,wl];have d4:=oO g1 bD;have cv:=fk aN (by unfold top at hle;omega);have ol:=eR.one;simp +contextual only [aU,bP,d_,aw,g0,bQ,d0,d4,dU,ol.1,ol.2.1,↓af,an,simprocAttr];refine bF (QE N l[i].l (by have:=Vl aN;omega) (by omega) wl g1 (eR.ext bD)) ?_;rintro y g2 ⟨Y,er⟩;have sE:=Z.ext er;have ib:=Y.one;have aph:=Z.lt;have an7:Ext g g2:=bD.trans er;have X9:=sE.put [.int .i64 l[i].k,.int .i64 l[i].n,.int .i64 l[i].a,.str l[i].s,y];have X7:=Y.set (b:=aG g.next) (fun q=>by unfold lC at q;rw [dx] at q;omega) (.bU [.int .i64 l[i].k,.int .i64 l[i].n,.int .i64 l[i].a,.str l[i].s,y] 0 false);have W7:Ext g (g2.set (aG g.next) (.bU [.int .i64 l[i].k,.int .i64 l[i].n,.int .i64 l[i].a,.str l[i].s,y] 0 false)):=an7.set (ap7 _) _;have hw:∀b,lC g1 b->lC h b/\¬w.a' b:=fun b q=>by
      have:=E.next
      unfold lC at q ⊢;refine ⟨by omega,fun z=>?_⟩;have:=W.tu z;unfold Old at this;omega
     have ao:cb (fun b=>lC h b/\¬w.a' b) (g2.set (aG g.next) (.bU [.int .i64 l[i].k,.int .i64 l[i].n,.int .i64 l[i].a,.str l[i].s,y] 0 false)) l[i].enc [.int .i64 l[i].k,.int .i64 l[i].n,.int .i64 l[i].a,.str l[i].s,y]:=by
      rw [xn];have hj:l[i].s.length<=top:=by obtain ⟨_,_,_,q⟩:=aE.open X;exact q
      exact .i (.i (.i (.s hj ((X7.e3 hw).cons .nil))))
     have X3:=W.ext W7;have iP:=E.trans W7;simp +contextual only [aU,bP,d_,sE.g,ib.1,ib.2.1,↓af,an,simprocAttr];have n3:(g2.set (aG g.next) (.bU [.int .i64 l[i].k,.int .i64 l[i].n,.int .i64 l[i].a,.str l[i].s,y] 0 false)).next=g2.next:=oT ..
     generalize g2.set (aG g.next) (.bU [.int .i64 l[i].k,.int .i64 l[i].n,.int .i64 l[i].a,.str l[i].s,y] 0 false)=g3 at *;obtain ⟨w',g4,al,au,aJ,bE,c1⟩:=X3.add ao (by omega) iP.next (by rw [ap6,aqw];unfold top;omega) rfl
     rw [n3] at al;simp +contextual only [aU,bP,d_,X9.g,ib.1,ib.2.1,al,cv,↓af,an,simprocAttr];refine ⟨⟨i+1,rfl,aN,?_,iP.fp aJ fun b ak=>W.base ak⟩,by omega⟩;rw [take_one aN,aqS];exact au
   . have g0:((i:Int) < (l.length:Int))=False:=ap_ (by omega);rw [aqt (by omega)] at W;simp +contextual only [aU,bP,d_,aw,g0,↓af,an,simprocAttr];exact ⟨W.ea (by rw [ap6];exact hle) (fun _ q=>q) fun _ q=>q,E⟩
theorem V8:∀(N:Nat),(∀(t:aE),2 * t.size<N->∀(ah ws:List V) (h:ag),cb Any h t.enc ah->cb Any h t.enc ws->cr Tryz.prog 53 [.agg ah,.agg ws] h fun x ab=>x=.bool true/\Ext h ab)/\
 (∀(l:List aE),2 * b0 l+1<N->∀(v w:V) (h:ag),bB Any h 5 (l.map aE.enc) v->bB Any h 5 (l.map aE.enc) w->cr Tryz.prog 22 [v,w] h fun x ab=>x=.bool true/\Ext h ab)
 | 0=>⟨fun t q=>by omega,fun l q=>by omega⟩
 | N+1=>by
   obtain ⟨Kz,KA⟩:=V8 N;refine ⟨fun t aO ah ws h H cf=>?_,fun l aO v w h L vL=>?_⟩
   . obtain ⟨cB,rfl,L,_⟩:=aE.open H;obtain ⟨wl,rfl,vL,_⟩:=aE.open cf;have cu:=size_eq t;have ol:=L.one;have fq:=vL.one;refine Z0.z rfl (cm ?_);unfold Pl;obtain ⟨aa,al,ax,dG⟩:=gb h [.int .i64 t.k,.int .i64 t.n,.int .i64 t.a,.str t.s,cB];obtain ⟨ae,au,aH,fN⟩:=gb aa [.int .i64 t.k,.int .i64 t.n,.int .i64 t.a,.str t.s,wl];have vy:=dG.ext aH;simp +contextual only [ol.1,ol.2.1,fq.1,fq.2.1,al,au,vy.g,fN.g,arP,↓af,an,simprocAttr];refine bF (KA t.l (by omega) cB wl ae (L.ext (ax.trans aH)) (vL.ext (ax.trans aH))) ?_;rintro x aM ⟨rfl,bA⟩;simp +contextual only [↓af,an,simprocAttr];exact (ax.trans aH).trans bA
   . have aw:=L.len;have kf:=vL.len;have hle:=L.le;rw [ap6] at aw hle kf;refine ZR.z rfl (cm ?_);unfold OW;simp +contextual only [aw,kf,↓af,an,simprocAttr];refine ek (fun r g=>r 0=v/\r 1=w/\∃i:Nat,r 5=.int .i64 i/\i<=l.length/\Ext h g) (fun r g=>l.length - (r 5).toN) ?_ ?_
     . exact ⟨by simp only [↓af,bq,simprocAttr],by simp only [↓af,bq,simprocAttr],0,by simp only [↓af,bq,simprocAttr]<;>rfl,by omega,Ext.refl h⟩
     rintro r g ⟨aU,a8,i,bS,aB,E⟩;unfold OX;by_cases aN:i<l.length
     . have g0:((i:Int) < (l.length:Int))=True:=aqh (by omega);obtain ⟨b,off,ul,bQ,X,eR,ld⟩:=aE.la (L.ext E) (k:=.i64) aN;obtain ⟨b1,Lm,apN,qJ,AW,aor,u0⟩:=aE.la (vL.ext E) (k:=.i64) aN;have d1:=ld g (Ext.refl g);have d2:=u0 g (Ext.refl g);have cv:=fk aN (by unfold top at hle;omega);have cu:=pS (aqC aN);simp +contextual only [aU,a8,bS,aw,g0,bQ,qJ,d1,d2,↓af,an,simprocAttr];refine bF (Kz l[i] (by omega) _ _ g X AW) ?_;rintro x g2 ⟨rfl,aH⟩;have d3:=ld g2 aH;have d4:=u0 g2 aH;simp +contextual only [aU,a8,bS,cv,d1,d2,d3,d4,↓af,an,simprocAttr];exact ⟨⟨i+1,rfl,aN,E.trans aH⟩,by omega⟩
     . have g0:((i:Int) < (l.length:Int))=False:=ap_ (by omega);simp +contextual only [aU,a8,bS,aw,g0,↓af,an,simprocAttr];exact E
theorem amw (l:List aE) (v w:V) (h:ag) (L:bB Any h 5 (l.map aE.enc) v) (vL:bB Any h 5 (l.map aE.enc) w):cr Tryz.prog 22 [v,w] h fun x ab=>x=.bool true/\Ext h ab:=(V8 _).2 l (Nat.lt_succ_self _) v w h L vL
theorem Wj (k n a:Int) (t z:List UInt8) (h:ag) (aK:t.length<=100000):cr Tryz.prog 108 [.agg [.int .i64 k,.int .i64 n,.int .i64 a,.str t],.str z] h fun x ab=>x=.bool (decide (z=(if k=5 then 39::t else t)))/\Ext h ab:=by
 refine Zr.z rfl (cm ?_);unfold Ol;obtain ⟨aa,al,ax,dG⟩:=gb h [.int .i64 k,.int .i64 n,.int .i64 a,.str t];by_cases aA:k=5
 . have aw:(1+t.length<=17179869184)=True:=aqh (by omega);simp +contextual only [al,dG.g,aqh aA,aw,aqB,aqM,aq8,↓af,an,simprocAttr];exact ax
 . simp +contextual only [al,dG.g,ap_ aA,aqD,↓af,an,simprocAttr];exact ax
theorem TZ:∀(f:Nat) (r:List UInt8) (p:Nat) (ws:List cc),nZ f r p=.ok ws->∀w ∈ ws,w.kind=3\/w.kind=4\/w.kind=5->w.text.length<=64:=fun f r p ws h w hw aA=>by obtain ⟨_,g,_⟩:=La (Cq f r p ws h w hw aA);exact g
theorem MS (k:Int) (aA:k=3\/k=4\/k=5) (s:List UInt8) (h:ag):cr Tryz.prog 104 [.int .i64 k,.str s] h fun x ab=>x=.bool (dm k s)/\Ext h ab:=by
 rw [<-anV aA];refine Zo.z rfl (cm ?_);unfold Oh;by_cases Je:(64:Int) < (s.length:Int)
 . have hw:tO k s=false:=by unfold tO;rw [aqJ (show ¬s.length<=64 by omega)];simp
   simp +contextual only [aqh Je,hw,↓af,an,simprocAttr];exact Ext.refl _
 by_cases s8:s=[]
 . have hw:tO k s=false:=by unfold tO;rw [s8];simp
   simp +contextual only [ap_ Je,aqh s8,hw,↓af,an,simprocAttr];exact Ext.refl _
 have f64:=ap_ Je;have RF:=ap_ s8
 have hw:tO k s=(match l0 (if k=5 then 39::s else s) with
  | .ok [w]=>decide (w.kind=k)&&decide (w.pos=0)&&decide (w.text≠[])&&decide ((if k=5 then 39::s else s)=(if w.kind=5 then 39::w.text else w.text))
  | _=>false):=by
  unfold tO;rw [aqH (show s.length<=64 by omega),aqH s8];rfl
 rw [hw];clear hw;have aeQ:(1+s.length<=17179869184)=True:=aqh (by omega);generalize bl:(if k=5 then 39::s else s)=z;have cw:(k=5/\z=39::s)\/(¬k=5/\z=s):=by
  by_cases cw:k=5
  . exact .inl ⟨cw,by rw [<-bl,aqf cw]⟩
  . exact .inr ⟨cw,by rw [<-bl,aqa cw]⟩
 clear bl;rcases cw with ⟨cw,bl⟩ | ⟨cw,bl⟩
 . simp +contextual only [f64,RF,aqh cw,aeQ,aqM,aq8,↓af,an,simprocAttr];rw [<-bl];clear bl;refine bF (T1 z h) ?_;rintro x aa ⟨ax,ao⟩;cases c0:l0 z with
   | error e=>
     rw [c0] at ao;simp only at ao;subst ao;obtain ⟨ae,au,aH,fN⟩:=gE aa [.int .i64 0,.int .i64 0] [.int .i64 e.1,.int .i64 e.2];by_cases he:e.1=0
     . simp +contextual only [au,fN.g,aqh he,↓af,an,simprocAttr];exact ax.trans aH
     . simp +contextual only [au,fN.g,ap_ he,↓af,an,simprocAttr];exact ax.trans aH
   | ok ws=>
     rw [c0] at ao;simp only at ao;obtain ⟨v,rfl,S⟩:=ao;obtain ⟨ae,au,aH,fN⟩:=gE aa [.int .i64 0,.int .i64 0] [.int .i64 0,.int .i64 0];have lD:=(S.ext aH).v;have aw:=lD.len;have cY:=lD.one
     match ws,c0,lD,aw with
     | [],_,lD,aw=>
       have fm:iF v=some (.int .i64 0):=aw;simp +contextual only [au,fN.g,fm,cY.1,cY.2.1,↓af,an,simprocAttr];exact ax.trans aH
     | [w],c0,lD,aw=>
       have fm:iF v=some (.int .i64 1):=aw;obtain ⟨bM,di,w6,nE⟩:=lD.bQ (k:=.i64) (i:=0) (by simp);have s_:hG 4 v (.int .i64 0)=some (.ptr bM di):=by simpa using w6
       have d0:gX (ae.get bM) di=some (.int .i64 w.kind):=by have:=nE.eD (i:=0) (by simp [jw,cc.enc]);simpa [jw,cc.enc] using this
       have d2:gX (ae.get bM) (di+2)=some (.int .i64 w.pos):=by have:=nE.eD (i:=2) (by simp [jw,cc.enc]);simpa [jw,cc.enc] using this
       have d3:gX (ae.get bM) (di+3)=some (.str w.text):=by have:=nE.eD (i:=3) (by simp [jw,cc.enc]);simpa [jw,cc.enc] using this
       have jg:nj 4 (ae.get bM) di=some (.agg [.int .i64 w.kind,.int .i64 w.num,.int .i64 w.pos,.str w.text]):=by have:=nE.fX (i:=0) (n:=4) (by simp [jw,cc.enc]);simpa [jw,cc.enc] using this
       by_cases bW:w.kind=k
       . by_cases b6:(w.pos:Int)=0
         . by_cases c3:w.text=[]
           . have qa:((0:Int) < (w.text.length:Int))=False:=by rw [c3];simp
             simp +contextual only [au,fN.g,fm,cY.1,cY.2.1,s_,d0,d2,d3,jg,aqh bW,aqh b6,qa,↓af,an,simprocAttr];exact ⟨by rw [c3];simp,ax.trans aH⟩
           . have qa:((0:Int) < (w.text.length:Int))=True:=aqh (by have:=aso.2 c3;omega);have aK:w.text.length<=64:=by
              have hm:w.kind=3\/w.kind=4\/w.kind=5:=by rw [bW];exact aA
              unfold l0 at c0
              split at c0
              . cases c0
              . split at c0
                . cases c0
                . exact TZ _ _ _ _ c0 w (by simp) hm
             simp +contextual only [au,fN.g,fm,cY.1,cY.2.1,s_,d0,d2,d3,jg,aqh bW,aqh b6,qa,↓af,an,simprocAttr];refine bF (Wj _ _ _ w.text z ae (by omega)) ?_;rintro x aM ⟨rfl,bA⟩;simp +contextual only [↓af,an,simprocAttr];refine ⟨?_,(ax.trans aH).trans bA⟩;have Ie:w.pos=0:=by omega
             simp [bW,Ie,c3]
         . simp +contextual only [au,fN.g,fm,cY.1,cY.2.1,s_,d0,d2,d3,jg,aqh bW,ap_ b6,↓af,an,simprocAttr]
           exact ⟨by have:¬w.pos=0:=by omega
                     simp [this],ax.trans aH⟩
       . simp +contextual only [au,fN.g,fm,cY.1,cY.2.1,s_,d0,d2,d3,jg,ap_ bW,↓af,an,simprocAttr]
         first | exact ax.trans aH | exact ⟨by simp [bW],ax.trans aH⟩
     | w::bN::ws,_,lD,aw=>
       have fm:(((ws.length+2:Nat):Int)=1)=False:=ap_ (by omega);have JT:iF v=some (.int .i64 ((ws.length+2:Nat):Int)):=aw;simp +contextual only [au,fN.g,JT,fm,cY.1,cY.2.1,↓af,an,simprocAttr];exact ax.trans aH
 . simp +contextual only [f64,RF,ap_ cw,↓af,an,simprocAttr];rw [<-bl];clear bl;refine bF (T1 z h) ?_;rintro x aa ⟨ax,ao⟩;cases c0:l0 z with
   | error e=>
     rw [c0] at ao;simp only at ao;subst ao;obtain ⟨ae,au,aH,fN⟩:=gE aa [.int .i64 0,.int .i64 0] [.int .i64 e.1,.int .i64 e.2];by_cases he:e.1=0
     . simp +contextual only [au,fN.g,aqh he,↓af,an,simprocAttr];exact ax.trans aH
     . simp +contextual only [au,fN.g,ap_ he,↓af,an,simprocAttr];exact ax.trans aH
   | ok ws=>
     rw [c0] at ao;simp only at ao;obtain ⟨v,rfl,S⟩:=ao;obtain ⟨ae,au,aH,fN⟩:=gE aa [.int .i64 0,.int .i64 0] [.int .i64 0,.int .i64 0];have lD:=(S.ext aH).v;have aw:=lD.len;have cY:=lD.one
     match ws,c0,lD,aw with
     | [],_,lD,aw=>
       have fm:iF v=some (.int .i64 0):=aw;simp +contextual only [au,fN.g,fm,cY.1,cY.2.1,↓af,an,simprocAttr];exact ax.trans aH
     | [w],c0,lD,aw=>
       have fm:iF v=some (.int .i64 1):=aw;obtain ⟨bM,di,w6,nE⟩:=lD.bQ (k:=.i64) (i:=0) (by simp);have s_:hG 4 v (.int .i64 0)=some (.ptr bM di):=by simpa using w6
       have d0:gX (ae.get bM) di=some (.int .i64 w.kind):=by have:=nE.eD (i:=0) (by simp [jw,cc.enc]);simpa [jw,cc.enc] using this
       have d2:gX (ae.get bM) (di+2)=some (.int .i64 w.pos):=by have:=nE.eD (i:=2) (by simp [jw,cc.enc]);simpa [jw,cc.enc] using this
       have d3:gX (ae.get bM) (di+3)=some (.str w.text):=by have:=nE.eD (i:=3) (by simp [jw,cc.enc]);simpa [jw,cc.enc] using this
       have jg:nj 4 (ae.get bM) di=some (.agg [.int .i64 w.kind,.int .i64 w.num,.int .i64 w.pos,.str w.text]):=by have:=nE.fX (i:=0) (n:=4) (by simp [jw,cc.enc]);simpa [jw,cc.enc] using this
       by_cases bW:w.kind=k
       . by_cases b6:(w.pos:Int)=0
         . by_cases c3:w.text=[]
           . have qa:((0:Int) < (w.text.length:Int))=False:=by rw [c3];simp
             simp +contextual only [au,fN.g,fm,cY.1,cY.2.1,s_,d0,d2,d3,jg,aqh bW,aqh b6,qa,↓af,an,simprocAttr];exact ⟨by rw [c3];simp,ax.trans aH⟩
           . have qa:((0:Int) < (w.text.length:Int))=True:=aqh (by have:=aso.2 c3;omega);have aK:w.text.length<=64:=by
              have hm:w.kind=3\/w.kind=4\/w.kind=5:=by rw [bW];exact aA
              unfold l0 at c0
              split at c0
              . cases c0
              . split at c0
                . cases c0
                . exact TZ _ _ _ _ c0 w (by simp) hm
             simp +contextual only [au,fN.g,fm,cY.1,cY.2.1,s_,d0,d2,d3,jg,aqh bW,aqh b6,qa,↓af,an,simprocAttr];refine bF (Wj _ _ _ w.text z ae (by omega)) ?_;rintro x aM ⟨rfl,bA⟩;simp +contextual only [↓af,an,simprocAttr];refine ⟨?_,(ax.trans aH).trans bA⟩;have Ie:w.pos=0:=by omega
             simp [bW,Ie,c3]
         . simp +contextual only [au,fN.g,fm,cY.1,cY.2.1,s_,d0,d2,d3,jg,aqh bW,ap_ b6,↓af,an,simprocAttr]
           exact ⟨by have:¬w.pos=0:=by omega
                     simp [this],ax.trans aH⟩
       . simp +contextual only [au,fN.g,fm,cY.1,cY.2.1,s_,d0,d2,d3,jg,ap_ bW,↓af,an,simprocAttr]
         first | exact ax.trans aH | exact ⟨by simp [bW],ax.trans aH⟩
     | w::bN::ws,_,lD,aw=>
       have fm:(((ws.length+2:Nat):Int)=1)=False:=ap_ (by omega);have JT:iF v=some (.int .i64 ((ws.length+2:Nat):Int)):=aw;simp +contextual only [au,fN.g,JT,fm,cY.1,cY.2.1,↓af,an,simprocAttr];exact ax.trans aH
theorem FQ {k:Int} (h:fE k≠0):k=1\/k=2\/k=3\/k=4\/k=10\/k=13\/k=11\/k=12\/k=14\/k=15\/k=16\/k=20\/k=21\/k=22\/k=23\/k=24\/k=25\/k=26\/k=28\/k=35\/k=37\/k=38\/k=34\/k=36\/k=39\/k=31\/k=27\/k=29\/k=30\/k=32\/k=33\/k=45\/k=46\/k=47\/k=51\/k=52\/k=53\/k=50:=by
 cases aD:pV k with
 | none=>exact absurd (V1 aD) h
 | some r=>
   have hm:=GP (l:=tD) aD;simp only [tD,aql,aq9,asn,or_false] at hm;omega
theorem akL (h:ag):cr Tryz.prog 99 [] h fun x ab=>x=.slice (aG h.next) 0 8 8/\ab=h.new (.bU (q2 opsL) 0 false):=by refine aay.z rfl (cm ?_);unfold Qm;simp +contextual only [↓af,an,simprocAttr];rfl
theorem ang (t:aE) (aA:fE t.k≠0) (ah:List V) (h:ag) (H:cb Any h t.enc ah):cr Tryz.prog 67 [.agg ah] h fun x ab=>x=.bool (oZ dm t.k t.s)/\Ext h ab:=by
 obtain ⟨cB,rfl,L,aO⟩:=aE.open H;have ol:=L.one;obtain ⟨k,n,a,s,l⟩:=t;simp only [aE.k,aE.n,aE.a,aE.s,aE.l] at *;refine Z4.z rfl (cm ?_);unfold Ps;obtain ⟨aa,al,ax,dG⟩:=gb h [.int .i64 k,.int .i64 n,.int .i64 a,.str s,cB];have g1:=dG.g;clear L H;rcases FQ aA with rfl | rfl | rfl | rfl | rfl | rfl | rfl | rfl | rfl | rfl | rfl | rfl | rfl | rfl | rfl | rfl | rfl | rfl | rfl | rfl | rfl | rfl | rfl | rfl | rfl | rfl | rfl | rfl | rfl | rfl | rfl | rfl | rfl | rfl | rfl | rfl | rfl | rfl
 . simp +contextual only [ol.1,ol.2.1,al,g1,↓af,an,simprocAttr];refine bF (qX 5 s aO (by simp) aa) ?_;rintro x ae ⟨rfl,aH⟩;simp +contextual only [↓af,an,simprocAttr];exact ⟨by rfl,ax.trans aH⟩
 . simp +contextual only [ol.1,ol.2.1,al,g1,↓af,an,simprocAttr];refine bF (qX 3 s aO (by simp) aa) ?_;rintro x ae ⟨rfl,aH⟩;simp +contextual only [↓af,an,simprocAttr];exact ⟨by rfl,ax.trans aH⟩
 . simp +contextual only [ol.1,ol.2.1,al,g1,↓af,an,simprocAttr];exact ⟨by rfl,ax⟩
 . simp +contextual only [ol.1,ol.2.1,al,g1,↓af,an,simprocAttr];exact ⟨by rfl,ax⟩
 . simp +contextual only [ol.1,ol.2.1,al,g1,↓af,an,simprocAttr];exact ⟨by rfl,ax⟩
 . simp +contextual only [ol.1,ol.2.1,al,g1,↓af,an,simprocAttr];exact ⟨by rfl,ax⟩
 . simp +contextual only [ol.1,ol.2.1,al,g1,↓af,an,simprocAttr];refine bF (qX 3 s aO (by simp) aa) ?_;rintro x ae ⟨rfl,aH⟩;simp +contextual only [↓af,an,simprocAttr];exact ⟨by rfl,ax.trans aH⟩
 . simp +contextual only [ol.1,ol.2.1,al,g1,↓af,an,simprocAttr];exact ⟨by rfl,ax⟩
 . simp +contextual only [ol.1,ol.2.1,al,g1,↓af,an,simprocAttr];exact ⟨by rfl,ax⟩
 . simp +contextual only [ol.1,ol.2.1,al,g1,↓af,an,simprocAttr];exact ⟨by rfl,ax⟩
 . simp +contextual only [ol.1,ol.2.1,al,g1,↓af,an,simprocAttr];refine bF (qX 4 s aO (by simp) aa) ?_;rintro x ae ⟨rfl,aH⟩;simp +contextual only [↓af,an,simprocAttr];exact ⟨by rfl,ax.trans aH⟩
 . simp +contextual only [ol.1,ol.2.1,al,g1,↓af,an,simprocAttr];exact ⟨by rfl,ax⟩
 . simp +contextual only [ol.1,ol.2.1,al,g1,↓af,an,simprocAttr];have a_:oZ dm 21 s=decide ((s.length:Int)<=4096):=by
    show decide (s.length<=4096)=_;exact decide_eq_decide.2 ⟨fun q=>by omega,fun q=>by omega⟩
   exact ⟨by rw [a_],ax⟩
 . simp +contextual only [ol.1,ol.2.1,al,g1,↓af,an,simprocAttr];exact ⟨by rfl,ax⟩
 . simp +contextual only [ol.1,ol.2.1,al,g1,↓af,an,simprocAttr];exact ⟨by rfl,ax⟩
 . simp +contextual only [ol.1,ol.2.1,al,g1,↓af,an,simprocAttr];refine bF (qX 3 s aO (by simp) aa) ?_;rintro x ae ⟨rfl,aH⟩;simp +contextual only [↓af,an,simprocAttr];exact ⟨by rfl,ax.trans aH⟩
 . simp +contextual only [ol.1,ol.2.1,al,g1,↓af,an,simprocAttr];refine bF (qX 4 s aO (by simp) aa) ?_;rintro x ae ⟨rfl,aH⟩;simp +contextual only [↓af,an,simprocAttr];exact ⟨by rfl,ax.trans aH⟩
 . simp +contextual only [ol.1,ol.2.1,al,g1,↓af,an,simprocAttr];exact ⟨by rfl,ax⟩
 . simp +contextual only [ol.1,ol.2.1,al,g1,↓af,an,simprocAttr];exact ⟨by rfl,ax⟩
 . simp +contextual only [ol.1,ol.2.1,al,g1,↓af,an,simprocAttr];exact ⟨by rfl,ax⟩
 . simp +contextual only [ol.1,ol.2.1,al,g1,↓af,an,simprocAttr];exact ⟨by rfl,ax⟩
 . simp +contextual only [ol.1,ol.2.1,al,g1,↓af,an,simprocAttr];refine bF (akL aa) ?_;rintro x ae ⟨rfl,rfl⟩;have aH:Ext aa (aa.new (.bU (q2 opsL) 0 false)):=(Ext.refl aa).new _;have g2:=(dG.ext aH).g;simp +contextual only [g1,g2,↓af,an,simprocAttr];refine gr (KC s opsL _ 8 _ (by decide) (by rw [oA])) ?_;simp +contextual only [g1,g2,↓af,an,simprocAttr];exact ⟨by rfl,ax.trans aH⟩
 . simp +contextual only [ol.1,ol.2.1,al,g1,↓af,an,simprocAttr];exact ⟨by rfl,ax⟩
 . simp +contextual only [ol.1,ol.2.1,al,g1,↓af,an,simprocAttr];exact ⟨by rfl,ax⟩
 . simp +contextual only [ol.1,ol.2.1,al,g1,↓af,an,simprocAttr];exact ⟨by rfl,ax⟩
 . simp +contextual only [ol.1,ol.2.1,al,g1,↓af,an,simprocAttr];exact ⟨by rfl,ax⟩
 . simp +contextual only [ol.1,ol.2.1,al,g1,↓af,an,simprocAttr];exact ⟨by rfl,ax⟩
 . simp +contextual only [ol.1,ol.2.1,al,g1,↓af,an,simprocAttr];exact ⟨by rfl,ax⟩
 . simp +contextual only [ol.1,ol.2.1,al,g1,↓af,an,simprocAttr];exact ⟨by rfl,ax⟩
 . simp +contextual only [ol.1,ol.2.1,al,g1,↓af,an,simprocAttr];exact ⟨by rfl,ax⟩
 . simp +contextual only [ol.1,ol.2.1,al,g1,↓af,an,simprocAttr];exact ⟨by rfl,ax⟩
 . simp +contextual only [ol.1,ol.2.1,al,g1,↓af,an,simprocAttr];exact ⟨by rfl,ax⟩
 . simp +contextual only [ol.1,ol.2.1,al,g1,↓af,an,simprocAttr];refine bF (qX 3 s aO (by simp) aa) ?_;rintro x ae ⟨rfl,aH⟩;simp +contextual only [↓af,an,simprocAttr];exact ⟨by rfl,ax.trans aH⟩
 . simp +contextual only [ol.1,ol.2.1,al,g1,↓af,an,simprocAttr];refine bF (qX 4 s aO (by simp) aa) ?_;rintro x ae ⟨rfl,aH⟩;simp +contextual only [↓af,an,simprocAttr];exact ⟨by rfl,ax.trans aH⟩
 . simp +contextual only [ol.1,ol.2.1,al,g1,↓af,an,simprocAttr];refine bF (qX 4 s aO (by simp) aa) ?_;rintro x ae ⟨rfl,aH⟩;simp +contextual only [↓af,an,simprocAttr];exact ⟨by rfl,ax.trans aH⟩
 . simp +contextual only [ol.1,ol.2.1,al,g1,↓af,an,simprocAttr];exact ⟨by rfl,ax⟩
 . simp +contextual only [ol.1,ol.2.1,al,g1,↓af,an,simprocAttr];exact ⟨by rfl,ax⟩
 . simp +contextual only [ol.1,ol.2.1,al,g1,↓af,an,simprocAttr];refine bF (qX 3 s aO (by simp) aa) ?_;rintro x ae ⟨rfl,aH⟩;simp +contextual only [↓af,an,simprocAttr];exact ⟨by rfl,ax.trans aH⟩
theorem aj3 (t:aE) (aA:fE t.k≠0) (ah:List V) (h:ag) (H:cb Any h t.enc ah):cr Tryz.prog 68 [.agg ah] h fun x ab=>x=.bool (hq t.k t.n t.l.length)/\Ext h ab:=by
 obtain ⟨cB,rfl,L,aO⟩:=aE.open H;have ol:=L.one;have aw:=L.len;rw [List.length_map] at aw;obtain ⟨k,n,a,s,l⟩:=t;simp only [aE.k,aE.n,aE.a,aE.s,aE.l] at *;refine Z5.z rfl (cm ?_);unfold Pt;obtain ⟨aa,al,ax,dG⟩:=gb h [.int .i64 k,.int .i64 n,.int .i64 a,.str s,cB];have g1:=dG.g;clear L H;rcases FQ aA with rfl | rfl | rfl | rfl | rfl | rfl | rfl | rfl | rfl | rfl | rfl | rfl | rfl | rfl | rfl | rfl | rfl | rfl | rfl | rfl | rfl | rfl | rfl | rfl | rfl | rfl | rfl | rfl | rfl | rfl | rfl | rfl | rfl | rfl | rfl | rfl | rfl | rfl
 . simp +contextual only [ol.1,ol.2.1,al,g1,↓af,an,simprocAttr];exact ⟨by rfl,ax⟩
 . simp +contextual only [ol.1,ol.2.1,al,g1,↓af,an,simprocAttr];exact ⟨by rfl,ax⟩
 . simp +contextual only [ol.1,ol.2.1,al,g1,↓af,an,simprocAttr];exact ⟨by rfl,ax⟩
 . simp +contextual only [ol.1,ol.2.1,al,g1,↓af,an,simprocAttr];exact ⟨by rfl,ax⟩
 . simp +contextual only [ol.1,ol.2.1,al,g1,↓af,an,simprocAttr];exact ⟨by rfl,ax⟩
 . simp +contextual only [ol.1,ol.2.1,al,g1,↓af,an,simprocAttr];exact ⟨by rfl,ax⟩
 . simp +contextual only [ol.1,ol.2.1,al,g1,↓af,an,simprocAttr];exact ⟨by rfl,ax⟩
 . by_cases bM:-1073741824<=n
   . simp +contextual only [ol.1,ol.2.1,al,g1,yE bM,↓af,an,simprocAttr];exact ⟨by simp [hq,bM],ax⟩
   . simp +contextual only [ol.1,ol.2.1,al,g1,Bp (Int.not_le.1 bM),ap_ bM,↓af,an,simprocAttr];exact ⟨by simp [hq,bM],ax⟩
 . by_cases bM:n=0
   . simp +contextual only [ol.1,ol.2.1,al,g1,aqh bM,↓af,an,simprocAttr];exact ⟨by simp [hq,bM],ax⟩
   . simp +contextual only [ol.1,ol.2.1,al,g1,ap_ bM,↓af,an,simprocAttr];exact ⟨by simp [hq,bM],ax⟩
 . simp +contextual only [ol.1,ol.2.1,al,g1,↓af,an,simprocAttr];exact ⟨by rfl,ax⟩
 . simp +contextual only [ol.1,ol.2.1,al,g1,↓af,an,simprocAttr];exact ⟨by rfl,ax⟩
 . by_cases bM:-1073741824<=n
   . simp +contextual only [ol.1,ol.2.1,al,g1,yE bM,↓af,an,simprocAttr];exact ⟨by simp [hq,bM],ax⟩
   . simp +contextual only [ol.1,ol.2.1,al,g1,Bp (Int.not_le.1 bM),ap_ bM,↓af,an,simprocAttr];exact ⟨by simp [hq,bM],ax⟩
 . simp +contextual only [ol.1,ol.2.1,al,g1,↓af,an,simprocAttr];exact ⟨by rfl,ax⟩
 . simp +contextual only [ol.1,ol.2.1,al,g1,↓af,an,simprocAttr];exact ⟨by rfl,ax⟩
 . by_cases bM:n=0
   . simp +contextual only [ol.1,ol.2.1,al,g1,aqh bM,↓af,an,simprocAttr];exact ⟨by simp [hq,bM],ax⟩
   . simp +contextual only [ol.1,ol.2.1,al,g1,ap_ bM,↓af,an,simprocAttr];exact ⟨by simp [hq,bM],ax⟩
 . simp +contextual only [ol.1,ol.2.1,al,g1,↓af,an,simprocAttr];exact ⟨by rfl,ax⟩
 . simp +contextual only [ol.1,ol.2.1,al,g1,↓af,an,simprocAttr];exact ⟨by rfl,ax⟩
 . simp +contextual only [ol.1,ol.2.1,al,g1,↓af,an,simprocAttr];exact ⟨by rfl,ax⟩
 . simp +contextual only [ol.1,ol.2.1,al,g1,↓af,an,simprocAttr];exact ⟨by rfl,ax⟩
 . simp +contextual only [ol.1,ol.2.1,al,g1,↓af,an,simprocAttr];exact ⟨by rfl,ax⟩
 . simp +contextual only [ol.1,ol.2.1,al,g1,↓af,an,simprocAttr];exact ⟨by rfl,ax⟩
 . simp +contextual only [ol.1,ol.2.1,al,g1,↓af,an,simprocAttr];exact ⟨by rfl,ax⟩
 . simp +contextual only [ol.1,ol.2.1,al,g1,↓af,an,simprocAttr];exact ⟨by rfl,ax⟩
 . simp +contextual only [ol.1,ol.2.1,al,g1,↓af,an,simprocAttr];exact ⟨by rfl,ax⟩
 . simp +contextual only [ol.1,ol.2.1,al,g1,↓af,an,simprocAttr];exact ⟨by rfl,ax⟩
 . simp +contextual only [ol.1,ol.2.1,al,g1,↓af,an,simprocAttr];exact ⟨by rfl,ax⟩
 . simp +contextual only [ol.1,ol.2.1,al,g1,↓af,an,simprocAttr];exact ⟨by rfl,ax⟩
 . simp +contextual only [ol.1,ol.2.1,al,g1,↓af,an,simprocAttr];exact ⟨by rfl,ax⟩
 . simp +contextual only [ol.1,ol.2.1,al,g1,↓af,an,simprocAttr];exact ⟨by rfl,ax⟩
 . simp +contextual only [ol.1,ol.2.1,al,g1,↓af,an,simprocAttr];exact ⟨by rfl,ax⟩
 . simp +contextual only [ol.1,ol.2.1,al,g1,↓af,an,simprocAttr];exact ⟨by rfl,ax⟩
 . simp +contextual only [ol.1,ol.2.1,al,g1,↓af,an,simprocAttr];exact ⟨by rfl,ax⟩
 . simp +contextual only [ol.1,ol.2.1,al,g1,↓af,an,simprocAttr];exact ⟨by rfl,ax⟩
 . simp +contextual only [ol.1,ol.2.1,al,g1,↓af,an,simprocAttr];exact ⟨by rfl,ax⟩
 . simp +contextual only [ol.1,ol.2.1,al,g1,↓af,an,simprocAttr];exact ⟨by rfl,ax⟩
 . simp +contextual only [ol.1,ol.2.1,al,g1,↓af,an,simprocAttr];exact ⟨by rfl,ax⟩
 . simp +contextual only [ol.1,ol.2.1,al,g1,↓af,an,simprocAttr];exact ⟨by rfl,ax⟩
 . by_cases bM:0<=n
   . by_cases b1:n<=64
     . simp +contextual only [ol.1,ol.2.1,al,g1,aw,yE bM,aqh b1,↓af,an,simprocAttr];exact ⟨by simp [hq,bM,b1],ax⟩
     . simp +contextual only [ol.1,ol.2.1,al,g1,yE bM,ap_ b1,↓af,an,simprocAttr];exact ⟨by simp [hq,bM,b1],ax⟩
   . simp +contextual only [ol.1,ol.2.1,al,g1,Bp (Int.not_le.1 bM),ap_ bM,↓af,an,simprocAttr];exact ⟨by simp [hq,bM],ax⟩
theorem iG (x m:Int) (hm:m<=2000000000) (h:ag):cr Tryz.prog 100 [.int .i64 x,.int .i64 m] h fun y ab=>ec h.next ab 1 y (List.replicate m.toNat x).length (my (List.replicate m.toNat x))/\Ext h ab:=by
 refine Zk.z rfl (cm ?_);unfold Ob;simp +contextual only [↓af,an,simprocAttr];refine ek (fun r g=>r 0=.int .i64 x/\r 1=.int .i64 m/\∃(i:Nat) (w:V),r 5=w/\r 6=.int .i64 i/\i<=m.toNat/\ec h.next g 1 w i (my (List.replicate i x))/\Ext h g) (fun r g=>m.toNat - (r 6).toN) ?_ ?_
 . exact ⟨by simp only [↓af,bq,simprocAttr],by simp only [↓af,bq,simprocAttr],0,.bL,by simp only [↓af,bq,simprocAttr],by simp only [↓af,bq,simprocAttr]<;>rfl,by omega,⟨rfl,rfl⟩,Ext.refl h⟩
 rintro r g ⟨aU,a8,i,w,bS,cz,aB,W,E⟩;unfold Oc;by_cases aN:i<m.toNat
 . have g0:((i:Int)<m)=True:=aqh (by omega);have cv:=fk aN (by omega);obtain ⟨w',g4,al,au,aJ,bE,c1⟩:=AZ (cs:=[.int .i64 x]) (by omega) W E.next (by unfold top;omega) rfl rfl
   simp +contextual only [aU,a8,bS,cz,g0,al,cv,↓af,an,simprocAttr];refine ⟨⟨i+1,rfl,aN,?_,E.fp aJ fun b ak=>W.base ak⟩,by omega⟩;rw [List.replicate_succ',KH];exact au
 . have g0:((i:Int)<m)=False:=ap_ (by omega);have:i=m.toNat:=by omega
   subst this;simp +contextual only [aU,a8,bS,cz,g0,↓af,an,simprocAttr];exact ⟨by rw [ap9];exact W,E⟩
theorem fY {k n:Int} {l:List aE} {gs:List Int} {p q:Prop} [Decidable p] [Decidable q] (h:de k n l=(gs,decide p)) (e:p↔q):de k n l=(gs,decide q):=h.trans (by rw [decide_eq_decide.2 e])
theorem adm (t:aE) (aA:fE t.k≠0) (aW:hq t.k t.n t.l.length=true) (iU:t.l.length<=1000000000) (ah:List V) (h:ag) (H:cb Any h t.enc ah):
 cr Tryz.prog 69 [.agg ah] h fun x ab=>∃v,x=.tuple [v,.bool (de t.k t.n t.l).2]/\bB Any ab 1 ((de t.k t.n t.l).1.map a7.nI) v/\Ext h ab:=by
 obtain ⟨cB,rfl,L,aO⟩:=aE.open H;have ol:=L.one;have aw:=L.len;rw [List.length_map] at aw;obtain ⟨k,n,a,s,l⟩:=t;simp only [aE.k,aE.n,aE.a,aE.s,aE.l] at *;refine Z6.z rfl (cm ?_);unfold Pv;obtain ⟨aa,al,ax,dG⟩:=gb h [.int .i64 k,.int .i64 n,.int .i64 a,.str s,cB];have g1:=dG.g;have Hz:=L.ext ax;clear L H;rcases FQ aA with rfl | rfl | rfl | rfl | rfl | rfl | rfl | rfl | rfl | rfl | rfl | rfl | rfl | rfl | rfl | rfl | rfl | rfl | rfl | rfl | rfl | rfl | rfl | rfl | rfl | rfl | rfl | rfl | rfl | rfl | rfl | rfl | rfl | rfl | rfl | rfl | rfl | rfl
 . rw [fY (q:=(l.length:Int)=0) (show de 1 n l=([],decide (l.length=0)) from rfl) ⟨fun q=>by omega,fun q=>by omega⟩];simp +contextual only [ol.1,ol.2.1,al,g1,aw,↓af,an,simprocAttr];exact ⟨_,rfl,bB.nil _ _ _,ax⟩
 . rw [fY (q:=(l.length:Int)<=64) (show de 2 n l=(List.replicate (l.length:Int).toNat 1,decide (l.length<=64)) from rfl) ⟨fun q=>by omega,fun q=>by omega⟩];simp +contextual only [ol.1,ol.2.1,al,g1,aw,↓af,an,simprocAttr];refine bF (iG 1 (l.length:Int) (by omega) aa) ?_;rintro y ae ⟨Y,aH⟩;simp +contextual only [↓af,an,simprocAttr];exact ⟨_,rfl,Y.g' (by rw [ap9];unfold top;omega),ax.trans aH⟩
 . rw [fY (q:=(l.length:Int)=2) (show de 3 n l=(List.replicate (2:Int).toNat 1,decide (l.length=2)) from rfl) ⟨fun q=>by omega,fun q=>by omega⟩];simp +contextual only [ol.1,ol.2.1,al,g1,aw,↓af,an,simprocAttr];refine bF (iG 1 (2:Int) (by omega) aa) ?_;rintro y ae ⟨Y,aH⟩;simp +contextual only [↓af,an,simprocAttr];exact ⟨_,rfl,Y.g' (by rw [ap9];unfold top;omega),ax.trans aH⟩
 . rw [fY (q:=(l.length:Int)=2) (show de 4 n l=(List.replicate (2:Int).toNat 1,decide (l.length=2)) from rfl) ⟨fun q=>by omega,fun q=>by omega⟩];simp +contextual only [ol.1,ol.2.1,al,g1,aw,↓af,an,simprocAttr];refine bF (iG 1 (2:Int) (by omega) aa) ?_;rintro y ae ⟨Y,aH⟩;simp +contextual only [↓af,an,simprocAttr];exact ⟨_,rfl,Y.g' (by rw [ap9];unfold top;omega),ax.trans aH⟩
 . rw [fY (q:=(l.length:Int)=0) (show de 10 n l=([],decide (l.length=0)) from rfl) ⟨fun q=>by omega,fun q=>by omega⟩];simp +contextual only [ol.1,ol.2.1,al,g1,aw,↓af,an,simprocAttr];exact ⟨_,rfl,bB.nil _ _ _,ax⟩
 . rw [fY (q:=(l.length:Int)=0) (show de 13 n l=([],decide (l.length=0)) from rfl) ⟨fun q=>by omega,fun q=>by omega⟩];simp +contextual only [ol.1,ol.2.1,al,g1,aw,↓af,an,simprocAttr];exact ⟨_,rfl,bB.nil _ _ _,ax⟩
 . rw [fY (q:=(l.length:Int)=0) (show de 11 n l=([],decide (l.length=0)) from rfl) ⟨fun q=>by omega,fun q=>by omega⟩];simp +contextual only [ol.1,ol.2.1,al,g1,aw,↓af,an,simprocAttr];exact ⟨_,rfl,bB.nil _ _ _,ax⟩
 . rw [fY (q:=(l.length:Int)=0) (show de 12 n l=([],decide (l.length=0)) from rfl) ⟨fun q=>by omega,fun q=>by omega⟩];simp +contextual only [ol.1,ol.2.1,al,g1,aw,↓af,an,simprocAttr];exact ⟨_,rfl,bB.nil _ _ _,ax⟩
 . rw [fY (q:=(l.length:Int)=0) (show de 14 n l=([],decide (l.length=0)) from rfl) ⟨fun q=>by omega,fun q=>by omega⟩];simp +contextual only [ol.1,ol.2.1,al,g1,aw,↓af,an,simprocAttr];exact ⟨_,rfl,bB.nil _ _ _,ax⟩
 . rw [fY (q:=(l.length:Int)=2) (show de 15 n l=(List.replicate (2:Int).toNat 2,decide (l.length=2)) from rfl) ⟨fun q=>by omega,fun q=>by omega⟩];simp +contextual only [ol.1,ol.2.1,al,g1,aw,↓af,an,simprocAttr];refine bF (iG 2 (2:Int) (by omega) aa) ?_;rintro y ae ⟨Y,aH⟩;simp +contextual only [↓af,an,simprocAttr];exact ⟨_,rfl,Y.g' (by rw [ap9];unfold top;omega),ax.trans aH⟩
 . rw [fY (q:=(l.length:Int)<=1) (show de 16 n l=(List.replicate (l.length:Int).toNat 2,decide (l.length<=1)) from rfl) ⟨fun q=>by omega,fun q=>by omega⟩];simp +contextual only [ol.1,ol.2.1,al,g1,aw,↓af,an,simprocAttr];refine bF (iG 2 (l.length:Int) (by omega) aa) ?_;rintro y ae ⟨Y,aH⟩;simp +contextual only [↓af,an,simprocAttr];exact ⟨_,rfl,Y.g' (by rw [ap9];unfold top;omega),ax.trans aH⟩
 . rw [fY (q:=(l.length:Int)=0) (show de 20 n l=([],decide (l.length=0)) from rfl) ⟨fun q=>by omega,fun q=>by omega⟩];simp +contextual only [ol.1,ol.2.1,al,g1,aw,↓af,an,simprocAttr];exact ⟨_,rfl,bB.nil _ _ _,ax⟩
 . rw [fY (q:=(l.length:Int)=0) (show de 21 n l=([],decide (l.length=0)) from rfl) ⟨fun q=>by omega,fun q=>by omega⟩];simp +contextual only [ol.1,ol.2.1,al,g1,aw,↓af,an,simprocAttr];exact ⟨_,rfl,bB.nil _ _ _,ax⟩
 . rw [fY (q:=(l.length:Int)=0) (show de 22 n l=([],decide (l.length=0)) from rfl) ⟨fun q=>by omega,fun q=>by omega⟩];simp +contextual only [ol.1,ol.2.1,al,g1,aw,↓af,an,simprocAttr];exact ⟨_,rfl,bB.nil _ _ _,ax⟩
 . rw [fY (q:=(l.length:Int)=0) (show de 23 n l=([],decide (l.length=0)) from rfl) ⟨fun q=>by omega,fun q=>by omega⟩];simp +contextual only [ol.1,ol.2.1,al,g1,aw,↓af,an,simprocAttr];exact ⟨_,rfl,bB.nil _ _ _,ax⟩
 . rw [fY (q:=(l.length:Int)=0) (show de 24 n l=([],decide (l.length=0)) from rfl) ⟨fun q=>by omega,fun q=>by omega⟩];simp +contextual only [ol.1,ol.2.1,al,g1,aw,↓af,an,simprocAttr];exact ⟨_,rfl,bB.nil _ _ _,ax⟩
 . rw [fY (q:=(l.length:Int)<=1) (show de 25 n l=(List.replicate (l.length:Int).toNat 3,decide (l.length<=1)) from rfl) ⟨fun q=>by omega,fun q=>by omega⟩];simp +contextual only [ol.1,ol.2.1,al,g1,aw,↓af,an,simprocAttr];refine bF (iG 3 (l.length:Int) (by omega) aa) ?_;rintro y ae ⟨Y,aH⟩;simp +contextual only [↓af,an,simprocAttr];exact ⟨_,rfl,Y.g' (by rw [ap9];unfold top;omega),ax.trans aH⟩
 . rw [fY (q:=(l.length:Int)=2) (show de 26 n l=(List.replicate (2:Int).toNat 3,decide (l.length=2)) from rfl) ⟨fun q=>by omega,fun q=>by omega⟩];simp +contextual only [ol.1,ol.2.1,al,g1,aw,↓af,an,simprocAttr];refine bF (iG 3 (2:Int) (by omega) aa) ?_;rintro y ae ⟨Y,aH⟩;simp +contextual only [↓af,an,simprocAttr];exact ⟨_,rfl,Y.g' (by rw [ap9];unfold top;omega),ax.trans aH⟩
 . rw [fY (q:=(l.length:Int)=2) (show de 28 n l=(List.replicate (2:Int).toNat 3,decide (l.length=2)) from rfl) ⟨fun q=>by omega,fun q=>by omega⟩];simp +contextual only [ol.1,ol.2.1,al,g1,aw,↓af,an,simprocAttr];refine bF (iG 3 (2:Int) (by omega) aa) ?_;rintro y ae ⟨Y,aH⟩;simp +contextual only [↓af,an,simprocAttr];exact ⟨_,rfl,Y.g' (by rw [ap9];unfold top;omega),ax.trans aH⟩
 . rw [fY (q:=(l.length:Int)=2) (show de 35 n l=(List.replicate (2:Int).toNat 3,decide (l.length=2)) from rfl) ⟨fun q=>by omega,fun q=>by omega⟩];simp +contextual only [ol.1,ol.2.1,al,g1,aw,↓af,an,simprocAttr];refine bF (iG 3 (2:Int) (by omega) aa) ?_;rintro y ae ⟨Y,aH⟩;simp +contextual only [↓af,an,simprocAttr];exact ⟨_,rfl,Y.g' (by rw [ap9];unfold top;omega),ax.trans aH⟩
 . rw [fY (q:=(l.length:Int)=2) (show de 37 n l=(List.replicate (2:Int).toNat 3,decide (l.length=2)) from rfl) ⟨fun q=>by omega,fun q=>by omega⟩];simp +contextual only [ol.1,ol.2.1,al,g1,aw,↓af,an,simprocAttr];refine bF (iG 3 (2:Int) (by omega) aa) ?_;rintro y ae ⟨Y,aH⟩;simp +contextual only [↓af,an,simprocAttr];exact ⟨_,rfl,Y.g' (by rw [ap9];unfold top;omega),ax.trans aH⟩
 . rw [fY (q:=(l.length:Int)=2) (show de 38 n l=(List.replicate (2:Int).toNat 3,decide (l.length=2)) from rfl) ⟨fun q=>by omega,fun q=>by omega⟩];simp +contextual only [ol.1,ol.2.1,al,g1,aw,↓af,an,simprocAttr];refine bF (iG 3 (2:Int) (by omega) aa) ?_;rintro y ae ⟨Y,aH⟩;simp +contextual only [↓af,an,simprocAttr];exact ⟨_,rfl,Y.g' (by rw [ap9];unfold top;omega),ax.trans aH⟩
 . rw [fY (q:=(l.length:Int)=1) (show de 34 n l=(List.replicate (1:Int).toNat 3,decide (l.length=1)) from rfl) ⟨fun q=>by omega,fun q=>by omega⟩];simp +contextual only [ol.1,ol.2.1,al,g1,aw,↓af,an,simprocAttr];refine bF (iG 3 (1:Int) (by omega) aa) ?_;rintro y ae ⟨Y,aH⟩;simp +contextual only [↓af,an,simprocAttr];exact ⟨_,rfl,Y.g' (by rw [ap9];unfold top;omega),ax.trans aH⟩
 . rw [fY (q:=(l.length:Int)=1) (show de 36 n l=(List.replicate (1:Int).toNat 3,decide (l.length=1)) from rfl) ⟨fun q=>by omega,fun q=>by omega⟩];simp +contextual only [ol.1,ol.2.1,al,g1,aw,↓af,an,simprocAttr];refine bF (iG 3 (1:Int) (by omega) aa) ?_;rintro y ae ⟨Y,aH⟩;simp +contextual only [↓af,an,simprocAttr];exact ⟨_,rfl,Y.g' (by rw [ap9];unfold top;omega),ax.trans aH⟩
 . rw [fY (q:=(l.length:Int)=1) (show de 39 n l=(List.replicate (1:Int).toNat 3,decide (l.length=1)) from rfl) ⟨fun q=>by omega,fun q=>by omega⟩];simp +contextual only [ol.1,ol.2.1,al,g1,aw,↓af,an,simprocAttr];refine bF (iG 3 (1:Int) (by omega) aa) ?_;rintro y ae ⟨Y,aH⟩;simp +contextual only [↓af,an,simprocAttr];exact ⟨_,rfl,Y.g' (by rw [ap9];unfold top;omega),ax.trans aH⟩
 . rw [fY (q:=(l.length:Int)=3) (show de 31 n l=(List.replicate (3:Int).toNat 3,decide (l.length=3)) from rfl) ⟨fun q=>by omega,fun q=>by omega⟩];simp +contextual only [ol.1,ol.2.1,al,g1,aw,↓af,an,simprocAttr];refine bF (iG 3 (3:Int) (by omega) aa) ?_;rintro y ae ⟨Y,aH⟩;simp +contextual only [↓af,an,simprocAttr];exact ⟨_,rfl,Y.g' (by rw [ap9];unfold top;omega),ax.trans aH⟩
 . rw [fY (q:=(l.length:Int)=2) (show de 27 n l=([2,3],decide (l.length=2)) from rfl) ⟨fun q=>by omega,fun q=>by omega⟩];obtain ⟨ae,au,aH,Y⟩:=r4 aa 1 2 [.int .i64 2,.int .i64 3] rfl (by unfold top;omega);simp +contextual only [ol.1,ol.2.1,al,au,g1,aw,↓af,an,simprocAttr];exact ⟨_,rfl,ec.g' (l:=[2,3]) Y (by simp [top]),ax.trans aH⟩
 . rw [fY (q:=(l.length:Int)=3) (show de 29 n l=([2,3,3],decide (l.length=3)) from rfl) ⟨fun q=>by omega,fun q=>by omega⟩];obtain ⟨ae,au,aH,Y⟩:=r4 aa 1 3 [.int .i64 2,.int .i64 3,.int .i64 3] rfl (by unfold top;omega);simp +contextual only [ol.1,ol.2.1,al,au,g1,aw,↓af,an,simprocAttr];exact ⟨_,rfl,ec.g' (l:=[2,3,3]) Y (by simp [top]),ax.trans aH⟩
 . rw [fY (q:=(l.length:Int)>=2) (show de 30 n l=(List.replicate (l.length-1) (5:Int)++[3],decide (2<=l.length)) from rfl) ⟨fun q=>by omega,fun q=>by omega⟩];have bT:IntKind.i64.wrap ((l.length:Int)-1)=(l.length:Int)-1:=wrap_i64 (by omega) (by omega);simp +contextual only [ol.1,ol.2.1,al,g1,aw,bT,↓af,an,simprocAttr];refine bF (iG 5 ((l.length:Int)-1) (by omega) aa) ?_;rintro y ae ⟨Y,aH⟩;rw [show ((l.length:Int)-1).toNat=l.length-1 from by omega] at Y;obtain ⟨w',aM,au,aJ,bE,c1,eh⟩:=AZ (cs:=[.int .i64 3]) (by omega) Y aH.next (by rw [ap9];unfold top;omega) rfl rfl
   simp +contextual only [au,↓af,an,simprocAttr];have Z:ec aa.next aM 1 w' (List.replicate (l.length-1) (5:Int)++[3]).length (my (List.replicate (l.length-1) (5:Int)++[3])):=by rw [aqi,KH];exact aJ
   exact ⟨_,rfl,Z.g' (by rw [aqi,ap9];simp only [ar8];unfold top;omega),(ax.trans aH).fp bE fun b ak=>aqK ax.next (Y.base ak)⟩
 . rw [fY (q:=(l.length:Int)>=2) (show de 32 n l=(3::List.replicate (l.length-1) (4:Int),decide (2<=l.length)) from rfl) ⟨fun q=>by omega,fun q=>by omega⟩];have bT:IntKind.i64.wrap ((l.length:Int)-1)=(l.length:Int)-1:=wrap_i64 (by omega) (by omega);obtain ⟨ae,au,aH,Y⟩:=r4 aa 1 1 [.int .i64 3] rfl (by unfold top;omega);simp +contextual only [ol.1,ol.2.1,al,au,g1,aw,bT,↓af,an,simprocAttr];refine bF (iG 4 ((l.length:Int)-1) (by omega) ae) ?_;rintro y aM ⟨Z,bA⟩;rw [show ((l.length:Int)-1).toNat=l.length-1 from by omega] at Z;obtain ⟨w',bw,cx,eE,i_,oV⟩:=ye (by omega) (Y.ext bA) Z.v (aqK aH.next bA.next) (by rw [ap9];unfold top;omega) (Gi _);simp +contextual only [cx,↓af,an,simprocAttr];have W:ec aa.next bw 1 w' (3::List.replicate (l.length-1) (4:Int)).length (my (3::List.replicate (l.length-1) (4:Int))):=by
    rw [aqb,asc];exact eE
   exact ⟨_,rfl,W.g' (by rw [aqb,ap9];unfold top;omega),((ax.trans aH).trans bA).fp i_ fun b ak=>aqK ax.next (Y.base ak)⟩
 . rw [fY (q:=(l.length:Int)>=2) (show de 33 n l=(3::List.replicate (l.length-1) (4:Int),decide (2<=l.length)) from rfl) ⟨fun q=>by omega,fun q=>by omega⟩];have bT:IntKind.i64.wrap ((l.length:Int)-1)=(l.length:Int)-1:=wrap_i64 (by omega) (by omega);obtain ⟨ae,au,aH,Y⟩:=r4 aa 1 1 [.int .i64 3] rfl (by unfold top;omega);simp +contextual only [ol.1,ol.2.1,al,au,g1,aw,bT,↓af,an,simprocAttr];refine bF (iG 4 ((l.length:Int)-1) (by omega) ae) ?_;rintro y aM ⟨Z,bA⟩;rw [show ((l.length:Int)-1).toNat=l.length-1 from by omega] at Z;obtain ⟨w',bw,cx,eE,i_,oV⟩:=ye (by omega) (Y.ext bA) Z.v (aqK aH.next bA.next) (by rw [ap9];unfold top;omega) (Gi _);simp +contextual only [cx,↓af,an,simprocAttr];have W:ec aa.next bw 1 w' (3::List.replicate (l.length-1) (4:Int)).length (my (3::List.replicate (l.length-1) (4:Int))):=by
    rw [aqb,asc];exact eE
   exact ⟨_,rfl,W.g' (by rw [aqb,ap9];unfold top;omega),((ax.trans aH).trans bA).fp i_ fun b ak=>aqK ax.next (Y.base ak)⟩
 . rw [fY (q:=(l.length:Int)=2) (show de 45 n l=([2,3],decide (l.length=2)) from rfl) ⟨fun q=>by omega,fun q=>by omega⟩];obtain ⟨ae,au,aH,Y⟩:=r4 aa 1 2 [.int .i64 2,.int .i64 3] rfl (by unfold top;omega);simp +contextual only [ol.1,ol.2.1,al,au,g1,aw,↓af,an,simprocAttr];exact ⟨_,rfl,ec.g' (l:=[2,3]) Y (by simp [top]),ax.trans aH⟩
 . by_cases Ja:l.length=1
   . obtain ⟨u,rfl⟩:∃u,l=[u]:=by
      match l,Ja with
      | [u],_=>exact ⟨u,rfl⟩
     rw [show de 46 n [u]=(List.replicate (1:Int).toNat 3,decide (u.k=27)) from by simp [de,I5]];obtain ⟨b,off,wl,bQ,X,eR,ld,eW,_,_⟩:=aE.lX Hz (k:=.i64) (i:=0) (by simp);have k':hG 5 cB (.int .i64 0)=some (.ptr b off):=by simpa using bQ
     have d0:∀ab,Ext aa ab->gX (ab.get b) off=some (.int .i64 u.k):=fun ab e=>by simpa using eW ab e
     have d1:=d0 aa (Ext.refl _);simp +contextual only [ol.1,ol.2.1,al,g1,aw,k',d1,aqb,aqN,↓af,an,simprocAttr];refine bF (iG 3 1 (by omega) aa) ?_;rintro y ae ⟨Y,aH⟩;have d2:=d0 ae aH;have g2:=(dG.ext aH).g;simp +contextual only [g1,g2,k',d1,d2,↓af,an,simprocAttr];exact ⟨_,rfl,Y.g' (by simp [top]),ax.trans aH⟩
   . rw [show de 46 n l=(List.replicate (1:Int).toNat 3,false) from by simp [de,Ja]];have f1:((l.length:Int)=1)=False:=ap_ (by omega);simp +contextual only [ol.1,ol.2.1,al,g1,aw,f1,↓af,an,simprocAttr];refine bF (iG 3 1 (by omega) aa) ?_;rintro y ae ⟨Y,aH⟩;have g2:=(dG.ext aH).g;simp +contextual only [g1,g2,f1,↓af,an,simprocAttr];exact ⟨_,rfl,Y.g' (by simp [top]),ax.trans aH⟩
 . rw [fY (q:=(l.length:Int)<=1) (show de 47 n l=(List.replicate (l.length:Int).toNat 1,decide (l.length<=1)) from rfl) ⟨fun q=>by omega,fun q=>by omega⟩];simp +contextual only [ol.1,ol.2.1,al,g1,aw,↓af,an,simprocAttr];refine bF (iG 1 (l.length:Int) (by omega) aa) ?_;rintro y ae ⟨Y,aH⟩;simp +contextual only [↓af,an,simprocAttr];exact ⟨_,rfl,Y.g' (by rw [ap9];unfold top;omega),ax.trans aH⟩
 . rw [fY (q:=(l.length:Int)<=1) (show de 51 n l=(List.replicate (l.length:Int).toNat 1,decide (l.length<=1)) from rfl) ⟨fun q=>by omega,fun q=>by omega⟩];simp +contextual only [ol.1,ol.2.1,al,g1,aw,↓af,an,simprocAttr];refine bF (iG 1 (l.length:Int) (by omega) aa) ?_;rintro y ae ⟨Y,aH⟩;simp +contextual only [↓af,an,simprocAttr];exact ⟨_,rfl,Y.g' (by rw [ap9];unfold top;omega),ax.trans aH⟩
 . rw [fY (q:=(l.length:Int)=2) (show de 52 n l=([2,3],decide (l.length=2)) from rfl) ⟨fun q=>by omega,fun q=>by omega⟩];obtain ⟨ae,au,aH,Y⟩:=r4 aa 1 2 [.int .i64 2,.int .i64 3] rfl (by unfold top;omega);simp +contextual only [ol.1,ol.2.1,al,au,g1,aw,↓af,an,simprocAttr];exact ⟨_,rfl,ec.g' (l:=[2,3]) Y (by simp [top]),ax.trans aH⟩
 . rw [fY (q:=(l.length:Int)>=1) (show de 53 n l=(List.replicate (l.length:Int).toNat 5,decide (1<=l.length)) from rfl) ⟨fun q=>by omega,fun q=>by omega⟩];simp +contextual only [ol.1,ol.2.1,al,g1,aw,↓af,an,simprocAttr];refine bF (iG 5 (l.length:Int) (by omega) aa) ?_;rintro y ae ⟨Y,aH⟩;simp +contextual only [↓af,an,simprocAttr];exact ⟨_,rfl,Y.g' (by rw [ap9];unfold top;omega),ax.trans aH⟩
 . have y1:0<=n/\n<=64/\n<l.length:=by simpa [hq,and_assoc] using aW
   obtain ⟨cg,dv,n3⟩:=y1;rw [show de 50 n l=(List.replicate n.toNat (8:Int)++List.replicate (l.length-n.toNat) (6:Int),true) from rfl];have bT:IntKind.i64.wrap ((l.length:Int)-n)=(l.length:Int)-n:=wrap_i64 (by omega) (by omega);simp +contextual only [ol.1,ol.2.1,al,g1,aw,bT,↓af,an,simprocAttr];refine bF (iG 8 n (by omega) aa) ?_;rintro y ae ⟨Y,aH⟩;have g2:=(dG.ext aH).g;simp +contextual only [g1,g2,aw,bT,↓af,an,simprocAttr];refine bF (iG 6 ((l.length:Int)-n) (by omega) ae) ?_;rintro z aM ⟨Z,bA⟩;have g3:=((dG.ext aH).ext bA).g;rw [show ((l.length:Int)-n).toNat=l.length-n.toNat from by omega] at Z;obtain ⟨w',bw,cx,eE,i_,oV⟩:=ye (by omega) (Y.ext bA) Z.v (aqK aH.next bA.next) (by rw [ap9,ap9];unfold top;omega) (Gi _);simp +contextual only [cx,g1,g2,g3,aw,bT,↓af,an,simprocAttr];have W:ec aa.next bw 1 w' (List.replicate n.toNat (8:Int)++List.replicate (l.length-n.toNat) (6:Int)).length (my (List.replicate n.toNat (8:Int)++List.replicate (l.length-n.toNat) (6:Int))):=by rw [aqi,KH];exact eE
   exact ⟨_,rfl,W.g' (by rw [aqi,ap9,ap9];unfold top;omega),((ax.trans aH).trans bA).fp i_ fun b ak=>aqK ax.next (Y.base ak)⟩
theorem alX {k n:Int} {l:List aE} (aA:fE k≠0) (aW:hq k n l.length=true) (h:(de k n l).2=true):(de k n l).1.length=l.length:=by
 rcases FQ aA with rfl | rfl | rfl | rfl | rfl | rfl | rfl | rfl | rfl | rfl | rfl | rfl | rfl | rfl | rfl | rfl | rfl | rfl | rfl | rfl | rfl | rfl | rfl | rfl | rfl | rfl | rfl | rfl | rfl | rfl | rfl | rfl | rfl | rfl | rfl | rfl | rfl | rfl<;>
 simp [de,hq] at h aW ⊢<;>first | omega | simp_all
theorem Ma (t:aE):t.j7 dm=(decide (fE t.k≠0)&&oZ dm t.k t.s&&hq t.k t.n t.l.length&&decide (0<=t.a)&&decide (t.a<=65536)&&(de t.k t.n t.l).2&&km dm (de t.k t.n t.l).1 t.l):=by cases t;rw [aE.j7];rfl
theorem L_:∀(N:Nat) (t:aE),t.size<=N->N<=1000000000->∀(ah:List V) (h:ag),cb Any h t.enc ah->cr Tryz.prog 40 [.agg ah] h fun x ab=>x=.bool (t.j7 dm)/\Ext h ab
 | 0,t,aO,_,_,_,_=>by have:=qV t;omega
 | N+1,t,aO,R9,ah,h,H=>by
   have xV:=H;obtain ⟨cB,rfl,L,_⟩:=aE.open H;have bI:N<=1000000000:=by omega
   have ol:=L.one;have aw:=L.len;have hle:=L.le;rw [ap6] at aw hle;have cu:=size_eq t;have du:=mG t.l;refine ZU.z rfl (cm ?_);unfold O0;obtain ⟨aa,al,ax,dG⟩:=gb h [.int .i64 t.k,.int .i64 t.n,.int .i64 t.a,.str t.s,cB];simp +contextual only [ol.1,ol.2.1,al,dG.g,↓af,an,simprocAttr];refine bF (VS t.k aa) ?_;rintro x ae ⟨rfl,rfl⟩;rw [Ma];by_cases aL:fE t.k=0
   . simp +contextual only [aqh aL,↓af,an,simprocAttr];exact ⟨by simp [aL],ax⟩
   have wq:=ap_ aL;simp +contextual only [wq,dG.g,↓af,an,simprocAttr];refine bF (ang t aL _ ae (xV.ext ax)) ?_;rintro x aM ⟨rfl,bA⟩;have iO:=dG.ext bA;cases bW:oZ dm t.k t.s with
   | false=>
     simp +contextual only [wq,iO.g,↓af,an,simprocAttr];exact ax.trans bA
   | true=>
   simp +contextual only [wq,iO.g,↓af,an,simprocAttr];refine bF (aj3 t aL _ aM (xV.ext (ax.trans bA))) ?_;rintro x bw ⟨rfl,b5⟩;have p1:=iO.ext b5;have mL:=(ax.trans bA).trans b5;cases b6:hq t.k t.n t.l.length with
   | false=>
     simp +contextual only [wq,p1.g,↓af,an,simprocAttr];exact mL
   | true=>
   by_cases c3:t.a<0
   . simp +contextual only [wq,p1.g,aqh c3,↓af,an,simprocAttr];exact ⟨by rw [aqJ (show ¬0<=t.a by omega)];simp,mL⟩
   by_cases fU:65536<t.a
   . simp +contextual only [wq,p1.g,ap_ c3,aqh fU,↓af,an,simprocAttr];exact ⟨by rw [aqJ (show ¬t.a<=65536 by omega)];simp,mL⟩
   simp +contextual only [wq,p1.g,ap_ c3,ap_ fU,↓af,an,simprocAttr];refine bF (adm t aL b6 (by omega) _ bw (xV.ext mL)) ?_;rintro x cw ⟨adp,rfl,Na,cW⟩;have Hd:=p1.ext cW;have o8:=mL.trans cW;rw [aqH (show fE t.k≠0 from aL),aqH (show 0<=t.a by omega),aqH (show t.a<=65536 by omega)];cases c5:(de t.k t.n t.l).2 with
   | false=>
     simp +contextual only [Hd.g,↓af,an,simprocAttr];exact o8
   | true=>
   have s3:=alX aL b6 c5;generalize (de t.k t.n t.l).1=gs at Na s3 ⊢;simp +contextual only [Hd.g,↓af,an,simprocAttr];refine ek (fun r g=>r 1=.ptr (aG h.next) 0/\r 3=adp/\∃i:Nat,r 5=.int .i64 i/\i<=t.l.length/\Ext cw g/\km dm gs t.l=km dm (gs.drop i) (t.l.drop i)) (fun r g=>t.l.length - (r 5).toN) ?_ ?_
   . exact ⟨by simp only [↓af,bq,simprocAttr],by simp only [↓af,bq,simprocAttr],0,by simp only [↓af,bq,simprocAttr]<;>rfl,by omega,Ext.refl cw,rfl⟩
   rintro r g ⟨a8,bP,i,bS,aB,E,bx⟩;unfold O1;have A:=Hd.ext E;have p5:=L.ext (o8.trans E);by_cases aN:i<t.l.length
   . have g0:((i:Int) < (t.l.length:Int))=True:=aqh (by omega);obtain ⟨b,off,wl,bQ,X,eR,ld,eW,_,_⟩:=aE.lX p5 (k:=.i64) aN;obtain ⟨b1,Lm,qJ,aiV⟩:=(Na.ext E).KG (k:=.i64) (i:=i) (by omega);have jg:=ld g (Ext.refl g);have d0:=eW g (Ext.refl g);have dg:=aiV g (Ext.refl g);have cv:=fk aN (by unfold top at hle;omega);have aeM:=vf (t:=t) (aqC aN);rw [aqz aN,aqz (show i<gs.length by omega),km] at bx;have fin:∀(aP:List iy) (R:bg),True:=fun _ _=>trivial;by_cases rq:gs[i]=8
     . have ez:pU t.l[i].k gs[i]=decide (t.l[i].k=1):=by unfold pU;rw [aqf rq]
       by_cases pg:t.l[i].k=1
       . simp +contextual only [a8,bP,bS,A.g,aw,g0,bQ,qJ,jg,d0,dg,aqh rq,aqh pg,↓af,an,simprocAttr];refine bF (L_ N t.l[i] (by omega) bI _ g X) ?_;rintro x g2 ⟨rfl,er⟩;rw [ez,aqH pg,aqY] at bx;cases Bc:t.l[i].j7 dm with
         | true=>
           rw [Bc,aqY] at bx;simp +contextual only [a8,bP,bS,cv,↓af,an,simprocAttr];exact ⟨⟨i+1,rfl,aN,E.trans er,bx⟩,by omega⟩
         | false=>
           rw [Bc,aqV] at bx;simp +contextual only [a8,bP,bS,cv,↓af,an,simprocAttr];exact ⟨by rw [bx],o8.trans (E.trans er)⟩
       . rw [ez,aqJ pg,aqV,aqV] at bx;simp +contextual only [a8,bP,bS,A.g,aw,g0,bQ,qJ,jg,d0,dg,aqh rq,ap_ pg,↓af,an,simprocAttr];exact ⟨by rw [bx],o8.trans E⟩
     . have ez:pU t.l[i].k gs[i]=decide (fE t.l[i].k=gs[i]):=by unfold pU;rw [aqa rq]
       simp +contextual only [a8,bP,bS,A.g,aw,g0,bQ,qJ,jg,d0,dg,ap_ rq,↓af,an,simprocAttr];refine bF (VS t.l[i].k g) ?_;rintro x g2 ⟨rfl,rfl⟩;by_cases pg:fE t.l[i].k=gs[i]
       . simp +contextual only [a8,bP,bS,A.g,aw,g0,bQ,qJ,jg,d0,dg,ap_ rq,aqh pg,↓af,an,simprocAttr];refine bF (L_ N t.l[i] (by omega) bI _ g2 X) ?_;rintro x g3 ⟨rfl,er⟩;rw [ez,aqH pg,aqY] at bx;cases Bc:t.l[i].j7 dm with
         | true=>
           rw [Bc,aqY] at bx;simp +contextual only [a8,bP,bS,cv,↓af,an,simprocAttr];exact ⟨⟨i+1,rfl,aN,E.trans er,bx⟩,by omega⟩
         | false=>
           rw [Bc,aqV] at bx;simp +contextual only [a8,bP,bS,cv,↓af,an,simprocAttr];exact ⟨by rw [bx],o8.trans (E.trans er)⟩
       . rw [ez,aqJ pg,aqV,aqV] at bx;simp +contextual only [a8,bP,bS,A.g,aw,g0,bQ,qJ,jg,d0,dg,ap_ rq,ap_ pg,↓af,an,simprocAttr];exact ⟨by rw [bx],o8.trans E⟩
   . have g0:((i:Int) < (t.l.length:Int))=False:=ap_ (by omega);rw [aqR (show t.l.length<=i by omega),km] at bx;simp +contextual only [a8,bP,bS,A.g,aw,g0,↓af,an,simprocAttr];exact ⟨by rw [bx],o8.trans E⟩
end
end Go.Proofs.YtgmhjhgoamjeeaaGreatDoor
