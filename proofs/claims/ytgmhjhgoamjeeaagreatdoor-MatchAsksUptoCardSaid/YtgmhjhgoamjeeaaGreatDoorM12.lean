/- The chapter's functions, walked by the abstract machine: plain lemmas, no condition. Printed by a program from longer texts: names made short. -/
import Derived.Test.YtgmhjhgoamjeeaaGreatDoorM10
import Derived.Test.YtgmhjhgoamjeeaaGreatDoorM11
set_option linter.unusedSectionVars false
set_option linter.unusedSimpArgs false
set_option linter.unusedVariables false
set_option maxHeartbeats 64000000
noncomputable section
namespace Go.Proofs.YtgmhjhgoamjeeaaGreatDoor
section
open Go aZ
theorem aM.ki [Lay] {F:aO->Prop} {h:ae} {l:List aM} {v:V} (H:bN F h 5 (l.map aM.enc) v) {k:IntKind} {i:Nat} (ax:i<l.length):
 ∃b off ca,f' 5 v (.int k i)=some (.ptr b (off+i * 5))/\b6 F h l[i].enc [.int .i64 l[i].k,.int .i64 l[i].n,.int .i64 l[i].a,.str l[i].s,ca]/\bN F h 5 (l[i].l.map aM.enc) ca/\
  (∀aa,Ext h aa->lX 5 (aa.get b) (off+i * 5)=some (.agg [.int .i64 l[i].k,.int .i64 l[i].n,.int .i64 l[i].a,.str l[i].s,ca]))/\
  (∀aa,Ext h aa->fy (aa.get b) (off+i * 5)=some (.int .i64 l[i].k))/\(∀aa,Ext h aa->fy (aa.get b) (off+i * 5+3)=some (.str l[i].s))/\(∀aa,Ext h aa->fy (aa.get b) (off+i * 5+4)=some ca):=by
 obtain ⟨b,off,u,av,aK,bF,bZ,df⟩:=H.at (k:=k) (i:=i) (by rw [apv];exact ax);rw [aqZ] at aK;obtain ⟨ca,rfl,L,_⟩:=aM.open aK;exact ⟨b,off,ca,av,aK,L,bZ,fun aa e=>by simpa using df aa e 0 (by omega),fun aa e=>by simpa using df aa e 3 (by omega),fun aa e=>by simpa using df aa e 4 (by omega)⟩
theorem akG {l:List aM} {i:Nat} (ax:i<l.length):cj l[i].l<cj l:=by have U:=rM (apV ax);have ab:=size_eq l[i];omega
theorem Uj:∀(N:Nat) (l:List aM),cj l<N->∀(m:Int) (v:V) (h:ae),bN Any h 5 (l.map aM.enc) v->cv Tryz.prog 60 [v,.int .i64 m] h fun x aa=>(∃n,x=.int .i64 n)/\aa=h
 | 0,l,aW,_,_,_,_=>by omega
 | N+1,l,aW,m,v,h,L=>by
   have ar:=L.len;have hle:=L.le;rw [apv] at ar hle;refine Zl.z rfl (cr ?_);unfold OI;simp +contextual only [↓ag,al,simprocAttr];refine eO (fun r g=>r 0=v/\r 1=.int .i64 m/\g=h/\∃(i:Nat) (n:Int),r 5=.int .i64 n/\r 6=.int .i64 i/\i<=l.length) (fun r g=>l.length - (r 6).toN) ?_ ?_
   . exact ⟨by simp only [↓ag,bz,simprocAttr],by simp only [↓ag,bz,simprocAttr],rfl,0,0,by simp only [↓ag,bz,simprocAttr],by simp only [↓ag,bz,simprocAttr]<;>rfl,by omega⟩
   rintro r g ⟨a1,a',rfl,i,n,bL,dI,ax⟩;unfold OJ;by_cases aL:i<l.length
   . have g0:((i:Int) < (l.length:Int))=True:=apD (by omega);by_cases aV:n<=m
     . have rr:=apD aV;obtain ⟨b,off,wl,bW,X,dK,ld,jg,pb,uI⟩:=aM.ki L (k:=.i64) aL;have d3:=pb g (Ext.refl g);have d4:=uI g (Ext.refl g);have db:=fW aL (by unfold top at hle;omega);have d':l[i].s.length<=top:=by obtain ⟨_,_,_,q⟩:=aM.open X;exact q
       have akR:=akS (P:=Tryz.prog) (n:=l[i].s.length) (by unfold top at d';omega);simp +contextual only [a1,a',bL,dI,ar,g0,rr,bW,d3,d4,akR,↓ag,al,simprocAttr];refine bS (Uj N l[i].l (by have:=akG aL;omega) _ wl g dK) ?_;rintro x g2 ⟨⟨y,rfl⟩,rfl⟩;simp +contextual only [a1,a',bL,dI,db,↓ag,al,simprocAttr];exact ⟨⟨i+1,_,rfl,rfl,aL⟩,by omega⟩
     . have rr:=apx aV;simp +contextual only [a1,a',bL,dI,ar,g0,rr,↓ag,al,simprocAttr];exact ⟨_,rfl⟩
   . have g0:((i:Int) < (l.length:Int))=False:=apx (by omega);simp +contextual only [a1,a',bL,dI,ar,g0,↓ag,al,simprocAttr];exact ⟨_,rfl⟩
theorem ahV (l:List aM) (m:Int) (v:V) (h:ae) (L:bN Any h 5 (l.map aM.enc) v):cv Tryz.prog 32 [v,.int .i64 m] h fun x aa=>(∃b,x=.bool b)/\aa=h:=by refine Y8.z rfl (cr ?_);unfold Og;simp +contextual only [↓ag,al,simprocAttr];refine bS (Uj _ l (Nat.lt_succ_self _) m v h L) ?_;rintro x g2 ⟨⟨y,rfl⟩,rfl⟩;simp +contextual only [↓ag,al,simprocAttr];exact ⟨_,rfl⟩
theorem VC (k n a:Int) (t z:List UInt8) (h:ae) (aE:t.length<=100000):cv Tryz.prog 108 [.agg [.int .i64 k,.int .i64 n,.int .i64 a,.str t],.str z] h fun x aa=>x=.bool (decide (z=(if k=5 then 39::t else t)))/\Ext h aa:=by
 refine YH.z rfl (cr ?_);unfold NM;obtain ⟨U,aj,av,b9⟩:=fE h [.int .i64 k,.int .i64 n,.int .i64 a,.str t];by_cases aA:k=5
 . have ar:(1+t.length<=17179869184)=True:=apD (by omega);simp +contextual only [aj,b9.g,apD aA,ar,ap0,ap3,aql,↓ag,al,simprocAttr];exact av
 . simp +contextual only [aj,b9.g,apx aA,ap2,↓ag,al,simprocAttr];exact av
theorem Tc:∀(f:Nat) (r:List UInt8) (p:Nat) (ws:List cc),nk f r p=.ok ws->∀w ∈ ws,w.kind=3\/w.kind=4\/w.kind=5->w.text.length<=64:=fun f r p ws h w hw aA=>by obtain ⟨_,g,_⟩:=KO (BS f r p ws h w hw aA);exact g
theorem Mi (k:Int) (aA:k=3\/k=4\/k=5) (s:List UInt8) (h:ae):cv Tryz.prog 104 [.int .i64 k,.str s] h fun x aa=>x=.bool (dh k s)/\Ext h aa:=by
 rw [<-ank aA];refine YE.z rfl (cr ?_);unfold NI;by_cases IQ:(64:Int) < (s.length:Int)
 . have hw:tw k s=false:=by unfold tw;rw [ap_ (show ¬s.length<=64 by omega)];simp
   simp +contextual only [apD IQ,hw,↓ag,al,simprocAttr];exact Ext.refl _
 by_cases sP:s=[]
 . have hw:tw k s=false:=by unfold tw;rw [sP];simp
   simp +contextual only [apx IQ,apD sP,hw,↓ag,al,simprocAttr];exact Ext.refl _
 have f64:=apx IQ;have QJ:=apx sP
 have hw:tw k s=(match lu (if k=5 then 39::s else s) with
  | .ok [w]=>decide (w.kind=k)&&decide (w.pos=0)&&decide (w.text≠[])&&decide ((if k=5 then 39::s else s)=(if w.kind=5 then 39::w.text else w.text))
  | _=>false):=by
  unfold tw;rw [ap7 (show s.length<=64 by omega),ap7 sP];rfl
 rw [hw];clear hw;have ad6:(1+s.length<=17179869184)=True:=apD (by omega);generalize bm:(if k=5 then 39::s else s)=z;have cF:(k=5/\z=39::s)\/(¬k=5/\z=s):=by
  by_cases cF:k=5
  . exact .inl ⟨cF,by rw [<-bm,apB cF]⟩
  . exact .inr ⟨cF,by rw [<-bm,apu cF]⟩
 clear bm;rcases cF with ⟨cF,bm⟩ | ⟨cF,bm⟩
 . simp +contextual only [f64,QJ,apD cF,ad6,ap3,aql,↓ag,al,simprocAttr];rw [<-bm];clear bm;refine bS (Te z h) ?_;rintro x U ⟨av,ao⟩;cases cX:lu z with
   | error e=>
     rw [cX] at ao;simp only at ao;subst ao;obtain ⟨ab,an,aK,dz⟩:=hA U [.int .i64 0,.int .i64 0] [.int .i64 e.1,.int .i64 e.2];by_cases he:e.1=0
     . simp +contextual only [an,dz.g,apD he,↓ag,al,simprocAttr];exact av.trans aK
     . simp +contextual only [an,dz.g,apx he,↓ag,al,simprocAttr];exact av.trans aK
   | ok ws=>
     rw [cX] at ao;simp only at ao;obtain ⟨v,rfl,S⟩:=ao;obtain ⟨ab,an,aK,dz⟩:=hA U [.int .i64 0,.int .i64 0] [.int .i64 0,.int .i64 0];have eI:=(S.ext aK).v;have ar:=eI.len;have cy:=eI.one
     match ws,cX,eI,ar with
     | [],_,eI,ar=>
       have fx:hK v=some (.int .i64 0):=ar;simp +contextual only [an,dz.g,fx,cy.1,cy.2.1,↓ag,al,simprocAttr];exact av.trans aK
     | [w],cX,eI,ar=>
       have fx:hK v=some (.int .i64 1):=ar;obtain ⟨bR,c8,wM,mS⟩:=eI.bW (k:=.i64) (i:=0) (by simp);have sT:f' 4 v (.int .i64 0)=some (.ptr bR c8):=by simpa using wM
       have d0:fy (ab.get bR) c8=some (.int .i64 w.kind):=by have:=mS.dS (i:=0) (by simp [iX,cc.enc]);simpa [iX,cc.enc] using this
       have d2:fy (ab.get bR) (c8+2)=some (.int .i64 w.pos):=by have:=mS.dS (i:=2) (by simp [iX,cc.enc]);simpa [iX,cc.enc] using this
       have d3:fy (ab.get bR) (c8+3)=some (.str w.text):=by have:=mS.dS (i:=3) (by simp [iX,cc.enc]);simpa [iX,cc.enc] using this
       have iK:lX 4 (ab.get bR) c8=some (.agg [.int .i64 w.kind,.int .i64 w.num,.int .i64 w.pos,.str w.text]):=by have:=mS.hJ (i:=0) (n:=4) (by simp [iX,cc.enc]);simpa [iX,cc.enc] using this
       by_cases bQ:w.kind=k
       . by_cases b2:(w.pos:Int)=0
         . by_cases c3:w.text=[]
           . have pI:((0:Int) < (w.text.length:Int))=False:=by rw [c3];simp
             simp +contextual only [an,dz.g,fx,cy.1,cy.2.1,sT,d0,d2,d3,iK,apD bQ,apD b2,pI,↓ag,al,simprocAttr];exact ⟨by rw [c3];simp,av.trans aK⟩
           . have pI:((0:Int) < (w.text.length:Int))=True:=apD (by have:=List.length_pos_iff.2 c3;omega);have aE:w.text.length<=64:=by
              have hm:w.kind=3\/w.kind=4\/w.kind=5:=by rw [bQ];exact aA
              unfold lu at cX
              split at cX
              . cases cX
              . split at cX
                . cases cX
                . exact Tc _ _ _ _ cX w (by simp) hm
             simp +contextual only [an,dz.g,fx,cy.1,cy.2.1,sT,d0,d2,d3,iK,apD bQ,apD b2,pI,↓ag,al,simprocAttr];refine bS (VC _ _ _ w.text z ab (by omega)) ?_;rintro x aI ⟨rfl,bF⟩;simp +contextual only [↓ag,al,simprocAttr];refine ⟨?_,(av.trans aK).trans bF⟩;have HS:w.pos=0:=by omega
             simp [bQ,HS,c3]
         . simp +contextual only [an,dz.g,fx,cy.1,cy.2.1,sT,d0,d2,d3,iK,apD bQ,apx b2,↓ag,al,simprocAttr]
           exact ⟨by have:¬w.pos=0:=by omega
                     simp [this],av.trans aK⟩
       . simp +contextual only [an,dz.g,fx,cy.1,cy.2.1,sT,d0,d2,d3,iK,apx bQ,↓ag,al,simprocAttr]
         first | exact av.trans aK | exact ⟨by simp [bQ],av.trans aK⟩
     | w::bH::ws,_,eI,ar=>
       have fx:(((ws.length+2:Nat):Int)=1)=False:=apx (by omega);have Jw:hK v=some (.int .i64 ((ws.length+2:Nat):Int)):=ar;simp +contextual only [an,dz.g,Jw,fx,cy.1,cy.2.1,↓ag,al,simprocAttr];exact av.trans aK
 . simp +contextual only [f64,QJ,apx cF,↓ag,al,simprocAttr];rw [<-bm];clear bm;refine bS (Te z h) ?_;rintro x U ⟨av,ao⟩;cases cX:lu z with
   | error e=>
     rw [cX] at ao;simp only at ao;subst ao;obtain ⟨ab,an,aK,dz⟩:=hA U [.int .i64 0,.int .i64 0] [.int .i64 e.1,.int .i64 e.2];by_cases he:e.1=0
     . simp +contextual only [an,dz.g,apD he,↓ag,al,simprocAttr];exact av.trans aK
     . simp +contextual only [an,dz.g,apx he,↓ag,al,simprocAttr];exact av.trans aK
   | ok ws=>
     rw [cX] at ao;simp only at ao;obtain ⟨v,rfl,S⟩:=ao;obtain ⟨ab,an,aK,dz⟩:=hA U [.int .i64 0,.int .i64 0] [.int .i64 0,.int .i64 0];have eI:=(S.ext aK).v;have ar:=eI.len;have cy:=eI.one
     match ws,cX,eI,ar with
     | [],_,eI,ar=>
       have fx:hK v=some (.int .i64 0):=ar;simp +contextual only [an,dz.g,fx,cy.1,cy.2.1,↓ag,al,simprocAttr];exact av.trans aK
     | [w],cX,eI,ar=>
       have fx:hK v=some (.int .i64 1):=ar;obtain ⟨bR,c8,wM,mS⟩:=eI.bW (k:=.i64) (i:=0) (by simp);have sT:f' 4 v (.int .i64 0)=some (.ptr bR c8):=by simpa using wM
       have d0:fy (ab.get bR) c8=some (.int .i64 w.kind):=by have:=mS.dS (i:=0) (by simp [iX,cc.enc]);simpa [iX,cc.enc] using this
       have d2:fy (ab.get bR) (c8+2)=some (.int .i64 w.pos):=by have:=mS.dS (i:=2) (by simp [iX,cc.enc]);simpa [iX,cc.enc] using this
       have d3:fy (ab.get bR) (c8+3)=some (.str w.text):=by have:=mS.dS (i:=3) (by simp [iX,cc.enc]);simpa [iX,cc.enc] using this
       have iK:lX 4 (ab.get bR) c8=some (.agg [.int .i64 w.kind,.int .i64 w.num,.int .i64 w.pos,.str w.text]):=by have:=mS.hJ (i:=0) (n:=4) (by simp [iX,cc.enc]);simpa [iX,cc.enc] using this
       by_cases bQ:w.kind=k
       . by_cases b2:(w.pos:Int)=0
         . by_cases c3:w.text=[]
           . have pI:((0:Int) < (w.text.length:Int))=False:=by rw [c3];simp
             simp +contextual only [an,dz.g,fx,cy.1,cy.2.1,sT,d0,d2,d3,iK,apD bQ,apD b2,pI,↓ag,al,simprocAttr];exact ⟨by rw [c3];simp,av.trans aK⟩
           . have pI:((0:Int) < (w.text.length:Int))=True:=apD (by have:=List.length_pos_iff.2 c3;omega);have aE:w.text.length<=64:=by
              have hm:w.kind=3\/w.kind=4\/w.kind=5:=by rw [bQ];exact aA
              unfold lu at cX
              split at cX
              . cases cX
              . split at cX
                . cases cX
                . exact Tc _ _ _ _ cX w (by simp) hm
             simp +contextual only [an,dz.g,fx,cy.1,cy.2.1,sT,d0,d2,d3,iK,apD bQ,apD b2,pI,↓ag,al,simprocAttr];refine bS (VC _ _ _ w.text z ab (by omega)) ?_;rintro x aI ⟨rfl,bF⟩;simp +contextual only [↓ag,al,simprocAttr];refine ⟨?_,(av.trans aK).trans bF⟩;have HS:w.pos=0:=by omega
             simp [bQ,HS,c3]
         . simp +contextual only [an,dz.g,fx,cy.1,cy.2.1,sT,d0,d2,d3,iK,apD bQ,apx b2,↓ag,al,simprocAttr]
           exact ⟨by have:¬w.pos=0:=by omega
                     simp [this],av.trans aK⟩
       . simp +contextual only [an,dz.g,fx,cy.1,cy.2.1,sT,d0,d2,d3,iK,apx bQ,↓ag,al,simprocAttr]
         first | exact av.trans aK | exact ⟨by simp [bQ],av.trans aK⟩
     | w::bH::ws,_,eI,ar=>
       have fx:(((ws.length+2:Nat):Int)=1)=False:=apx (by omega);have Jw:hK v=some (.int .i64 ((ws.length+2:Nat):Int)):=ar;simp +contextual only [an,dz.g,Jw,fx,cy.1,cy.2.1,↓ag,al,simprocAttr];exact av.trans aK
theorem E9 {k:Int} (h:fG k≠0):k=1\/k=2\/k=3\/k=4\/k=10\/k=13\/k=11\/k=12\/k=14\/k=15\/k=16\/k=20\/k=21\/k=22\/k=23\/k=24\/k=25\/k=26\/k=28\/k=35\/k=37\/k=38\/k=34\/k=36\/k=39\/k=31\/k=27\/k=29\/k=30\/k=32\/k=33\/k=45\/k=46\/k=47\/k=51\/k=52\/k=53\/k=50:=by
 cases aD:pq k with
 | none=>exact absurd (Ve aD) h
 | some r=>
   have hm:=F_ (l:=tj) aD;simp only [tj,apI,aqw,List.not_mem_nil,or_false] at hm;omega
theorem aj9 (h:ae):cv Tryz.prog 99 [] h fun x aa=>x=.slice (aC h.next) 0 8 8/\aa=h.new (.bT (qG opsL) 0 false):=by refine ZO.z rfl (cr ?_);unfold Ps;simp +contextual only [↓ag,al,simprocAttr];rfl
theorem amB (t:aM) (aA:fG t.k≠0) (af:List V) (h:ae) (H:b6 Any h t.enc af):cv Tryz.prog 67 [.agg af] h fun x aa=>x=.bool (qB dh t.k t.s)/\Ext h aa:=by
 obtain ⟨ca,rfl,L,aW⟩:=aM.open H;have ol:=L.one;obtain ⟨k,n,a,s,l⟩:=t;simp only [aM.k,aM.n,aM.a,aM.s,aM.l] at *;refine Zt.z rfl (cr ?_);unfold OW;obtain ⟨U,aj,av,b9⟩:=fE h [.int .i64 k,.int .i64 n,.int .i64 a,.str s,ca];have g1:=b9.g;clear L H;rcases E9 aA with rfl | rfl | rfl | rfl | rfl | rfl | rfl | rfl | rfl | rfl | rfl | rfl | rfl | rfl | rfl | rfl | rfl | rfl | rfl | rfl | rfl | rfl | rfl | rfl | rfl | rfl | rfl | rfl | rfl | rfl | rfl | rfl | rfl | rfl | rfl | rfl | rfl | rfl
 . simp +contextual only [ol.1,ol.2.1,aj,g1,↓ag,al,simprocAttr];refine bS (qz 5 s aW (by simp) U) ?_;rintro x ab ⟨rfl,aK⟩;simp +contextual only [↓ag,al,simprocAttr];exact ⟨by rfl,av.trans aK⟩
 . simp +contextual only [ol.1,ol.2.1,aj,g1,↓ag,al,simprocAttr];refine bS (qz 3 s aW (by simp) U) ?_;rintro x ab ⟨rfl,aK⟩;simp +contextual only [↓ag,al,simprocAttr];exact ⟨by rfl,av.trans aK⟩
 . simp +contextual only [ol.1,ol.2.1,aj,g1,↓ag,al,simprocAttr];exact ⟨by rfl,av⟩
 . simp +contextual only [ol.1,ol.2.1,aj,g1,↓ag,al,simprocAttr];exact ⟨by rfl,av⟩
 . simp +contextual only [ol.1,ol.2.1,aj,g1,↓ag,al,simprocAttr];exact ⟨by rfl,av⟩
 . simp +contextual only [ol.1,ol.2.1,aj,g1,↓ag,al,simprocAttr];exact ⟨by rfl,av⟩
 . simp +contextual only [ol.1,ol.2.1,aj,g1,↓ag,al,simprocAttr];refine bS (qz 3 s aW (by simp) U) ?_;rintro x ab ⟨rfl,aK⟩;simp +contextual only [↓ag,al,simprocAttr];exact ⟨by rfl,av.trans aK⟩
 . simp +contextual only [ol.1,ol.2.1,aj,g1,↓ag,al,simprocAttr];exact ⟨by rfl,av⟩
 . simp +contextual only [ol.1,ol.2.1,aj,g1,↓ag,al,simprocAttr];exact ⟨by rfl,av⟩
 . simp +contextual only [ol.1,ol.2.1,aj,g1,↓ag,al,simprocAttr];exact ⟨by rfl,av⟩
 . simp +contextual only [ol.1,ol.2.1,aj,g1,↓ag,al,simprocAttr];refine bS (qz 4 s aW (by simp) U) ?_;rintro x ab ⟨rfl,aK⟩;simp +contextual only [↓ag,al,simprocAttr];exact ⟨by rfl,av.trans aK⟩
 . simp +contextual only [ol.1,ol.2.1,aj,g1,↓ag,al,simprocAttr];exact ⟨by rfl,av⟩
 . simp +contextual only [ol.1,ol.2.1,aj,g1,↓ag,al,simprocAttr];have a7:qB dh 21 s=decide ((s.length:Int)<=4096):=by
    show decide (s.length<=4096)=_;exact decide_eq_decide.2 ⟨fun q=>by omega,fun q=>by omega⟩
   exact ⟨by rw [a7],av⟩
 . simp +contextual only [ol.1,ol.2.1,aj,g1,↓ag,al,simprocAttr];exact ⟨by rfl,av⟩
 . simp +contextual only [ol.1,ol.2.1,aj,g1,↓ag,al,simprocAttr];exact ⟨by rfl,av⟩
 . simp +contextual only [ol.1,ol.2.1,aj,g1,↓ag,al,simprocAttr];refine bS (qz 3 s aW (by simp) U) ?_;rintro x ab ⟨rfl,aK⟩;simp +contextual only [↓ag,al,simprocAttr];exact ⟨by rfl,av.trans aK⟩
 . simp +contextual only [ol.1,ol.2.1,aj,g1,↓ag,al,simprocAttr];refine bS (qz 4 s aW (by simp) U) ?_;rintro x ab ⟨rfl,aK⟩;simp +contextual only [↓ag,al,simprocAttr];exact ⟨by rfl,av.trans aK⟩
 . simp +contextual only [ol.1,ol.2.1,aj,g1,↓ag,al,simprocAttr];exact ⟨by rfl,av⟩
 . simp +contextual only [ol.1,ol.2.1,aj,g1,↓ag,al,simprocAttr];exact ⟨by rfl,av⟩
 . simp +contextual only [ol.1,ol.2.1,aj,g1,↓ag,al,simprocAttr];exact ⟨by rfl,av⟩
 . simp +contextual only [ol.1,ol.2.1,aj,g1,↓ag,al,simprocAttr];exact ⟨by rfl,av⟩
 . simp +contextual only [ol.1,ol.2.1,aj,g1,↓ag,al,simprocAttr];refine bS (aj9 U) ?_;rintro x ab ⟨rfl,rfl⟩;have aK:Ext U (U.new (.bT (qG opsL) 0 false)):=(Ext.refl U).new _;have g2:=(b9.ext aK).g;simp +contextual only [g1,g2,↓ag,al,simprocAttr];refine fZ (Kg s opsL _ 8 _ (by decide) (by rw [nU])) ?_;simp +contextual only [g1,g2,↓ag,al,simprocAttr];exact ⟨by rfl,av.trans aK⟩
 . simp +contextual only [ol.1,ol.2.1,aj,g1,↓ag,al,simprocAttr];exact ⟨by rfl,av⟩
 . simp +contextual only [ol.1,ol.2.1,aj,g1,↓ag,al,simprocAttr];exact ⟨by rfl,av⟩
 . simp +contextual only [ol.1,ol.2.1,aj,g1,↓ag,al,simprocAttr];exact ⟨by rfl,av⟩
 . simp +contextual only [ol.1,ol.2.1,aj,g1,↓ag,al,simprocAttr];exact ⟨by rfl,av⟩
 . simp +contextual only [ol.1,ol.2.1,aj,g1,↓ag,al,simprocAttr];exact ⟨by rfl,av⟩
 . simp +contextual only [ol.1,ol.2.1,aj,g1,↓ag,al,simprocAttr];exact ⟨by rfl,av⟩
 . simp +contextual only [ol.1,ol.2.1,aj,g1,↓ag,al,simprocAttr];exact ⟨by rfl,av⟩
 . simp +contextual only [ol.1,ol.2.1,aj,g1,↓ag,al,simprocAttr];exact ⟨by rfl,av⟩
 . simp +contextual only [ol.1,ol.2.1,aj,g1,↓ag,al,simprocAttr];exact ⟨by rfl,av⟩
 . simp +contextual only [ol.1,ol.2.1,aj,g1,↓ag,al,simprocAttr];exact ⟨by rfl,av⟩
 . simp +contextual only [ol.1,ol.2.1,aj,g1,↓ag,al,simprocAttr];refine bS (qz 3 s aW (by simp) U) ?_;rintro x ab ⟨rfl,aK⟩;simp +contextual only [↓ag,al,simprocAttr];exact ⟨by rfl,av.trans aK⟩
 . simp +contextual only [ol.1,ol.2.1,aj,g1,↓ag,al,simprocAttr];refine bS (qz 4 s aW (by simp) U) ?_;rintro x ab ⟨rfl,aK⟩;simp +contextual only [↓ag,al,simprocAttr];exact ⟨by rfl,av.trans aK⟩
 . simp +contextual only [ol.1,ol.2.1,aj,g1,↓ag,al,simprocAttr];refine bS (qz 4 s aW (by simp) U) ?_;rintro x ab ⟨rfl,aK⟩;simp +contextual only [↓ag,al,simprocAttr];exact ⟨by rfl,av.trans aK⟩
 . simp +contextual only [ol.1,ol.2.1,aj,g1,↓ag,al,simprocAttr];exact ⟨by rfl,av⟩
 . simp +contextual only [ol.1,ol.2.1,aj,g1,↓ag,al,simprocAttr];exact ⟨by rfl,av⟩
 . simp +contextual only [ol.1,ol.2.1,aj,g1,↓ag,al,simprocAttr];refine bS (qz 3 s aW (by simp) U) ?_;rintro x ab ⟨rfl,aK⟩;simp +contextual only [↓ag,al,simprocAttr];exact ⟨by rfl,av.trans aK⟩
theorem ajp (t:aM) (aA:fG t.k≠0) (af:List V) (h:ae) (H:b6 Any h t.enc af):cv Tryz.prog 68 [.agg af] h fun x aa=>x=.bool (hv t.k t.n t.l.length)/\Ext h aa:=by
 obtain ⟨ca,rfl,L,aW⟩:=aM.open H;have ol:=L.one;have ar:=L.len;rw [List.length_map] at ar;obtain ⟨k,n,a,s,l⟩:=t;simp only [aM.k,aM.n,aM.a,aM.s,aM.l] at *;refine Zu.z rfl (cr ?_);unfold OX;obtain ⟨U,aj,av,b9⟩:=fE h [.int .i64 k,.int .i64 n,.int .i64 a,.str s,ca];have g1:=b9.g;clear L H;rcases E9 aA with rfl | rfl | rfl | rfl | rfl | rfl | rfl | rfl | rfl | rfl | rfl | rfl | rfl | rfl | rfl | rfl | rfl | rfl | rfl | rfl | rfl | rfl | rfl | rfl | rfl | rfl | rfl | rfl | rfl | rfl | rfl | rfl | rfl | rfl | rfl | rfl | rfl | rfl
 . simp +contextual only [ol.1,ol.2.1,aj,g1,↓ag,al,simprocAttr];exact ⟨by rfl,av⟩
 . simp +contextual only [ol.1,ol.2.1,aj,g1,↓ag,al,simprocAttr];exact ⟨by rfl,av⟩
 . simp +contextual only [ol.1,ol.2.1,aj,g1,↓ag,al,simprocAttr];exact ⟨by rfl,av⟩
 . simp +contextual only [ol.1,ol.2.1,aj,g1,↓ag,al,simprocAttr];exact ⟨by rfl,av⟩
 . simp +contextual only [ol.1,ol.2.1,aj,g1,↓ag,al,simprocAttr];exact ⟨by rfl,av⟩
 . simp +contextual only [ol.1,ol.2.1,aj,g1,↓ag,al,simprocAttr];exact ⟨by rfl,av⟩
 . simp +contextual only [ol.1,ol.2.1,aj,g1,↓ag,al,simprocAttr];exact ⟨by rfl,av⟩
 . by_cases bR:-1073741824<=n
   . simp +contextual only [ol.1,ol.2.1,aj,g1,x' bR,↓ag,al,simprocAttr];exact ⟨by simp [hv,bR],av⟩
   . simp +contextual only [ol.1,ol.2.1,aj,g1,AR (Int.not_le.1 bR),apx bR,↓ag,al,simprocAttr];exact ⟨by simp [hv,bR],av⟩
 . by_cases bR:n=0
   . simp +contextual only [ol.1,ol.2.1,aj,g1,apD bR,↓ag,al,simprocAttr];exact ⟨by simp [hv,bR],av⟩
   . simp +contextual only [ol.1,ol.2.1,aj,g1,apx bR,↓ag,al,simprocAttr];exact ⟨by simp [hv,bR],av⟩
 . simp +contextual only [ol.1,ol.2.1,aj,g1,↓ag,al,simprocAttr];exact ⟨by rfl,av⟩
 . simp +contextual only [ol.1,ol.2.1,aj,g1,↓ag,al,simprocAttr];exact ⟨by rfl,av⟩
 . by_cases bR:-1073741824<=n
   . simp +contextual only [ol.1,ol.2.1,aj,g1,x' bR,↓ag,al,simprocAttr];exact ⟨by simp [hv,bR],av⟩
   . simp +contextual only [ol.1,ol.2.1,aj,g1,AR (Int.not_le.1 bR),apx bR,↓ag,al,simprocAttr];exact ⟨by simp [hv,bR],av⟩
 . simp +contextual only [ol.1,ol.2.1,aj,g1,↓ag,al,simprocAttr];exact ⟨by rfl,av⟩
 . simp +contextual only [ol.1,ol.2.1,aj,g1,↓ag,al,simprocAttr];exact ⟨by rfl,av⟩
 . by_cases bR:n=0
   . simp +contextual only [ol.1,ol.2.1,aj,g1,apD bR,↓ag,al,simprocAttr];exact ⟨by simp [hv,bR],av⟩
   . simp +contextual only [ol.1,ol.2.1,aj,g1,apx bR,↓ag,al,simprocAttr];exact ⟨by simp [hv,bR],av⟩
 . simp +contextual only [ol.1,ol.2.1,aj,g1,↓ag,al,simprocAttr];exact ⟨by rfl,av⟩
 . simp +contextual only [ol.1,ol.2.1,aj,g1,↓ag,al,simprocAttr];exact ⟨by rfl,av⟩
 . simp +contextual only [ol.1,ol.2.1,aj,g1,↓ag,al,simprocAttr];exact ⟨by rfl,av⟩
 . simp +contextual only [ol.1,ol.2.1,aj,g1,↓ag,al,simprocAttr];exact ⟨by rfl,av⟩
 . simp +contextual only [ol.1,ol.2.1,aj,g1,↓ag,al,simprocAttr];exact ⟨by rfl,av⟩
 . simp +contextual only [ol.1,ol.2.1,aj,g1,↓ag,al,simprocAttr];exact ⟨by rfl,av⟩
 . simp +contextual only [ol.1,ol.2.1,aj,g1,↓ag,al,simprocAttr];exact ⟨by rfl,av⟩
 . simp +contextual only [ol.1,ol.2.1,aj,g1,↓ag,al,simprocAttr];exact ⟨by rfl,av⟩
 . simp +contextual only [ol.1,ol.2.1,aj,g1,↓ag,al,simprocAttr];exact ⟨by rfl,av⟩
 . simp +contextual only [ol.1,ol.2.1,aj,g1,↓ag,al,simprocAttr];exact ⟨by rfl,av⟩
 . simp +contextual only [ol.1,ol.2.1,aj,g1,↓ag,al,simprocAttr];exact ⟨by rfl,av⟩
 . simp +contextual only [ol.1,ol.2.1,aj,g1,↓ag,al,simprocAttr];exact ⟨by rfl,av⟩
 . simp +contextual only [ol.1,ol.2.1,aj,g1,↓ag,al,simprocAttr];exact ⟨by rfl,av⟩
 . simp +contextual only [ol.1,ol.2.1,aj,g1,↓ag,al,simprocAttr];exact ⟨by rfl,av⟩
 . simp +contextual only [ol.1,ol.2.1,aj,g1,↓ag,al,simprocAttr];exact ⟨by rfl,av⟩
 . simp +contextual only [ol.1,ol.2.1,aj,g1,↓ag,al,simprocAttr];exact ⟨by rfl,av⟩
 . simp +contextual only [ol.1,ol.2.1,aj,g1,↓ag,al,simprocAttr];exact ⟨by rfl,av⟩
 . simp +contextual only [ol.1,ol.2.1,aj,g1,↓ag,al,simprocAttr];exact ⟨by rfl,av⟩
 . simp +contextual only [ol.1,ol.2.1,aj,g1,↓ag,al,simprocAttr];exact ⟨by rfl,av⟩
 . simp +contextual only [ol.1,ol.2.1,aj,g1,↓ag,al,simprocAttr];exact ⟨by rfl,av⟩
 . simp +contextual only [ol.1,ol.2.1,aj,g1,↓ag,al,simprocAttr];exact ⟨by rfl,av⟩
 . simp +contextual only [ol.1,ol.2.1,aj,g1,↓ag,al,simprocAttr];exact ⟨by rfl,av⟩
 . by_cases bR:0<=n
   . by_cases b7:n<=64
     . simp +contextual only [ol.1,ol.2.1,aj,g1,ar,x' bR,apD b7,↓ag,al,simprocAttr];exact ⟨by simp [hv,bR,b7],av⟩
     . simp +contextual only [ol.1,ol.2.1,aj,g1,x' bR,apx b7,↓ag,al,simprocAttr];exact ⟨by simp [hv,bR,b7],av⟩
   . simp +contextual only [ol.1,ol.2.1,aj,g1,AR (Int.not_le.1 bR),apx bR,↓ag,al,simprocAttr];exact ⟨by simp [hv,bR],av⟩
theorem ik (x m:Int) (hm:m<=2000000000) (h:ae):cv Tryz.prog 100 [.int .i64 x,.int .i64 m] h fun y aa=>dc h.next aa 1 y (List.replicate m.toNat x).length (gw (List.replicate m.toNat x))/\Ext h aa:=by
 refine YA.z rfl (cr ?_);unfold NB;simp +contextual only [↓ag,al,simprocAttr];refine eO (fun r g=>r 0=.int .i64 x/\r 1=.int .i64 m/\∃(i:Nat) (w:V),r 5=w/\r 6=.int .i64 i/\i<=m.toNat/\dc h.next g 1 w i (gw (List.replicate i x))/\Ext h g) (fun r g=>m.toNat - (r 6).toN) ?_ ?_
 . exact ⟨by simp only [↓ag,bz,simprocAttr],by simp only [↓ag,bz,simprocAttr],0,.bu,by simp only [↓ag,bz,simprocAttr],by simp only [↓ag,bz,simprocAttr]<;>rfl,by omega,⟨rfl,rfl⟩,Ext.refl h⟩
 rintro r g ⟨a1,a',i,w,bL,dI,ax,W,E⟩;unfold NC;by_cases aL:i<m.toNat
 . have g0:((i:Int)<m)=True:=apD (by omega);have db:=fW aL (by omega);obtain ⟨w',g4,aj,an,aJ,bE,cO⟩:=tT (cs:=[.int .i64 x]) (by omega) W E.next (by unfold top;omega) rfl rfl
   simp +contextual only [a1,a',bL,dI,g0,aj,db,↓ag,al,simprocAttr];refine ⟨⟨i+1,rfl,aL,?_,E.iq aJ fun b ah=>W.base ah⟩,by omega⟩;rw [List.replicate_succ',BG];exact an
 . have g0:((i:Int)<m)=False:=apx (by omega);have:i=m.toNat:=by omega
   subst this;simp +contextual only [a1,a',bL,dI,g0,↓ag,al,simprocAttr];exact ⟨by rw [apw];exact W,E⟩
theorem fO {k n:Int} {l:List aM} {gs:List Int} {p q:Prop} [Decidable p] [Decidable q] (h:di k n l=(gs,decide p)) (e:p↔q):di k n l=(gs,decide q):=h.trans (by rw [decide_eq_decide.2 e])
theorem acC (t:aM) (aA:fG t.k≠0) (aV:hv t.k t.n t.l.length=true) (hj:t.l.length<=1000000000) (af:List V) (h:ae) (H:b6 Any h t.enc af):
 cv Tryz.prog 69 [.agg af] h fun x aa=>∃v,x=.tuple [v,.bool (di t.k t.n t.l).2]/\bN Any aa 1 ((di t.k t.n t.l).1.map aZ.gA) v/\Ext h aa:=by
 obtain ⟨ca,rfl,L,aW⟩:=aM.open H;have ol:=L.one;have ar:=L.len;rw [List.length_map] at ar;obtain ⟨k,n,a,s,l⟩:=t;simp only [aM.k,aM.n,aM.a,aM.s,aM.l] at *;refine Zv.z rfl (cr ?_);unfold OY;obtain ⟨U,aj,av,b9⟩:=fE h [.int .i64 k,.int .i64 n,.int .i64 a,.str s,ca];have g1:=b9.g;have G_:=L.ext av;clear L H;rcases E9 aA with rfl | rfl | rfl | rfl | rfl | rfl | rfl | rfl | rfl | rfl | rfl | rfl | rfl | rfl | rfl | rfl | rfl | rfl | rfl | rfl | rfl | rfl | rfl | rfl | rfl | rfl | rfl | rfl | rfl | rfl | rfl | rfl | rfl | rfl | rfl | rfl | rfl | rfl
 . rw [fO (q:=(l.length:Int)=0) (show di 1 n l=([],decide (l.length=0)) from rfl) ⟨fun q=>by omega,fun q=>by omega⟩];simp +contextual only [ol.1,ol.2.1,aj,g1,ar,↓ag,al,simprocAttr];exact ⟨_,rfl,bN.nil _ _ _,av⟩
 . rw [fO (q:=(l.length:Int)<=64) (show di 2 n l=(List.replicate (l.length:Int).toNat 1,decide (l.length<=64)) from rfl) ⟨fun q=>by omega,fun q=>by omega⟩];simp +contextual only [ol.1,ol.2.1,aj,g1,ar,↓ag,al,simprocAttr];refine bS (ik 1 (l.length:Int) (by omega) U) ?_;rintro y ab ⟨Y,aK⟩;simp +contextual only [↓ag,al,simprocAttr];exact ⟨_,rfl,Y.gI (by rw [apw];unfold top;omega),av.trans aK⟩
 . rw [fO (q:=(l.length:Int)=2) (show di 3 n l=(List.replicate (2:Int).toNat 1,decide (l.length=2)) from rfl) ⟨fun q=>by omega,fun q=>by omega⟩];simp +contextual only [ol.1,ol.2.1,aj,g1,ar,↓ag,al,simprocAttr];refine bS (ik 1 (2:Int) (by omega) U) ?_;rintro y ab ⟨Y,aK⟩;simp +contextual only [↓ag,al,simprocAttr];exact ⟨_,rfl,Y.gI (by rw [apw];unfold top;omega),av.trans aK⟩
 . rw [fO (q:=(l.length:Int)=2) (show di 4 n l=(List.replicate (2:Int).toNat 1,decide (l.length=2)) from rfl) ⟨fun q=>by omega,fun q=>by omega⟩];simp +contextual only [ol.1,ol.2.1,aj,g1,ar,↓ag,al,simprocAttr];refine bS (ik 1 (2:Int) (by omega) U) ?_;rintro y ab ⟨Y,aK⟩;simp +contextual only [↓ag,al,simprocAttr];exact ⟨_,rfl,Y.gI (by rw [apw];unfold top;omega),av.trans aK⟩
 . rw [fO (q:=(l.length:Int)=0) (show di 10 n l=([],decide (l.length=0)) from rfl) ⟨fun q=>by omega,fun q=>by omega⟩];simp +contextual only [ol.1,ol.2.1,aj,g1,ar,↓ag,al,simprocAttr];exact ⟨_,rfl,bN.nil _ _ _,av⟩
 . rw [fO (q:=(l.length:Int)=0) (show di 13 n l=([],decide (l.length=0)) from rfl) ⟨fun q=>by omega,fun q=>by omega⟩];simp +contextual only [ol.1,ol.2.1,aj,g1,ar,↓ag,al,simprocAttr];exact ⟨_,rfl,bN.nil _ _ _,av⟩
 . rw [fO (q:=(l.length:Int)=0) (show di 11 n l=([],decide (l.length=0)) from rfl) ⟨fun q=>by omega,fun q=>by omega⟩];simp +contextual only [ol.1,ol.2.1,aj,g1,ar,↓ag,al,simprocAttr];exact ⟨_,rfl,bN.nil _ _ _,av⟩
 . rw [fO (q:=(l.length:Int)=0) (show di 12 n l=([],decide (l.length=0)) from rfl) ⟨fun q=>by omega,fun q=>by omega⟩];simp +contextual only [ol.1,ol.2.1,aj,g1,ar,↓ag,al,simprocAttr];exact ⟨_,rfl,bN.nil _ _ _,av⟩
 . rw [fO (q:=(l.length:Int)=0) (show di 14 n l=([],decide (l.length=0)) from rfl) ⟨fun q=>by omega,fun q=>by omega⟩];simp +contextual only [ol.1,ol.2.1,aj,g1,ar,↓ag,al,simprocAttr];exact ⟨_,rfl,bN.nil _ _ _,av⟩
 . rw [fO (q:=(l.length:Int)=2) (show di 15 n l=(List.replicate (2:Int).toNat 2,decide (l.length=2)) from rfl) ⟨fun q=>by omega,fun q=>by omega⟩];simp +contextual only [ol.1,ol.2.1,aj,g1,ar,↓ag,al,simprocAttr];refine bS (ik 2 (2:Int) (by omega) U) ?_;rintro y ab ⟨Y,aK⟩;simp +contextual only [↓ag,al,simprocAttr];exact ⟨_,rfl,Y.gI (by rw [apw];unfold top;omega),av.trans aK⟩
 . rw [fO (q:=(l.length:Int)<=1) (show di 16 n l=(List.replicate (l.length:Int).toNat 2,decide (l.length<=1)) from rfl) ⟨fun q=>by omega,fun q=>by omega⟩];simp +contextual only [ol.1,ol.2.1,aj,g1,ar,↓ag,al,simprocAttr];refine bS (ik 2 (l.length:Int) (by omega) U) ?_;rintro y ab ⟨Y,aK⟩;simp +contextual only [↓ag,al,simprocAttr];exact ⟨_,rfl,Y.gI (by rw [apw];unfold top;omega),av.trans aK⟩
 . rw [fO (q:=(l.length:Int)=0) (show di 20 n l=([],decide (l.length=0)) from rfl) ⟨fun q=>by omega,fun q=>by omega⟩];simp +contextual only [ol.1,ol.2.1,aj,g1,ar,↓ag,al,simprocAttr];exact ⟨_,rfl,bN.nil _ _ _,av⟩
 . rw [fO (q:=(l.length:Int)=0) (show di 21 n l=([],decide (l.length=0)) from rfl) ⟨fun q=>by omega,fun q=>by omega⟩];simp +contextual only [ol.1,ol.2.1,aj,g1,ar,↓ag,al,simprocAttr];exact ⟨_,rfl,bN.nil _ _ _,av⟩
 . rw [fO (q:=(l.length:Int)=0) (show di 22 n l=([],decide (l.length=0)) from rfl) ⟨fun q=>by omega,fun q=>by omega⟩];simp +contextual only [ol.1,ol.2.1,aj,g1,ar,↓ag,al,simprocAttr];exact ⟨_,rfl,bN.nil _ _ _,av⟩
 . rw [fO (q:=(l.length:Int)=0) (show di 23 n l=([],decide (l.length=0)) from rfl) ⟨fun q=>by omega,fun q=>by omega⟩];simp +contextual only [ol.1,ol.2.1,aj,g1,ar,↓ag,al,simprocAttr];exact ⟨_,rfl,bN.nil _ _ _,av⟩
 . rw [fO (q:=(l.length:Int)=0) (show di 24 n l=([],decide (l.length=0)) from rfl) ⟨fun q=>by omega,fun q=>by omega⟩];simp +contextual only [ol.1,ol.2.1,aj,g1,ar,↓ag,al,simprocAttr];exact ⟨_,rfl,bN.nil _ _ _,av⟩
 . rw [fO (q:=(l.length:Int)<=1) (show di 25 n l=(List.replicate (l.length:Int).toNat 3,decide (l.length<=1)) from rfl) ⟨fun q=>by omega,fun q=>by omega⟩];simp +contextual only [ol.1,ol.2.1,aj,g1,ar,↓ag,al,simprocAttr];refine bS (ik 3 (l.length:Int) (by omega) U) ?_;rintro y ab ⟨Y,aK⟩;simp +contextual only [↓ag,al,simprocAttr];exact ⟨_,rfl,Y.gI (by rw [apw];unfold top;omega),av.trans aK⟩
 . rw [fO (q:=(l.length:Int)=2) (show di 26 n l=(List.replicate (2:Int).toNat 3,decide (l.length=2)) from rfl) ⟨fun q=>by omega,fun q=>by omega⟩];simp +contextual only [ol.1,ol.2.1,aj,g1,ar,↓ag,al,simprocAttr];refine bS (ik 3 (2:Int) (by omega) U) ?_;rintro y ab ⟨Y,aK⟩;simp +contextual only [↓ag,al,simprocAttr];exact ⟨_,rfl,Y.gI (by rw [apw];unfold top;omega),av.trans aK⟩
 . rw [fO (q:=(l.length:Int)=2) (show di 28 n l=(List.replicate (2:Int).toNat 3,decide (l.length=2)) from rfl) ⟨fun q=>by omega,fun q=>by omega⟩];simp +contextual only [ol.1,ol.2.1,aj,g1,ar,↓ag,al,simprocAttr];refine bS (ik 3 (2:Int) (by omega) U) ?_;rintro y ab ⟨Y,aK⟩;simp +contextual only [↓ag,al,simprocAttr];exact ⟨_,rfl,Y.gI (by rw [apw];unfold top;omega),av.trans aK⟩
 . rw [fO (q:=(l.length:Int)=2) (show di 35 n l=(List.replicate (2:Int).toNat 3,decide (l.length=2)) from rfl) ⟨fun q=>by omega,fun q=>by omega⟩];simp +contextual only [ol.1,ol.2.1,aj,g1,ar,↓ag,al,simprocAttr];refine bS (ik 3 (2:Int) (by omega) U) ?_;rintro y ab ⟨Y,aK⟩;simp +contextual only [↓ag,al,simprocAttr];exact ⟨_,rfl,Y.gI (by rw [apw];unfold top;omega),av.trans aK⟩
 . rw [fO (q:=(l.length:Int)=2) (show di 37 n l=(List.replicate (2:Int).toNat 3,decide (l.length=2)) from rfl) ⟨fun q=>by omega,fun q=>by omega⟩];simp +contextual only [ol.1,ol.2.1,aj,g1,ar,↓ag,al,simprocAttr];refine bS (ik 3 (2:Int) (by omega) U) ?_;rintro y ab ⟨Y,aK⟩;simp +contextual only [↓ag,al,simprocAttr];exact ⟨_,rfl,Y.gI (by rw [apw];unfold top;omega),av.trans aK⟩
 . rw [fO (q:=(l.length:Int)=2) (show di 38 n l=(List.replicate (2:Int).toNat 3,decide (l.length=2)) from rfl) ⟨fun q=>by omega,fun q=>by omega⟩];simp +contextual only [ol.1,ol.2.1,aj,g1,ar,↓ag,al,simprocAttr];refine bS (ik 3 (2:Int) (by omega) U) ?_;rintro y ab ⟨Y,aK⟩;simp +contextual only [↓ag,al,simprocAttr];exact ⟨_,rfl,Y.gI (by rw [apw];unfold top;omega),av.trans aK⟩
 . rw [fO (q:=(l.length:Int)=1) (show di 34 n l=(List.replicate (1:Int).toNat 3,decide (l.length=1)) from rfl) ⟨fun q=>by omega,fun q=>by omega⟩];simp +contextual only [ol.1,ol.2.1,aj,g1,ar,↓ag,al,simprocAttr];refine bS (ik 3 (1:Int) (by omega) U) ?_;rintro y ab ⟨Y,aK⟩;simp +contextual only [↓ag,al,simprocAttr];exact ⟨_,rfl,Y.gI (by rw [apw];unfold top;omega),av.trans aK⟩
 . rw [fO (q:=(l.length:Int)=1) (show di 36 n l=(List.replicate (1:Int).toNat 3,decide (l.length=1)) from rfl) ⟨fun q=>by omega,fun q=>by omega⟩];simp +contextual only [ol.1,ol.2.1,aj,g1,ar,↓ag,al,simprocAttr];refine bS (ik 3 (1:Int) (by omega) U) ?_;rintro y ab ⟨Y,aK⟩;simp +contextual only [↓ag,al,simprocAttr];exact ⟨_,rfl,Y.gI (by rw [apw];unfold top;omega),av.trans aK⟩
 . rw [fO (q:=(l.length:Int)=1) (show di 39 n l=(List.replicate (1:Int).toNat 3,decide (l.length=1)) from rfl) ⟨fun q=>by omega,fun q=>by omega⟩];simp +contextual only [ol.1,ol.2.1,aj,g1,ar,↓ag,al,simprocAttr];refine bS (ik 3 (1:Int) (by omega) U) ?_;rintro y ab ⟨Y,aK⟩;simp +contextual only [↓ag,al,simprocAttr];exact ⟨_,rfl,Y.gI (by rw [apw];unfold top;omega),av.trans aK⟩
 . rw [fO (q:=(l.length:Int)=3) (show di 31 n l=(List.replicate (3:Int).toNat 3,decide (l.length=3)) from rfl) ⟨fun q=>by omega,fun q=>by omega⟩];simp +contextual only [ol.1,ol.2.1,aj,g1,ar,↓ag,al,simprocAttr];refine bS (ik 3 (3:Int) (by omega) U) ?_;rintro y ab ⟨Y,aK⟩;simp +contextual only [↓ag,al,simprocAttr];exact ⟨_,rfl,Y.gI (by rw [apw];unfold top;omega),av.trans aK⟩
 . rw [fO (q:=(l.length:Int)=2) (show di 27 n l=([2,3],decide (l.length=2)) from rfl) ⟨fun q=>by omega,fun q=>by omega⟩];obtain ⟨ab,an,aK,Y⟩:=qo U 1 2 [.int .i64 2,.int .i64 3] rfl (by unfold top;omega);simp +contextual only [ol.1,ol.2.1,aj,an,g1,ar,↓ag,al,simprocAttr];exact ⟨_,rfl,dc.gI (l:=[2,3]) Y (by simp [top]),av.trans aK⟩
 . rw [fO (q:=(l.length:Int)=3) (show di 29 n l=([2,3,3],decide (l.length=3)) from rfl) ⟨fun q=>by omega,fun q=>by omega⟩];obtain ⟨ab,an,aK,Y⟩:=qo U 1 3 [.int .i64 2,.int .i64 3,.int .i64 3] rfl (by unfold top;omega);simp +contextual only [ol.1,ol.2.1,aj,an,g1,ar,↓ag,al,simprocAttr];exact ⟨_,rfl,dc.gI (l:=[2,3,3]) Y (by simp [top]),av.trans aK⟩
 . rw [fO (q:=(l.length:Int)>=2) (show di 30 n l=(List.replicate (l.length-1) (5:Int)++[3],decide (2<=l.length)) from rfl) ⟨fun q=>by omega,fun q=>by omega⟩];have bP:IntKind.i64.wrap ((l.length:Int)-1)=(l.length:Int)-1:=wrap_i64 (by omega) (by omega);simp +contextual only [ol.1,ol.2.1,aj,g1,ar,bP,↓ag,al,simprocAttr];refine bS (ik 5 ((l.length:Int)-1) (by omega) U) ?_;rintro y ab ⟨Y,aK⟩;rw [show ((l.length:Int)-1).toNat=l.length-1 from by omega] at Y;obtain ⟨w',aI,an,aJ,bE,cO,en⟩:=tT (cs:=[.int .i64 3]) (by omega) Y aK.next (by rw [apw];unfold top;omega) rfl rfl
   simp +contextual only [an,↓ag,al,simprocAttr];have Z:dc U.next aI 1 w' (List.replicate (l.length-1) (5:Int)++[3]).length (gw (List.replicate (l.length-1) (5:Int)++[3])):=by rw [apC,BG];exact aJ
   exact ⟨_,rfl,Z.gI (by rw [apC,apw];simp only [ark];unfold top;omega),(av.trans aK).iq bE fun b ah=>aqc av.next (Y.base ah)⟩
 . rw [fO (q:=(l.length:Int)>=2) (show di 32 n l=(3::List.replicate (l.length-1) (4:Int),decide (2<=l.length)) from rfl) ⟨fun q=>by omega,fun q=>by omega⟩];have bP:IntKind.i64.wrap ((l.length:Int)-1)=(l.length:Int)-1:=wrap_i64 (by omega) (by omega);obtain ⟨ab,an,aK,Y⟩:=qo U 1 1 [.int .i64 3] rfl (by unfold top;omega);simp +contextual only [ol.1,ol.2.1,aj,an,g1,ar,bP,↓ag,al,simprocAttr];refine bS (ik 4 ((l.length:Int)-1) (by omega) ab) ?_;rintro y aI ⟨Z,bF⟩;rw [show ((l.length:Int)-1).toNat=l.length-1 from by omega] at Z;obtain ⟨w',bq,ck,ek,ir,nt⟩:=vG (by omega) (Y.ext bF) Z.v (aqc aK.next bF.next) (by rw [apw];unfold top;omega) (y_ _);simp +contextual only [ck,↓ag,al,simprocAttr];have W:dc U.next bq 1 w' (3::List.replicate (l.length-1) (4:Int)).length (gw (3::List.replicate (l.length-1) (4:Int))):=by
    rw [apz,arp];exact ek
   exact ⟨_,rfl,W.gI (by rw [apz,apw];unfold top;omega),((av.trans aK).trans bF).iq ir fun b ah=>aqc av.next (Y.base ah)⟩
 . rw [fO (q:=(l.length:Int)>=2) (show di 33 n l=(3::List.replicate (l.length-1) (4:Int),decide (2<=l.length)) from rfl) ⟨fun q=>by omega,fun q=>by omega⟩];have bP:IntKind.i64.wrap ((l.length:Int)-1)=(l.length:Int)-1:=wrap_i64 (by omega) (by omega);obtain ⟨ab,an,aK,Y⟩:=qo U 1 1 [.int .i64 3] rfl (by unfold top;omega);simp +contextual only [ol.1,ol.2.1,aj,an,g1,ar,bP,↓ag,al,simprocAttr];refine bS (ik 4 ((l.length:Int)-1) (by omega) ab) ?_;rintro y aI ⟨Z,bF⟩;rw [show ((l.length:Int)-1).toNat=l.length-1 from by omega] at Z;obtain ⟨w',bq,ck,ek,ir,nt⟩:=vG (by omega) (Y.ext bF) Z.v (aqc aK.next bF.next) (by rw [apw];unfold top;omega) (y_ _);simp +contextual only [ck,↓ag,al,simprocAttr];have W:dc U.next bq 1 w' (3::List.replicate (l.length-1) (4:Int)).length (gw (3::List.replicate (l.length-1) (4:Int))):=by
    rw [apz,arp];exact ek
   exact ⟨_,rfl,W.gI (by rw [apz,apw];unfold top;omega),((av.trans aK).trans bF).iq ir fun b ah=>aqc av.next (Y.base ah)⟩
 . rw [fO (q:=(l.length:Int)=2) (show di 45 n l=([2,3],decide (l.length=2)) from rfl) ⟨fun q=>by omega,fun q=>by omega⟩];obtain ⟨ab,an,aK,Y⟩:=qo U 1 2 [.int .i64 2,.int .i64 3] rfl (by unfold top;omega);simp +contextual only [ol.1,ol.2.1,aj,an,g1,ar,↓ag,al,simprocAttr];exact ⟨_,rfl,dc.gI (l:=[2,3]) Y (by simp [top]),av.trans aK⟩
 . by_cases Q3:l.length=1
   . obtain ⟨u,rfl⟩:∃u,l=[u]:=by
      match l,Q3 with
      | [u],_=>exact ⟨u,rfl⟩
     rw [show di 46 n [u]=(List.replicate (1:Int).toNat 3,decide (u.k=27)) from by simp [di,IF]];obtain ⟨b,off,wl,bW,X,dK,ld,jg,_,_⟩:=aM.ki G_ (k:=.i64) (i:=0) (by simp);have kP:f' 5 ca (.int .i64 0)=some (.ptr b off):=by simpa using bW
     have d0:∀aa,Ext U aa->fy (aa.get b) off=some (.int .i64 u.k):=fun aa e=>by simpa using jg aa e
     have d1:=d0 U (Ext.refl _);simp +contextual only [ol.1,ol.2.1,aj,g1,ar,kP,d1,apz,ap5,↓ag,al,simprocAttr];refine bS (ik 3 1 (by omega) U) ?_;rintro y ab ⟨Y,aK⟩;have d2:=d0 ab aK;have g2:=(b9.ext aK).g;simp +contextual only [g1,g2,kP,d1,d2,↓ag,al,simprocAttr];exact ⟨_,rfl,Y.gI (by simp [top]),av.trans aK⟩
   . rw [show di 46 n l=(List.replicate (1:Int).toNat 3,false) from by simp [di,Q3]];have f1:((l.length:Int)=1)=False:=apx (by omega);simp +contextual only [ol.1,ol.2.1,aj,g1,ar,f1,↓ag,al,simprocAttr];refine bS (ik 3 1 (by omega) U) ?_;rintro y ab ⟨Y,aK⟩;have g2:=(b9.ext aK).g;simp +contextual only [g1,g2,f1,↓ag,al,simprocAttr];exact ⟨_,rfl,Y.gI (by simp [top]),av.trans aK⟩
 . rw [fO (q:=(l.length:Int)<=1) (show di 47 n l=(List.replicate (l.length:Int).toNat 1,decide (l.length<=1)) from rfl) ⟨fun q=>by omega,fun q=>by omega⟩];simp +contextual only [ol.1,ol.2.1,aj,g1,ar,↓ag,al,simprocAttr];refine bS (ik 1 (l.length:Int) (by omega) U) ?_;rintro y ab ⟨Y,aK⟩;simp +contextual only [↓ag,al,simprocAttr];exact ⟨_,rfl,Y.gI (by rw [apw];unfold top;omega),av.trans aK⟩
 . rw [fO (q:=(l.length:Int)<=1) (show di 51 n l=(List.replicate (l.length:Int).toNat 1,decide (l.length<=1)) from rfl) ⟨fun q=>by omega,fun q=>by omega⟩];simp +contextual only [ol.1,ol.2.1,aj,g1,ar,↓ag,al,simprocAttr];refine bS (ik 1 (l.length:Int) (by omega) U) ?_;rintro y ab ⟨Y,aK⟩;simp +contextual only [↓ag,al,simprocAttr];exact ⟨_,rfl,Y.gI (by rw [apw];unfold top;omega),av.trans aK⟩
 . rw [fO (q:=(l.length:Int)=2) (show di 52 n l=([2,3],decide (l.length=2)) from rfl) ⟨fun q=>by omega,fun q=>by omega⟩];obtain ⟨ab,an,aK,Y⟩:=qo U 1 2 [.int .i64 2,.int .i64 3] rfl (by unfold top;omega);simp +contextual only [ol.1,ol.2.1,aj,an,g1,ar,↓ag,al,simprocAttr];exact ⟨_,rfl,dc.gI (l:=[2,3]) Y (by simp [top]),av.trans aK⟩
 . rw [fO (q:=(l.length:Int)>=1) (show di 53 n l=(List.replicate (l.length:Int).toNat 5,decide (1<=l.length)) from rfl) ⟨fun q=>by omega,fun q=>by omega⟩];simp +contextual only [ol.1,ol.2.1,aj,g1,ar,↓ag,al,simprocAttr];refine bS (ik 5 (l.length:Int) (by omega) U) ?_;rintro y ab ⟨Y,aK⟩;simp +contextual only [↓ag,al,simprocAttr];exact ⟨_,rfl,Y.gI (by rw [apw];unfold top;omega),av.trans aK⟩
 . have rr:0<=n/\n<=64/\n<l.length:=by simpa [hv,and_assoc] using aV
   obtain ⟨cL,fi,n3⟩:=rr;rw [show di 50 n l=(List.replicate n.toNat (8:Int)++List.replicate (l.length-n.toNat) (6:Int),true) from rfl];have bP:IntKind.i64.wrap ((l.length:Int)-n)=(l.length:Int)-n:=wrap_i64 (by omega) (by omega);simp +contextual only [ol.1,ol.2.1,aj,g1,ar,bP,↓ag,al,simprocAttr];refine bS (ik 8 n (by omega) U) ?_;rintro y ab ⟨Y,aK⟩;have g2:=(b9.ext aK).g;simp +contextual only [g1,g2,ar,bP,↓ag,al,simprocAttr];refine bS (ik 6 ((l.length:Int)-n) (by omega) ab) ?_;rintro z aI ⟨Z,bF⟩;have g3:=((b9.ext aK).ext bF).g;rw [show ((l.length:Int)-n).toNat=l.length-n.toNat from by omega] at Z;obtain ⟨w',bq,ck,ek,ir,nt⟩:=vG (by omega) (Y.ext bF) Z.v (aqc aK.next bF.next) (by rw [apw,apw];unfold top;omega) (y_ _);simp +contextual only [ck,g1,g2,g3,ar,bP,↓ag,al,simprocAttr];have W:dc U.next bq 1 w' (List.replicate n.toNat (8:Int)++List.replicate (l.length-n.toNat) (6:Int)).length (gw (List.replicate n.toNat (8:Int)++List.replicate (l.length-n.toNat) (6:Int))):=by rw [apC,BG];exact ek
   exact ⟨_,rfl,W.gI (by rw [apC,apw,apw];unfold top;omega),((av.trans aK).trans bF).iq ir fun b ah=>aqc av.next (Y.base ah)⟩
theorem ale {k n:Int} {l:List aM} (aA:fG k≠0) (aV:hv k n l.length=true) (h:(di k n l).2=true):(di k n l).1.length=l.length:=by
 rcases E9 aA with rfl | rfl | rfl | rfl | rfl | rfl | rfl | rfl | rfl | rfl | rfl | rfl | rfl | rfl | rfl | rfl | rfl | rfl | rfl | rfl | rfl | rfl | rfl | rfl | rfl | rfl | rfl | rfl | rfl | rfl | rfl | rfl | rfl | rfl | rfl | rfl | rfl | rfl<;>
 simp [di,hv] at h aV ⊢<;>first | omega | simp_all
theorem U9 (t:aM):t.j0 dh=(decide (fG t.k≠0)&&qB dh t.k t.s&&hv t.k t.n t.l.length&&decide (0<=t.a)&&decide (t.a<=65536)&&(di t.k t.n t.l).2&&ko dh (di t.k t.n t.l).1 t.l):=by cases t;rw [aM.j0];rfl
theorem F7:∀(N:Nat) (t:aM),t.size<=N->N<=1000000000->∀(af:List V) (h:ae),b6 Any h t.enc af->cv Tryz.prog 40 [.agg af] h fun x aa=>x=.bool (t.j0 dh)/\Ext h aa
 | 0,t,aW,_,_,_,_=>by have:=oi t;omega
 | N+1,t,aW,Rc,af,h,H=>by
   have xq:=H;obtain ⟨ca,rfl,L,_⟩:=aM.open H;have bK:N<=1000000000:=by omega
   have ol:=L.one;have ar:=L.len;have hle:=L.le;rw [apv] at ar hle;have cn:=size_eq t;have dj:=mI t.l;refine Zg.z rfl (cr ?_);unfold Ov;obtain ⟨U,aj,av,b9⟩:=fE h [.int .i64 t.k,.int .i64 t.n,.int .i64 t.a,.str t.s,ca];simp +contextual only [ol.1,ol.2.1,aj,b9.g,↓ag,al,simprocAttr];refine bS (U6 t.k U) ?_;rintro x ab ⟨rfl,rfl⟩;rw [U9];by_cases aG:fG t.k=0
   . simp +contextual only [apD aG,↓ag,al,simprocAttr];exact ⟨by simp [aG],av⟩
   have vZ:=apx aG;simp +contextual only [vZ,b9.g,↓ag,al,simprocAttr];refine bS (amB t aG _ ab (xq.ext av)) ?_;rintro x aI ⟨rfl,bF⟩;have fa:=b9.ext bF;cases bQ:qB dh t.k t.s with
   | false=>
     simp +contextual only [vZ,fa.g,↓ag,al,simprocAttr];exact av.trans bF
   | true=>
   simp +contextual only [vZ,fa.g,↓ag,al,simprocAttr];refine bS (ajp t aG _ aI (xq.ext (av.trans bF))) ?_;rintro x bq ⟨rfl,bZ⟩;have fJ:=fa.ext bZ;have jK:=(av.trans bF).trans bZ;cases b2:hv t.k t.n t.l.length with
   | false=>
     simp +contextual only [vZ,fJ.g,↓ag,al,simprocAttr];exact jK
   | true=>
   by_cases c3:t.a<0
   . simp +contextual only [vZ,fJ.g,apD c3,↓ag,al,simprocAttr];exact ⟨by rw [ap_ (show ¬0<=t.a by omega)];simp,jK⟩
   by_cases gr:65536<t.a
   . simp +contextual only [vZ,fJ.g,apx c3,apD gr,↓ag,al,simprocAttr];exact ⟨by rw [ap_ (show ¬t.a<=65536 by omega)];simp,jK⟩
   simp +contextual only [vZ,fJ.g,apx c3,apx gr,↓ag,al,simprocAttr];refine bS (acC t aG b2 (by omega) _ bq (xq.ext jK)) ?_;rintro x cF ⟨acF,rfl,MG,df⟩;have jI:=fJ.ext df;have lF:=jK.trans df;rw [ap7 (show fG t.k≠0 from aG),ap7 (show 0<=t.a by omega),ap7 (show t.a<=65536 by omega)];cases c5:(di t.k t.n t.l).2 with
   | false=>
     simp +contextual only [jI.g,↓ag,al,simprocAttr];exact lF
   | true=>
   have sJ:=ale aG b2 c5;generalize (di t.k t.n t.l).1=gs at MG sJ ⊢;simp +contextual only [jI.g,↓ag,al,simprocAttr];refine eO (fun r g=>r 1=.ptr (aC h.next) 0/\r 3=acF/\∃i:Nat,r 5=.int .i64 i/\i<=t.l.length/\Ext cF g/\ko dh gs t.l=ko dh (gs.drop i) (t.l.drop i)) (fun r g=>t.l.length - (r 5).toN) ?_ ?_
   . exact ⟨by simp only [↓ag,bz,simprocAttr],by simp only [↓ag,bz,simprocAttr],0,by simp only [↓ag,bz,simprocAttr]<;>rfl,by omega,Ext.refl cF,rfl⟩
   rintro r g ⟨a',b3,i,bL,ax,E,bt⟩;unfold Ow;have A:=jI.ext E;have nJ:=L.ext (lF.trans E);by_cases aL:i<t.l.length
   . have g0:((i:Int) < (t.l.length:Int))=True:=apD (by omega);obtain ⟨b,off,wl,bW,X,dK,ld,jg,_,_⟩:=aM.ki nJ (k:=.i64) aL;obtain ⟨b7,B8,mz,aid⟩:=(MG.ext E).yM (k:=.i64) (i:=i) (by omega);have iK:=ld g (Ext.refl g);have d0:=jg g (Ext.refl g);have dg:=aid g (Ext.refl g);have db:=fW aL (by unfold top at hle;omega);have ad2:=uY (t:=t) (apV aL);rw [apW aL,apW (show i<gs.length by omega),ko] at bt;have fin:∀(aN:List hS) (R:bd),True:=fun _ _=>trivial;by_cases q3:gs[i]=8
     . have eb:po t.l[i].k gs[i]=decide (t.l[i].k=1):=by unfold po;rw [apB q3]
       by_cases oM:t.l[i].k=1
       . simp +contextual only [a',b3,bL,A.g,ar,g0,bW,mz,iK,d0,dg,apD q3,apD oM,↓ag,al,simprocAttr];refine bS (F7 N t.l[i] (by omega) bK _ g X) ?_;rintro x g2 ⟨rfl,eH⟩;rw [eb,ap7 oM,aqm] at bt;cases AF:t.l[i].j0 dh with
         | true=>
           rw [AF,aqm] at bt;simp +contextual only [a',b3,bL,db,↓ag,al,simprocAttr];exact ⟨⟨i+1,rfl,aL,E.trans eH,bt⟩,by omega⟩
         | false=>
           rw [AF,aqd] at bt;simp +contextual only [a',b3,bL,db,↓ag,al,simprocAttr];exact ⟨by rw [bt],lF.trans (E.trans eH)⟩
       . rw [eb,ap_ oM,aqd,aqd] at bt;simp +contextual only [a',b3,bL,A.g,ar,g0,bW,mz,iK,d0,dg,apD q3,apx oM,↓ag,al,simprocAttr];exact ⟨by rw [bt],lF.trans E⟩
     . have eb:po t.l[i].k gs[i]=decide (fG t.l[i].k=gs[i]):=by unfold po;rw [apu q3]
       simp +contextual only [a',b3,bL,A.g,ar,g0,bW,mz,iK,d0,dg,apx q3,↓ag,al,simprocAttr];refine bS (U6 t.l[i].k g) ?_;rintro x g2 ⟨rfl,rfl⟩;by_cases oM:fG t.l[i].k=gs[i]
       . simp +contextual only [a',b3,bL,A.g,ar,g0,bW,mz,iK,d0,dg,apx q3,apD oM,↓ag,al,simprocAttr];refine bS (F7 N t.l[i] (by omega) bK _ g2 X) ?_;rintro x g3 ⟨rfl,eH⟩;rw [eb,ap7 oM,aqm] at bt;cases AF:t.l[i].j0 dh with
         | true=>
           rw [AF,aqm] at bt;simp +contextual only [a',b3,bL,db,↓ag,al,simprocAttr];exact ⟨⟨i+1,rfl,aL,E.trans eH,bt⟩,by omega⟩
         | false=>
           rw [AF,aqd] at bt;simp +contextual only [a',b3,bL,db,↓ag,al,simprocAttr];exact ⟨by rw [bt],lF.trans (E.trans eH)⟩
       . rw [eb,ap_ oM,aqd,aqd] at bt;simp +contextual only [a',b3,bL,A.g,ar,g0,bW,mz,iK,d0,dg,apx q3,apx oM,↓ag,al,simprocAttr];exact ⟨by rw [bt],lF.trans E⟩
   . have g0:((i:Int) < (t.l.length:Int))=False:=apx (by omega);rw [aqf (show t.l.length<=i by omega),ko] at bt;simp +contextual only [a',b3,bL,A.g,ar,g0,↓ag,al,simprocAttr];exact ⟨by rw [bt],lF.trans E⟩
end
end Go.Proofs.YtgmhjhgoamjeeaaGreatDoor
