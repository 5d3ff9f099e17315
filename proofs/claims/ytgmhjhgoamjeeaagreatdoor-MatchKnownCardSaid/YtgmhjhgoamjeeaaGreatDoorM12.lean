/- The chapter's functions, walked by the abstract machine: plain lemmas, no condition. Printed by a program from longer texts: names made short. -/
import Derived.Test.YtgmhjhgoamjeeaaGreatDoorM10
import Derived.Test.YtgmhjhgoamjeeaaGreatDoorM11
set_option linter.unusedSectionVars false
set_option linter.unusedSimpArgs false
set_option linter.unusedVariables false
set_option maxHeartbeats 64000000
noncomputable section
namespace Go.Proofs.YtgmhjhgoamjeeaaGreatDoor
section
open Go aX
theorem aQ.oX [Lay] {F:aL->Prop} {h:ae} {l:List aQ} {v:V} (H:b0 F h 5 (l.map aQ.enc) v) {k:IntKind} {i:Nat} (ax:i<l.length):
 ∃b off cB,fK 5 v (.int k i)=some (.ptr b (off+i * 5))/\bN F h l[i].enc [.int .i64 l[i].k,.int .i64 l[i].n,.int .i64 l[i].a,.str l[i].s,cB]/\b0 F h 5 (l[i].l.map aQ.enc) cB/\
  (∀ab,Ext h ab->ml 5 (ab.get b) (off+i * 5)=some (.agg [.int .i64 l[i].k,.int .i64 l[i].n,.int .i64 l[i].a,.str l[i].s,cB]))/\
  (∀ab,Ext h ab->fZ (ab.get b) (off+i * 5)=some (.int .i64 l[i].k))/\(∀ab,Ext h ab->fZ (ab.get b) (off+i * 5+3)=some (.str l[i].s))/\(∀ab,Ext h ab->fZ (ab.get b) (off+i * 5+4)=some cB):=by
 obtain ⟨b,off,u,aK,aS,bU,b9,dP⟩:=H.at (k:=k) (i:=i) (by rw [apG];exact ax);rw [aq4] at aS;obtain ⟨cB,rfl,L,_⟩:=aQ.open aS;exact ⟨b,off,cB,aK,aS,L,b9,fun ab e=>by simpa using dP ab e 0 (by omega),fun ab e=>by simpa using dP ab e 3 (by omega),fun ab e=>by simpa using dP ab e 4 (by omega)⟩
theorem Va (k n a:Int) (t z:List UInt8) (h:ae) (aE:t.length<=100000):c9 Tryz.prog 108 [.agg [.int .i64 k,.int .i64 n,.int .i64 a,.str t],.str z] h fun x ab=>x=.bool (decide (z=(if k=5 then 39::t else t)))/\Ext h ab:=by
 refine YE.z rfl (cw ?_);unfold NQ;obtain ⟨aa,ak,aK,c8⟩:=fM h [.int .i64 k,.int .i64 n,.int .i64 a,.str t];by_cases aB:k=5
 . have aA:(1+t.length<=17179869184)=True:=apC (by omega);simp +contextual only [ak,c8.g,apC aB,aA,ap3,apS,aqk,↓an,aF,simprocAttr];exact aK
 . simp +contextual only [ak,c8.g,apy aB,ap9,↓an,aF,simprocAttr];exact aK
theorem S0:∀(f:Nat) (r:List UInt8) (p:Nat) (ws:List b4),m_ f r p=.ok ws->∀w ∈ ws,w.kind=3\/w.kind=4\/w.kind=5->w.text.length<=64:=fun f r p ws h w hw aB=>by obtain ⟨_,g,_⟩:=KM (BR f r p ws h w hw aB);exact g
theorem Md (k:Int) (aB:k=3\/k=4\/k=5) (s:List UInt8) (h:ae):c9 Tryz.prog 104 [.int .i64 k,.str s] h fun x ab=>x=.bool (ew k s)/\Ext h ab:=by
 rw [<-am7 aB];refine YB.z rfl (cw ?_);unfold NM;by_cases IF:(64:Int) < (s.length:Int)
 . have hw:tm k s=false:=by unfold tm;rw [aqj (show ¬s.length<=64 by omega)];simp
   simp +contextual only [apC IF,hw,↓an,aF,simprocAttr];exact Ext.refl _
 by_cases EP:s=[]
 . have hw:tm k s=false:=by unfold tm;rw [EP];simp
   simp +contextual only [apy IF,apC EP,hw,↓an,aF,simprocAttr];exact Ext.refl _
 have f64:=apy IF;have QF:=apy EP
 have hw:tm k s=(match lk (if k=5 then 39::s else s) with
  | .ok [w]=>decide (w.kind=k)&&decide (w.pos=0)&&decide (w.text≠[])&&decide ((if k=5 then 39::s else s)=(if w.kind=5 then 39::w.text else w.text))
  | _=>false):=by
  unfold tm;rw [aqf (show s.length<=64 by omega),aqf EP];rfl
 rw [hw];clear hw;have ad4:(1+s.length<=17179869184)=True:=apC (by omega);generalize bk:(if k=5 then 39::s else s)=z;have cV:(k=5/\z=39::s)\/(¬k=5/\z=s):=by
  by_cases cV:k=5
  . exact .inl ⟨cV,by rw [<-bk,apz cV]⟩
  . exact .inr ⟨cV,by rw [<-bk,apw cV]⟩
 clear bk;rcases cV with ⟨cV,bk⟩ | ⟨cV,bk⟩
 . simp +contextual only [f64,QF,apC cV,ad4,apS,aqk,↓an,aF,simprocAttr];rw [<-bk];clear bk;refine cu (S2 z h) ?_;rintro x aa ⟨aK,aj⟩;cases df:lk z with
   | error e=>
     rw [df] at aj;simp only at aj;subst aj;obtain ⟨ad,al,aS,c6⟩:=fw aa [.int .i64 0,.int .i64 0] [.int .i64 e.1,.int .i64 e.2];by_cases he:e.1=0
     . simp +contextual only [al,c6.g,apC he,↓an,aF,simprocAttr];exact aK.trans aS
     . simp +contextual only [al,c6.g,apy he,↓an,aF,simprocAttr];exact aK.trans aS
   | ok ws=>
     rw [df] at aj;simp only at aj;obtain ⟨v,rfl,S⟩:=aj;obtain ⟨ad,al,aS,c6⟩:=fw aa [.int .i64 0,.int .i64 0] [.int .i64 0,.int .i64 0];have gv:=(S.ext aS).v;have aA:=gv.len;have ck:=gv.one
     match ws,df,gv,aA with
     | [],_,gv,aA=>
       have fg:hJ v=some (.int .i64 0):=aA;simp +contextual only [al,c6.g,fg,ck.1,ck.2.1,↓an,aF,simprocAttr];exact aK.trans aS
     | [w],df,gv,aA=>
       have fg:hJ v=some (.int .i64 1):=aA;obtain ⟨b8,cX,sK,mH⟩:=gv.cr (k:=.i64) (i:=0) (by simp);have mh:fK 4 v (.int .i64 0)=some (.ptr b8 cX):=by simpa using sK
       have d0:fZ (ad.get b8) cX=some (.int .i64 w.kind):=by have:=mH.dJ (i:=0) (by simp [iE,b4.enc]);simpa [iE,b4.enc] using this
       have d2:fZ (ad.get b8) (cX+2)=some (.int .i64 w.pos):=by have:=mH.dJ (i:=2) (by simp [iE,b4.enc]);simpa [iE,b4.enc] using this
       have d3:fZ (ad.get b8) (cX+3)=some (.str w.text):=by have:=mH.dJ (i:=3) (by simp [iE,b4.enc]);simpa [iE,b4.enc] using this
       have k0:ml 4 (ad.get b8) cX=some (.agg [.int .i64 w.kind,.int .i64 w.num,.int .i64 w.pos,.str w.text]):=by have:=mH.fh (i:=0) (n:=4) (by simp [iE,b4.enc]);simpa [iE,b4.enc] using this
       by_cases bK:w.kind=k
       . by_cases bR:(w.pos:Int)=0
         . by_cases c3:w.text=[]
           . have px:((0:Int) < (w.text.length:Int))=False:=by rw [c3];simp
             simp +contextual only [al,c6.g,fg,ck.1,ck.2.1,mh,d0,d2,d3,k0,apC bK,apC bR,px,↓an,aF,simprocAttr];exact ⟨by rw [c3];simp,aK.trans aS⟩
           . have px:((0:Int) < (w.text.length:Int))=True:=apC (by have:=List.length_pos_iff.2 c3;omega);have aE:w.text.length<=64:=by
              have hm:w.kind=3\/w.kind=4\/w.kind=5:=by rw [bK];exact aB
              unfold lk at df
              split at df
              . cases df
              . split at df
                . cases df
                . exact S0 _ _ _ _ df w (by simp) hm
             simp +contextual only [al,c6.g,fg,ck.1,ck.2.1,mh,d0,d2,d3,k0,apC bK,apC bR,px,↓an,aF,simprocAttr];refine cu (Va _ _ _ w.text z ad (by omega)) ?_;rintro x aJ ⟨rfl,bU⟩;simp +contextual only [↓an,aF,simprocAttr];refine ⟨?_,(aK.trans aS).trans bU⟩;have Av:w.pos=0:=by omega
             simp [bK,Av,c3]
         . simp +contextual only [al,c6.g,fg,ck.1,ck.2.1,mh,d0,d2,d3,k0,apC bK,apy bR,↓an,aF,simprocAttr]
           exact ⟨by have:¬w.pos=0:=by omega
                     simp [this],aK.trans aS⟩
       . simp +contextual only [al,c6.g,fg,ck.1,ck.2.1,mh,d0,d2,d3,k0,apy bK,↓an,aF,simprocAttr]
         first | exact aK.trans aS | exact ⟨by simp [bK],aK.trans aS⟩
     | w::bx::ws,_,gv,aA=>
       have fg:(((ws.length+2:Nat):Int)=1)=False:=apy (by omega);have Jo:hJ v=some (.int .i64 ((ws.length+2:Nat):Int)):=aA;simp +contextual only [al,c6.g,Jo,fg,ck.1,ck.2.1,↓an,aF,simprocAttr];exact aK.trans aS
 . simp +contextual only [f64,QF,apy cV,↓an,aF,simprocAttr];rw [<-bk];clear bk;refine cu (S2 z h) ?_;rintro x aa ⟨aK,aj⟩;cases df:lk z with
   | error e=>
     rw [df] at aj;simp only at aj;subst aj;obtain ⟨ad,al,aS,c6⟩:=fw aa [.int .i64 0,.int .i64 0] [.int .i64 e.1,.int .i64 e.2];by_cases he:e.1=0
     . simp +contextual only [al,c6.g,apC he,↓an,aF,simprocAttr];exact aK.trans aS
     . simp +contextual only [al,c6.g,apy he,↓an,aF,simprocAttr];exact aK.trans aS
   | ok ws=>
     rw [df] at aj;simp only at aj;obtain ⟨v,rfl,S⟩:=aj;obtain ⟨ad,al,aS,c6⟩:=fw aa [.int .i64 0,.int .i64 0] [.int .i64 0,.int .i64 0];have gv:=(S.ext aS).v;have aA:=gv.len;have ck:=gv.one
     match ws,df,gv,aA with
     | [],_,gv,aA=>
       have fg:hJ v=some (.int .i64 0):=aA;simp +contextual only [al,c6.g,fg,ck.1,ck.2.1,↓an,aF,simprocAttr];exact aK.trans aS
     | [w],df,gv,aA=>
       have fg:hJ v=some (.int .i64 1):=aA;obtain ⟨b8,cX,sK,mH⟩:=gv.cr (k:=.i64) (i:=0) (by simp);have mh:fK 4 v (.int .i64 0)=some (.ptr b8 cX):=by simpa using sK
       have d0:fZ (ad.get b8) cX=some (.int .i64 w.kind):=by have:=mH.dJ (i:=0) (by simp [iE,b4.enc]);simpa [iE,b4.enc] using this
       have d2:fZ (ad.get b8) (cX+2)=some (.int .i64 w.pos):=by have:=mH.dJ (i:=2) (by simp [iE,b4.enc]);simpa [iE,b4.enc] using this
       have d3:fZ (ad.get b8) (cX+3)=some (.str w.text):=by have:=mH.dJ (i:=3) (by simp [iE,b4.enc]);simpa [iE,b4.enc] using this
       have k0:ml 4 (ad.get b8) cX=some (.agg [.int .i64 w.kind,.int .i64 w.num,.int .i64 w.pos,.str w.text]):=by have:=mH.fh (i:=0) (n:=4) (by simp [iE,b4.enc]);simpa [iE,b4.enc] using this
       by_cases bK:w.kind=k
       . by_cases bR:(w.pos:Int)=0
         . by_cases c3:w.text=[]
           . have px:((0:Int) < (w.text.length:Int))=False:=by rw [c3];simp
             simp +contextual only [al,c6.g,fg,ck.1,ck.2.1,mh,d0,d2,d3,k0,apC bK,apC bR,px,↓an,aF,simprocAttr];exact ⟨by rw [c3];simp,aK.trans aS⟩
           . have px:((0:Int) < (w.text.length:Int))=True:=apC (by have:=List.length_pos_iff.2 c3;omega);have aE:w.text.length<=64:=by
              have hm:w.kind=3\/w.kind=4\/w.kind=5:=by rw [bK];exact aB
              unfold lk at df
              split at df
              . cases df
              . split at df
                . cases df
                . exact S0 _ _ _ _ df w (by simp) hm
             simp +contextual only [al,c6.g,fg,ck.1,ck.2.1,mh,d0,d2,d3,k0,apC bK,apC bR,px,↓an,aF,simprocAttr];refine cu (Va _ _ _ w.text z ad (by omega)) ?_;rintro x aJ ⟨rfl,bU⟩;simp +contextual only [↓an,aF,simprocAttr];refine ⟨?_,(aK.trans aS).trans bU⟩;have Av:w.pos=0:=by omega
             simp [bK,Av,c3]
         . simp +contextual only [al,c6.g,fg,ck.1,ck.2.1,mh,d0,d2,d3,k0,apC bK,apy bR,↓an,aF,simprocAttr]
           exact ⟨by have:¬w.pos=0:=by omega
                     simp [this],aK.trans aS⟩
       . simp +contextual only [al,c6.g,fg,ck.1,ck.2.1,mh,d0,d2,d3,k0,apy bK,↓an,aF,simprocAttr]
         first | exact aK.trans aS | exact ⟨by simp [bK],aK.trans aS⟩
     | w::bx::ws,_,gv,aA=>
       have fg:(((ws.length+2:Nat):Int)=1)=False:=apy (by omega);have Jo:hJ v=some (.int .i64 ((ws.length+2:Nat):Int)):=aA;simp +contextual only [al,c6.g,Jo,fg,ck.1,ck.2.1,↓an,aF,simprocAttr];exact aK.trans aS
theorem ale (t:aQ):t.lr ew=(decide (hC t.k≠0)&&uU ew t.k t.s&&qm t.k t.n t.l.length&&decide (0<=t.a)&&decide (t.a<=65536)&&(kS t.k t.n t.l).2&&mu ew (kS t.k t.n t.l).1 t.l):=by cases t;rw [aQ.lr];rfl
end
end Go.Proofs.YtgmhjhgoamjeeaaGreatDoor
