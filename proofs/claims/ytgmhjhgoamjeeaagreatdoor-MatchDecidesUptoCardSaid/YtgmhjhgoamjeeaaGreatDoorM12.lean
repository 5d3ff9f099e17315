/- The chapter's functions, walked by the abstract machine: plain lemmas, no condition. Printed by a program from longer texts: names made short. -/
import Derived.Test.YtgmhjhgoamjeeaaGreatDoorM10
import Derived.Test.YtgmhjhgoamjeeaaGreatDoorM11
set_option linter.unusedSectionVars false
set_option linter.unusedSimpArgs false
set_option linter.unusedVariables false
set_option maxHeartbeats 64000000
noncomputable section
namespace Go.Proofs.YtgmhjhgoamjeeaaGreatDoor
section
open Go aX
theorem aL.nJ [Lay] {F:aM->Prop} {h:ae} {l:List aL} {v:V} (H:bY F h 5 (l.map aL.enc) v) {k:IntKind} {i:Nat} (aw:i<l.length):
 ∃b off cm,fX 5 v (.int k i)=some (.ptr b (off+i * 5))/\bM F h l[i].enc [.int .i64 l[i].k,.int .i64 l[i].n,.int .i64 l[i].a,.str l[i].s,cm]/\bY F h 5 (l[i].l.map aL.enc) cm/\
  (∀ab,Ext h ab->mW 5 (ab.get b) (off+i * 5)=some (.agg [.int .i64 l[i].k,.int .i64 l[i].n,.int .i64 l[i].a,.str l[i].s,cm]))/\
  (∀ab,Ext h ab->gq (ab.get b) (off+i * 5)=some (.int .i64 l[i].k))/\(∀ab,Ext h ab->gq (ab.get b) (off+i * 5+3)=some (.str l[i].s))/\(∀ab,Ext h ab->gq (ab.get b) (off+i * 5+4)=some cm):=by
 obtain ⟨b,off,u,aJ,aR,bP,b4,dD⟩:=H.at (k:=k) (i:=i) (by rw [arC];exact aw);rw [as8] at aR;obtain ⟨cm,rfl,L,_⟩:=aL.open aR;exact ⟨b,off,cm,aJ,aR,L,b4,fun ab e=>by simpa using dD ab e 0 (by omega),fun ab e=>by simpa using dD ab e 3 (by omega),fun ab e=>by simpa using dD ab e 4 (by omega)⟩
theorem amq {l:List aL} {i:Nat} (aw:i<l.length):b8 l[i].l<b8 l:=by have aa:=nb (arY aw);have ad:=size_eq l[i];omega
theorem Vq:∀(N:Nat) (l:List aL),b8 l<N->∀(m:Int) (v:V) (h:ae),bY Any h 5 (l.map aL.enc) v->cR Tryz.prog 60 [v,.int .i64 m] h fun x ab=>(∃n,x=.int .i64 n)/\ab=h
 | 0,l,aU,_,_,_,_=>by omega
 | N+1,l,aU,m,v,h,L=>by
   have ax:=L.len;have hle:=L.le;rw [arC] at ax hle;refine aaS.z rfl (cp ?_);unfold PW;simp +contextual only [↓aj,aC,simprocAttr];refine fR (fun r g=>r 0=v/\r 1=.int .i64 m/\g=h/\∃(i:Nat) (n:Int),r 5=.int .i64 n/\r 6=.int .i64 i/\i<=l.length) (fun r g=>l.length - (r 6).toN) ?_ ?_
   . exact ⟨by simp only [↓aj,bD,simprocAttr],by simp only [↓aj,bD,simprocAttr],rfl,0,0,by simp only [↓aj,bD,simprocAttr],by simp only [↓aj,bD,simprocAttr]<;>rfl,by omega⟩
   rintro r g ⟨a_,bH,rfl,i,n,bK,ed,aw⟩;unfold PX;by_cases aS:i<l.length
   . have g0:((i:Int) < (l.length:Int))=True:=arD (by omega);by_cases aV:n<=m
     . have nE:=arD aV;obtain ⟨b,off,wl,cd,X,eT,ld,fK,mV,tj⟩:=aL.nJ L (k:=.i64) aS;have d3:=mV g (Ext.refl g);have d4:=tj g (Ext.refl g);have dM:=hj aS (by unfold top at hle;omega);have eW:l[i].s.length<=top:=by obtain ⟨_,_,_,q⟩:=aL.open X;exact q
       have amG:=amH (P:=Tryz.prog) (n:=l[i].s.length) (by unfold top at eW;omega);simp +contextual only [a_,bH,bK,ed,ax,g0,nE,cd,d3,d4,amG,↓aj,aC,simprocAttr];refine cb (Vq N l[i].l (by have:=amq aS;omega) _ wl g eT) ?_;rintro x g2 ⟨⟨y,rfl⟩,rfl⟩;simp +contextual only [a_,bH,bK,ed,dM,↓aj,aC,simprocAttr];exact ⟨⟨i+1,_,rfl,rfl,aS⟩,by omega⟩
     . have nE:=arx aV;simp +contextual only [a_,bH,bK,ed,ax,g0,nE,↓aj,aC,simprocAttr];exact ⟨_,rfl⟩
   . have g0:((i:Int) < (l.length:Int))=False:=arx (by omega);simp +contextual only [a_,bH,bK,ed,ax,g0,↓aj,aC,simprocAttr];exact ⟨_,rfl⟩
theorem ajM (l:List aL) (m:Int) (v:V) (h:ae) (L:bY Any h 5 (l.map aL.enc) v):cR Tryz.prog 32 [v,.int .i64 m] h fun x ab=>(∃b,x=.bool b)/\ab=h:=by refine aaD.z rfl (cp ?_);unfold PB;simp +contextual only [↓aj,aC,simprocAttr];refine cb (Vq _ l (Nat.lt_succ_self _) m v h L) ?_;rintro x g2 ⟨⟨y,rfl⟩,rfl⟩;simp +contextual only [↓aj,aC,simprocAttr];exact ⟨_,rfl⟩
theorem WD (k n a:Int) (t z:List UInt8) (h:ae) (aG:t.length<=100000):cR Tryz.prog 108 [.agg [.int .i64 k,.int .i64 n,.int .i64 a,.str t],.str z] h fun x ab=>x=.bool (decide (z=(if k=5 then 39::t else t)))/\Ext h ab:=by
 refine Z_.z rfl (cp ?_);unfold OW;obtain ⟨aa,al,aJ,cH⟩:=fq h [.int .i64 k,.int .i64 n,.int .i64 a,.str t];by_cases aB:k=5
 . have ax:(1+t.length<=17179869184)=True:=arD (by omega);simp +contextual only [al,cH.g,arD aB,ax,ar2,arR,asb,↓aj,aC,simprocAttr];exact aJ
 . simp +contextual only [al,cH.g,arx aB,ar5,↓aj,aC,simprocAttr];exact aJ
theorem Ui:∀(f:Nat) (r:List UInt8) (p:Nat) (ws:List ca),nL f r p=.ok ws->∀w ∈ ws,w.kind=3\/w.kind=4\/w.kind=5->w.text.length<=64:=fun f r p ws h w hw aB=>by obtain ⟨_,g,_⟩:=LG (Ct f r p ws h w hw aB);exact g
theorem Na (k:Int) (aB:k=3\/k=4\/k=5) (s:List UInt8) (h:ae):cR Tryz.prog 104 [.int .i64 k,.str s] h fun x ab=>x=.bool (eF k s)/\Ext h ab:=by
 rw [<-aoW aB];refine Z8.z rfl (cp ?_);unfold OS;by_cases Jz:(64:Int) < (s.length:Int)
 . have hw:tP k s=false:=by unfold tP;rw [asp (show ¬s.length<=64 by omega)];simp
   simp +contextual only [arD Jz,hw,↓aj,aC,simprocAttr];exact Ext.refl _
 by_cases FA:s=[]
 . have hw:tP k s=false:=by unfold tP;rw [FA];simp
   simp +contextual only [arx Jz,arD FA,hw,↓aj,aC,simprocAttr];exact Ext.refl _
 have f64:=arx Jz;have RZ:=arx FA
 have hw:tP k s=(match lL (if k=5 then 39::s else s) with
  | .ok [w]=>decide (w.kind=k)&&decide (w.pos=0)&&decide (w.text≠[])&&decide ((if k=5 then 39::s else s)=(if w.kind=5 then 39::w.text else w.text))
  | _=>false):=by
  unfold tP;rw [asm (show s.length<=64 by omega),asm FA];rfl
 rw [hw];clear hw;have afM:(1+s.length<=17179869184)=True:=arD (by omega);generalize bk:(if k=5 then 39::s else s)=z;have cM:(k=5/\z=39::s)\/(¬k=5/\z=s):=by
  by_cases cM:k=5
  . exact .inl ⟨cM,by rw [<-bk,arz cM]⟩
  . exact .inr ⟨cM,by rw [<-bk,arw cM]⟩
 clear bk;rcases cM with ⟨cM,bk⟩ | ⟨cM,bk⟩
 . simp +contextual only [f64,RZ,arD cM,afM,arR,asb,↓aj,aC,simprocAttr];rw [<-bk];clear bk;refine cb (Uk z h) ?_;rintro x aa ⟨aJ,ak⟩;cases c':lL z with
   | error e=>
     rw [c'] at ak;simp only at ak;subst ak;obtain ⟨ad,ao,aR,c1⟩:=fy aa [.int .i64 0,.int .i64 0] [.int .i64 e.1,.int .i64 e.2];by_cases he:e.1=0
     . simp +contextual only [ao,c1.g,arD he,↓aj,aC,simprocAttr];exact aJ.trans aR
     . simp +contextual only [ao,c1.g,arx he,↓aj,aC,simprocAttr];exact aJ.trans aR
   | ok ws=>
     rw [c'] at ak;simp only at ak;obtain ⟨v,rfl,S⟩:=ak;obtain ⟨ad,ao,aR,c1⟩:=fy aa [.int .i64 0,.int .i64 0] [.int .i64 0,.int .i64 0];have fN:=(S.ext aR).v;have ax:=fN.len;have cw:=fN.one
     match ws,c',fN,ax with
     | [],_,fN,ax=>
       have fs:ht v=some (.int .i64 0):=ax;simp +contextual only [ao,c1.g,fs,cw.1,cw.2.1,↓aj,aC,simprocAttr];exact aJ.trans aR
     | [w],c',fN,ax=>
       have fs:ht v=some (.int .i64 1):=ax;obtain ⟨cc,da,s_,nr⟩:=fN.cd (k:=.i64) (i:=0) (by simp);have mS:fX 4 v (.int .i64 0)=some (.ptr cc da):=by simpa using s_
       have d0:gq (ad.get cc) da=some (.int .i64 w.kind):=by have:=nr.dR (i:=0) (by simp [i',ca.enc]);simpa [i',ca.enc] using this
       have d2:gq (ad.get cc) (da+2)=some (.int .i64 w.pos):=by have:=nr.dR (i:=2) (by simp [i',ca.enc]);simpa [i',ca.enc] using this
       have d3:gq (ad.get cc) (da+3)=some (.str w.text):=by have:=nr.dR (i:=3) (by simp [i',ca.enc]);simpa [i',ca.enc] using this
       have lr:mW 4 (ad.get cc) da=some (.agg [.int .i64 w.kind,.int .i64 w.num,.int .i64 w.pos,.str w.text]):=by have:=nr.fL (i:=0) (n:=4) (by simp [i',ca.enc]);simpa [i',ca.enc] using this
       by_cases bJ:w.kind=k
       . by_cases bO:(w.pos:Int)=0
         . by_cases c3:w.text=[]
           . have pZ:((0:Int) < (w.text.length:Int))=False:=by rw [c3];simp
             simp +contextual only [ao,c1.g,fs,cw.1,cw.2.1,mS,d0,d2,d3,lr,arD bJ,arD bO,pZ,↓aj,aC,simprocAttr];exact ⟨by rw [c3];simp,aJ.trans aR⟩
           . have pZ:((0:Int) < (w.text.length:Int))=True:=arD (by have:=List.length_pos_iff.2 c3;omega);have aG:w.text.length<=64:=by
              have hm:w.kind=3\/w.kind=4\/w.kind=5:=by rw [bJ];exact aB
              unfold lL at c'
              split at c'
              . cases c'
              . split at c'
                . cases c'
                . exact Ui _ _ _ _ c' w (by simp) hm
             simp +contextual only [ao,c1.g,fs,cw.1,cw.2.1,mS,d0,d2,d3,lr,arD bJ,arD bO,pZ,↓aj,aC,simprocAttr];refine cb (WD _ _ _ w.text z ad (by omega)) ?_;rintro x aH ⟨rfl,bP⟩;simp +contextual only [↓aj,aC,simprocAttr];refine ⟨?_,(aJ.trans aR).trans bP⟩;have A7:w.pos=0:=by omega
             simp [bJ,A7,c3]
         . simp +contextual only [ao,c1.g,fs,cw.1,cw.2.1,mS,d0,d2,d3,lr,arD bJ,arx bO,↓aj,aC,simprocAttr]
           exact ⟨by have:¬w.pos=0:=by omega
                     simp [this],aJ.trans aR⟩
       . simp +contextual only [ao,c1.g,fs,cw.1,cw.2.1,mS,d0,d2,d3,lr,arx bJ,↓aj,aC,simprocAttr]
         first | exact aJ.trans aR | exact ⟨by simp [bJ],aJ.trans aR⟩
     | w::bA::ws,_,fN,ax=>
       have fs:(((ws.length+2:Nat):Int)=1)=False:=arx (by omega);have Kf:ht v=some (.int .i64 ((ws.length+2:Nat):Int)):=ax;simp +contextual only [ao,c1.g,Kf,fs,cw.1,cw.2.1,↓aj,aC,simprocAttr];exact aJ.trans aR
 . simp +contextual only [f64,RZ,arx cM,↓aj,aC,simprocAttr];rw [<-bk];clear bk;refine cb (Uk z h) ?_;rintro x aa ⟨aJ,ak⟩;cases c':lL z with
   | error e=>
     rw [c'] at ak;simp only at ak;subst ak;obtain ⟨ad,ao,aR,c1⟩:=fy aa [.int .i64 0,.int .i64 0] [.int .i64 e.1,.int .i64 e.2];by_cases he:e.1=0
     . simp +contextual only [ao,c1.g,arD he,↓aj,aC,simprocAttr];exact aJ.trans aR
     . simp +contextual only [ao,c1.g,arx he,↓aj,aC,simprocAttr];exact aJ.trans aR
   | ok ws=>
     rw [c'] at ak;simp only at ak;obtain ⟨v,rfl,S⟩:=ak;obtain ⟨ad,ao,aR,c1⟩:=fy aa [.int .i64 0,.int .i64 0] [.int .i64 0,.int .i64 0];have fN:=(S.ext aR).v;have ax:=fN.len;have cw:=fN.one
     match ws,c',fN,ax with
     | [],_,fN,ax=>
       have fs:ht v=some (.int .i64 0):=ax;simp +contextual only [ao,c1.g,fs,cw.1,cw.2.1,↓aj,aC,simprocAttr];exact aJ.trans aR
     | [w],c',fN,ax=>
       have fs:ht v=some (.int .i64 1):=ax;obtain ⟨cc,da,s_,nr⟩:=fN.cd (k:=.i64) (i:=0) (by simp);have mS:fX 4 v (.int .i64 0)=some (.ptr cc da):=by simpa using s_
       have d0:gq (ad.get cc) da=some (.int .i64 w.kind):=by have:=nr.dR (i:=0) (by simp [i',ca.enc]);simpa [i',ca.enc] using this
       have d2:gq (ad.get cc) (da+2)=some (.int .i64 w.pos):=by have:=nr.dR (i:=2) (by simp [i',ca.enc]);simpa [i',ca.enc] using this
       have d3:gq (ad.get cc) (da+3)=some (.str w.text):=by have:=nr.dR (i:=3) (by simp [i',ca.enc]);simpa [i',ca.enc] using this
       have lr:mW 4 (ad.get cc) da=some (.agg [.int .i64 w.kind,.int .i64 w.num,.int .i64 w.pos,.str w.text]):=by have:=nr.fL (i:=0) (n:=4) (by simp [i',ca.enc]);simpa [i',ca.enc] using this
       by_cases bJ:w.kind=k
       . by_cases bO:(w.pos:Int)=0
         . by_cases c3:w.text=[]
           . have pZ:((0:Int) < (w.text.length:Int))=False:=by rw [c3];simp
             simp +contextual only [ao,c1.g,fs,cw.1,cw.2.1,mS,d0,d2,d3,lr,arD bJ,arD bO,pZ,↓aj,aC,simprocAttr];exact ⟨by rw [c3];simp,aJ.trans aR⟩
           . have pZ:((0:Int) < (w.text.length:Int))=True:=arD (by have:=List.length_pos_iff.2 c3;omega);have aG:w.text.length<=64:=by
              have hm:w.kind=3\/w.kind=4\/w.kind=5:=by rw [bJ];exact aB
              unfold lL at c'
              split at c'
              . cases c'
              . split at c'
                . cases c'
                . exact Ui _ _ _ _ c' w (by simp) hm
             simp +contextual only [ao,c1.g,fs,cw.1,cw.2.1,mS,d0,d2,d3,lr,arD bJ,arD bO,pZ,↓aj,aC,simprocAttr];refine cb (WD _ _ _ w.text z ad (by omega)) ?_;rintro x aH ⟨rfl,bP⟩;simp +contextual only [↓aj,aC,simprocAttr];refine ⟨?_,(aJ.trans aR).trans bP⟩;have A7:w.pos=0:=by omega
             simp [bJ,A7,c3]
         . simp +contextual only [ao,c1.g,fs,cw.1,cw.2.1,mS,d0,d2,d3,lr,arD bJ,arx bO,↓aj,aC,simprocAttr]
           exact ⟨by have:¬w.pos=0:=by omega
                     simp [this],aJ.trans aR⟩
       . simp +contextual only [ao,c1.g,fs,cw.1,cw.2.1,mS,d0,d2,d3,lr,arx bJ,↓aj,aC,simprocAttr]
         first | exact aJ.trans aR | exact ⟨by simp [bJ],aJ.trans aR⟩
     | w::bA::ws,_,fN,ax=>
       have fs:(((ws.length+2:Nat):Int)=1)=False:=arx (by omega);have Kf:ht v=some (.int .i64 ((ws.length+2:Nat):Int)):=ax;simp +contextual only [ao,c1.g,Kf,fs,cw.1,cw.2.1,↓aj,aC,simprocAttr];exact aJ.trans aR
theorem am7 (t:aL):t.lR eF=(decide (hW t.k≠0)&&vo eF t.k t.s&&qN t.k t.n t.l.length&&decide (0<=t.a)&&decide (t.a<=65536)&&(lf t.k t.n t.l).2&&na eF (lf t.k t.n t.l).1 t.l):=by cases t;rw [aL.lR];rfl
end
end Go.Proofs.YtgmhjhgoamjeeaaGreatDoor
