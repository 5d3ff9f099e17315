/- The chapter's functions, walked by the abstract machine: plain lemmas, no condition. Printed by a program from longer texts: names made short. -/
import Derived.Test.YtefceblncmdkhaaGreatDoorM8
import Derived.Test.YtefceblncmdkhaaGreatDoorM9
set_option linter.unusedSectionVars false
set_option linter.unusedSimpArgs false
set_option linter.unusedVariables false
set_option maxHeartbeats 64000000
noncomputable section
namespace Go.Proofs.YtefceblncmdkhaaGreatDoor
section
open Go bd
theorem aS.mH [Lay] {F:aU->Prop} {h:ah} {l:List aS} {v:V} (H:cq F h 5 (l.map aS.enc) v) {k:IntKind} {i:Nat} (au:i<l.length):
 ∃b off e3,iL 5 v (.int k i)=some (.ptr b (off+i * 5))/\cj F h l[i].enc [.int .i64 l[i].k,.int .i64 l[i].n,.int .i64 l[i].a,.str l[i].s,e3]/\cq F h 5 (l[i].l.map aS.enc) e3/\
  (∀aa,Ext h aa->o2 5 (aa.get b) (off+i * 5)=some (.agg [.int .i64 l[i].k,.int .i64 l[i].n,.int .i64 l[i].a,.str l[i].s,e3]))/\
  (∀aa,Ext h aa->jC (aa.get b) (off+i * 5)=some (.int .i64 l[i].k))/\(∀aa,Ext h aa->jC (aa.get b) (off+i * 5+3)=some (.str l[i].s))/\(∀aa,Ext h aa->jC (aa.get b) (off+i * 5+4)=some e3):=by
 obtain ⟨b,off,u,an,aN,cv,hh,ko⟩:=H.at (k:=k) (i:=i) (by rw [anc];exact au);rw [List.getElem_map] at aN;obtain ⟨e3,rfl,L,_⟩:=aS.open aN;exact ⟨b,off,e3,an,aN,L,hh,fun aa e=>by simpa using ko aa e 0 (by omega),fun aa e=>by simpa using ko aa e 3 (by omega),fun aa e=>by simpa using ko aa e 4 (by omega)⟩
theorem Ue (k n a:Int) (t z:List UInt8) (h:ah) (aE:t.length<=100000):b' Tryz.prog 121 [.agg [.int .i64 k,.int .i64 n,.int .i64 a,.str t],.str z] h fun x aa=>x=.bool (decide (z=(if k=5 then 39::t else t)))/\Ext h aa:=by
 refine W3.z rfl (cp ?_);unfold MB;obtain ⟨J,ag,an,aG⟩:=gb h [.int .i64 k,.int .i64 n,.int .i64 a,.str t];by_cases ay:k=5
 . have ax:(1+t.length<=17179869184)=True:=am_ (by omega);simp only [ag,aG.g,am_ ay,ax,anz,ang,anh,↓ab,ae,simprocAttr];exact an
 . simp only [ag,aG.g,am2 ay,anw,↓ab,ae,simprocAttr];exact an
theorem R5:∀(f:Nat) (r:List UInt8) (p:Nat) (ws:List cb),oi f r p=.ok ws->∀w ∈ ws,w.kind=3\/w.kind=4\/w.kind=5->w.text.length<=64:=fun f r p ws h w hw ay=>by obtain ⟨_,g,_⟩:=J1 (BT f r p ws h w hw ay);exact g
theorem K8 (k:Int) (ay:k=3\/k=4\/k=5) (s:List UInt8) (h:ah):b' Tryz.prog 98 [.int .i64 k,.str s] h fun x aa=>x=.bool (dB k s)/\Ext h aa:=by
 rw [<-ak3 ay];refine Yj.z rfl (cp ?_);unfold Ok;by_cases H6:(64:Int) < (s.length:Int)
 . have hw:tf k s=false:=by unfold tf;rw [anL (show ¬s.length<=64 by omega)];simp
   simp only [am_ H6,hw,↓ab,ae,simprocAttr];exact Ext.refl _
 by_cases n2:s=[]
 . have hw:tf k s=false:=by unfold tf;rw [n2];simp
   simp only [am2 H6,am_ n2,hw,↓ab,ae,simprocAttr];exact Ext.refl _
 have f64:=am2 H6;have PI:=am2 n2
 have hw:tf k s=(match l' (if k=5 then 39::s else s) with
  | .ok [w]=>decide (w.kind=k)&&decide (w.pos=0)&&decide (w.text≠[])&&decide ((if k=5 then 39::s else s)=(if w.kind=5 then 39::w.text else w.text))
  | _=>false):=by
  unfold tf;rw [anG (show s.length<=64 by omega),anG n2];rfl
 rw [hw];clear hw;have oW:(1+s.length<=17179869184)=True:=am_ (by omega);generalize bG:(if k=5 then 39::s else s)=z;have b0:(k=5/\z=39::s)\/(¬k=5/\z=s):=by
  by_cases b0:k=5
  . exact .inl ⟨b0,by rw [<-bG,anb b0]⟩
  . exact .inr ⟨b0,by rw [<-bG,am7 b0]⟩
 clear bG;rcases b0 with ⟨b0,bG⟩ | ⟨b0,bG⟩
 . simp only [f64,PI,am_ b0,oW,ang,anh,↓ab,ae,simprocAttr];rw [<-bG];clear bG;refine bw (R7 z h) ?_;rintro x J ⟨an,ar⟩;cases cG:l' z with
   | error e=>
     rw [cG] at ar;simp only at ar;subst ar;obtain ⟨ad,av,aN,e4⟩:=jq J [.int .i64 0,.int .i64 0] [.int .i64 e.1,.int .i64 e.2];by_cases he:e.1=0
     . simp only [av,e4.g,am_ he,↓ab,ae,simprocAttr];exact an.trans aN
     . simp only [av,e4.g,am2 he,↓ab,ae,simprocAttr];exact an.trans aN
   | ok ws=>
     rw [cG] at ar;simp only at ar;obtain ⟨v,rfl,S⟩:=ar;obtain ⟨ad,av,aN,e4⟩:=jq J [.int .i64 0,.int .i64 0] [.int .i64 0,.int .i64 0];have h6:=(S.ext aN).v;have ax:=h6.len;have c4:=h6.one
     match ws,cG,h6,ax with
     | [],_,h6,ax=>
       have gm:mJ v=some (.int .i64 0):=ax;simp only [av,e4.g,gm,c4.1,c4.2.1,↓ab,ae,simprocAttr];exact an.trans aN
     | [w],cG,h6,ax=>
       have gm:mJ v=some (.int .i64 1):=ax;obtain ⟨b8,dc,hP,dp⟩:=h6.dG (k:=.i64) (i:=0) (by simp);have sK:iL 4 v (.int .i64 0)=some (.ptr b8 dc):=by simpa using hP
       have d0:jC (ad.get b8) dc=some (.int .i64 w.kind):=by have:=dp.eA (i:=0) (by simp [jH,cb.enc]);simpa [jH,cb.enc] using this
       have d2:jC (ad.get b8) (dc+2)=some (.int .i64 w.pos):=by have:=dp.eA (i:=2) (by simp [jH,cb.enc]);simpa [jH,cb.enc] using this
       have d3:jC (ad.get b8) (dc+3)=some (.str w.text):=by have:=dp.eA (i:=3) (by simp [jH,cb.enc]);simpa [jH,cb.enc] using this
       have hJ:o2 4 (ad.get b8) dc=some (.agg [.int .i64 w.kind,.int .i64 w.num,.int .i64 w.pos,.str w.text]):=by have:=dp.ka (i:=0) (n:=4) (by simp [jH,cb.enc]);simpa [jH,cb.enc] using this
       by_cases bW:w.kind=k
       . by_cases cw:(w.pos:Int)=0
         . by_cases c3:w.text=[]
           . have p4:((0:Int) < (w.text.length:Int))=False:=by rw [c3];simp
             simp only [av,e4.g,gm,c4.1,c4.2.1,sK,d0,d2,d3,hJ,am_ bW,am_ cw,p4,↓ab,ae,simprocAttr];exact ⟨by rw [c3];simp,an.trans aN⟩
           . have p4:((0:Int) < (w.text.length:Int))=True:=am_ (by have:=List.length_pos_iff.2 c3;omega);have aE:w.text.length<=64:=by
              have hm:w.kind=3\/w.kind=4\/w.kind=5:=by rw [bW];exact ay
              unfold l' at cG
              split at cG
              . cases cG
              . split at cG
                . cases cG
                . exact R5 _ _ _ _ cG w (by simp) hm
             simp only [av,e4.g,gm,c4.1,c4.2.1,sK,d0,d2,d3,hJ,am_ bW,am_ cw,p4,↓ab,ae,simprocAttr];refine bw (Ue _ _ _ w.text z ad (by omega)) ?_;rintro x aD ⟨rfl,cv⟩;simp only [↓ab,ae,simprocAttr];refine ⟨?_,(an.trans aN).trans cv⟩;have Hg:w.pos=0:=by omega
             simp [bW,Hg,c3]
         . simp only [av,e4.g,gm,c4.1,c4.2.1,sK,d0,d2,d3,hJ,am_ bW,am2 cw,↓ab,ae,simprocAttr]
           exact ⟨by have:¬w.pos=0:=by omega
                     simp [this],an.trans aN⟩
       . simp only [av,e4.g,gm,c4.1,c4.2.1,sK,d0,d2,d3,hJ,am2 bW,↓ab,ae,simprocAttr]
         first | exact an.trans aN | exact ⟨by simp [bW],an.trans aN⟩
     | w::b1::ws,_,h6,ax=>
       have gm:(((ws.length+2:Nat):Int)=1)=False:=am2 (by omega);have II:mJ v=some (.int .i64 ((ws.length+2:Nat):Int)):=ax;simp only [av,e4.g,II,gm,c4.1,c4.2.1,↓ab,ae,simprocAttr];exact an.trans aN
 . simp only [f64,PI,am2 b0,↓ab,ae,simprocAttr];rw [<-bG];clear bG;refine bw (R7 z h) ?_;rintro x J ⟨an,ar⟩;cases cG:l' z with
   | error e=>
     rw [cG] at ar;simp only at ar;subst ar;obtain ⟨ad,av,aN,e4⟩:=jq J [.int .i64 0,.int .i64 0] [.int .i64 e.1,.int .i64 e.2];by_cases he:e.1=0
     . simp only [av,e4.g,am_ he,↓ab,ae,simprocAttr];exact an.trans aN
     . simp only [av,e4.g,am2 he,↓ab,ae,simprocAttr];exact an.trans aN
   | ok ws=>
     rw [cG] at ar;simp only at ar;obtain ⟨v,rfl,S⟩:=ar;obtain ⟨ad,av,aN,e4⟩:=jq J [.int .i64 0,.int .i64 0] [.int .i64 0,.int .i64 0];have h6:=(S.ext aN).v;have ax:=h6.len;have c4:=h6.one
     match ws,cG,h6,ax with
     | [],_,h6,ax=>
       have gm:mJ v=some (.int .i64 0):=ax;simp only [av,e4.g,gm,c4.1,c4.2.1,↓ab,ae,simprocAttr];exact an.trans aN
     | [w],cG,h6,ax=>
       have gm:mJ v=some (.int .i64 1):=ax;obtain ⟨b8,dc,hP,dp⟩:=h6.dG (k:=.i64) (i:=0) (by simp);have sK:iL 4 v (.int .i64 0)=some (.ptr b8 dc):=by simpa using hP
       have d0:jC (ad.get b8) dc=some (.int .i64 w.kind):=by have:=dp.eA (i:=0) (by simp [jH,cb.enc]);simpa [jH,cb.enc] using this
       have d2:jC (ad.get b8) (dc+2)=some (.int .i64 w.pos):=by have:=dp.eA (i:=2) (by simp [jH,cb.enc]);simpa [jH,cb.enc] using this
       have d3:jC (ad.get b8) (dc+3)=some (.str w.text):=by have:=dp.eA (i:=3) (by simp [jH,cb.enc]);simpa [jH,cb.enc] using this
       have hJ:o2 4 (ad.get b8) dc=some (.agg [.int .i64 w.kind,.int .i64 w.num,.int .i64 w.pos,.str w.text]):=by have:=dp.ka (i:=0) (n:=4) (by simp [jH,cb.enc]);simpa [jH,cb.enc] using this
       by_cases bW:w.kind=k
       . by_cases cw:(w.pos:Int)=0
         . by_cases c3:w.text=[]
           . have p4:((0:Int) < (w.text.length:Int))=False:=by rw [c3];simp
             simp only [av,e4.g,gm,c4.1,c4.2.1,sK,d0,d2,d3,hJ,am_ bW,am_ cw,p4,↓ab,ae,simprocAttr];exact ⟨by rw [c3];simp,an.trans aN⟩
           . have p4:((0:Int) < (w.text.length:Int))=True:=am_ (by have:=List.length_pos_iff.2 c3;omega);have aE:w.text.length<=64:=by
              have hm:w.kind=3\/w.kind=4\/w.kind=5:=by rw [bW];exact ay
              unfold l' at cG
              split at cG
              . cases cG
              . split at cG
                . cases cG
                . exact R5 _ _ _ _ cG w (by simp) hm
             simp only [av,e4.g,gm,c4.1,c4.2.1,sK,d0,d2,d3,hJ,am_ bW,am_ cw,p4,↓ab,ae,simprocAttr];refine bw (Ue _ _ _ w.text z ad (by omega)) ?_;rintro x aD ⟨rfl,cv⟩;simp only [↓ab,ae,simprocAttr];refine ⟨?_,(an.trans aN).trans cv⟩;have Hg:w.pos=0:=by omega
             simp [bW,Hg,c3]
         . simp only [av,e4.g,gm,c4.1,c4.2.1,sK,d0,d2,d3,hJ,am_ bW,am2 cw,↓ab,ae,simprocAttr]
           exact ⟨by have:¬w.pos=0:=by omega
                     simp [this],an.trans aN⟩
       . simp only [av,e4.g,gm,c4.1,c4.2.1,sK,d0,d2,d3,hJ,am2 bW,↓ab,ae,simprocAttr]
         first | exact an.trans aN | exact ⟨by simp [bW],an.trans aN⟩
     | w::b1::ws,_,h6,ax=>
       have gm:(((ws.length+2:Nat):Int)=1)=False:=am2 (by omega);have II:mJ v=some (.int .i64 ((ws.length+2:Nat):Int)):=ax;simp only [av,e4.g,II,gm,c4.1,c4.2.1,↓ab,ae,simprocAttr];exact an.trans aN
theorem EH {k:Int} (h:fo k≠0):k=1\/k=2\/k=3\/k=4\/k=10\/k=13\/k=11\/k=12\/k=14\/k=15\/k=16\/k=20\/k=21\/k=22\/k=23\/k=24\/k=25\/k=26\/k=28\/k=35\/k=37\/k=38\/k=34\/k=36\/k=39\/k=31\/k=27\/k=29\/k=30\/k=32\/k=33\/k=45\/k=46\/k=47\/k=51\/k=52\/k=53\/k=50:=by
 cases aJ:pK k with
 | none=>exact absurd (TY aJ) h
 | some r=>
   have hm:=FP (l:=s6) aJ;simp only [s6,ans,aoi,List.not_mem_nil,aoN] at hm;omega
theorem aic (h:ah):b' Tryz.prog 100 [] h fun x aa=>x=.slice (aC h.next) 0 8 8/\aa=h.new (.a_ (ea opsL) 0 false):=by refine WM.z rfl (cp ?_);unfold Mf;simp only [↓ab,ae,simprocAttr];rfl
theorem akp (t:aS) (ay:fo t.k≠0) (ai:List V) (h:ah) (H:cj Any h t.enc ai):b' Tryz.prog 79 [.agg ai] h fun x aa=>x=.bool (qK dB t.k t.s)/\Ext h aa:=by
 obtain ⟨e3,rfl,L,aM⟩:=aS.open H;have ol:=L.one;obtain ⟨k,n,a,s,l⟩:=t;simp only [aS.k,aS.n,aS.a,aS.s,aS.l] at *;refine X5.z rfl (cp ?_);unfold N5;obtain ⟨J,ag,an,aG⟩:=gb h [.int .i64 k,.int .i64 n,.int .i64 a,.str s,e3];have g1:=aG.g;clear L H;rcases EH ay with rfl | rfl | rfl | rfl | rfl | rfl | rfl | rfl | rfl | rfl | rfl | rfl | rfl | rfl | rfl | rfl | rfl | rfl | rfl | rfl | rfl | rfl | rfl | rfl | rfl | rfl | rfl | rfl | rfl | rfl | rfl | rfl | rfl | rfl | rfl | rfl | rfl | rfl
 . simp only [ol.1,ol.2.1,ag,g1,↓ab,ae,simprocAttr];refine bw (o6 5 s aM (by simp) J) ?_;rintro x ad ⟨rfl,aN⟩;simp only [↓ab,ae,simprocAttr];exact ⟨by rfl,an.trans aN⟩
 . simp only [ol.1,ol.2.1,ag,g1,↓ab,ae,simprocAttr];refine bw (o6 3 s aM (by simp) J) ?_;rintro x ad ⟨rfl,aN⟩;simp only [↓ab,ae,simprocAttr];exact ⟨by rfl,an.trans aN⟩
 . simp only [ol.1,ol.2.1,ag,g1,↓ab,ae,simprocAttr];exact ⟨by rfl,an⟩
 . simp only [ol.1,ol.2.1,ag,g1,↓ab,ae,simprocAttr];exact ⟨by rfl,an⟩
 . simp only [ol.1,ol.2.1,ag,g1,↓ab,ae,simprocAttr];exact ⟨by rfl,an⟩
 . simp only [ol.1,ol.2.1,ag,g1,↓ab,ae,simprocAttr];exact ⟨by rfl,an⟩
 . simp only [ol.1,ol.2.1,ag,g1,↓ab,ae,simprocAttr];refine bw (o6 3 s aM (by simp) J) ?_;rintro x ad ⟨rfl,aN⟩;simp only [↓ab,ae,simprocAttr];exact ⟨by rfl,an.trans aN⟩
 . simp only [ol.1,ol.2.1,ag,g1,↓ab,ae,simprocAttr];exact ⟨by rfl,an⟩
 . simp only [ol.1,ol.2.1,ag,g1,↓ab,ae,simprocAttr];exact ⟨by rfl,an⟩
 . simp only [ol.1,ol.2.1,ag,g1,↓ab,ae,simprocAttr];exact ⟨by rfl,an⟩
 . simp only [ol.1,ol.2.1,ag,g1,↓ab,ae,simprocAttr];refine bw (o6 4 s aM (by simp) J) ?_;rintro x ad ⟨rfl,aN⟩;simp only [↓ab,ae,simprocAttr];exact ⟨by rfl,an.trans aN⟩
 . simp only [ol.1,ol.2.1,ag,g1,↓ab,ae,simprocAttr];exact ⟨by rfl,an⟩
 . simp only [ol.1,ol.2.1,ag,g1,↓ab,ae,simprocAttr];have bo:qK dB 21 s=decide ((s.length:Int)<=4096):=by
    show decide (s.length<=4096)=_;exact decide_eq_decide.2 ⟨fun q=>by omega,fun q=>by omega⟩
   exact ⟨by rw [bo],an⟩
 . simp only [ol.1,ol.2.1,ag,g1,↓ab,ae,simprocAttr];exact ⟨by rfl,an⟩
 . simp only [ol.1,ol.2.1,ag,g1,↓ab,ae,simprocAttr];exact ⟨by rfl,an⟩
 . simp only [ol.1,ol.2.1,ag,g1,↓ab,ae,simprocAttr];refine bw (o6 3 s aM (by simp) J) ?_;rintro x ad ⟨rfl,aN⟩;simp only [↓ab,ae,simprocAttr];exact ⟨by rfl,an.trans aN⟩
 . simp only [ol.1,ol.2.1,ag,g1,↓ab,ae,simprocAttr];refine bw (o6 4 s aM (by simp) J) ?_;rintro x ad ⟨rfl,aN⟩;simp only [↓ab,ae,simprocAttr];exact ⟨by rfl,an.trans aN⟩
 . simp only [ol.1,ol.2.1,ag,g1,↓ab,ae,simprocAttr];exact ⟨by rfl,an⟩
 . simp only [ol.1,ol.2.1,ag,g1,↓ab,ae,simprocAttr];exact ⟨by rfl,an⟩
 . simp only [ol.1,ol.2.1,ag,g1,↓ab,ae,simprocAttr];exact ⟨by rfl,an⟩
 . simp only [ol.1,ol.2.1,ag,g1,↓ab,ae,simprocAttr];exact ⟨by rfl,an⟩
 . simp only [ol.1,ol.2.1,ag,g1,↓ab,ae,simprocAttr];refine bw (aic J) ?_;rintro x ad ⟨rfl,rfl⟩;have aN:Ext J (J.new (.a_ (ea opsL) 0 false)):=(Ext.refl J).new _;have g2:=(aG.ext aN).g;simp only [g1,g2,↓ab,ae,simprocAttr];refine ey (uc s opsL _ 8 _ (by decide) (by rw [ju])) ?_;simp only [g1,g2,↓ab,ae,simprocAttr];exact ⟨by rfl,an.trans aN⟩
 . simp only [ol.1,ol.2.1,ag,g1,↓ab,ae,simprocAttr];exact ⟨by rfl,an⟩
 . simp only [ol.1,ol.2.1,ag,g1,↓ab,ae,simprocAttr];exact ⟨by rfl,an⟩
 . simp only [ol.1,ol.2.1,ag,g1,↓ab,ae,simprocAttr];exact ⟨by rfl,an⟩
 . simp only [ol.1,ol.2.1,ag,g1,↓ab,ae,simprocAttr];exact ⟨by rfl,an⟩
 . simp only [ol.1,ol.2.1,ag,g1,↓ab,ae,simprocAttr];exact ⟨by rfl,an⟩
 . simp only [ol.1,ol.2.1,ag,g1,↓ab,ae,simprocAttr];exact ⟨by rfl,an⟩
 . simp only [ol.1,ol.2.1,ag,g1,↓ab,ae,simprocAttr];exact ⟨by rfl,an⟩
 . simp only [ol.1,ol.2.1,ag,g1,↓ab,ae,simprocAttr];exact ⟨by rfl,an⟩
 . simp only [ol.1,ol.2.1,ag,g1,↓ab,ae,simprocAttr];exact ⟨by rfl,an⟩
 . simp only [ol.1,ol.2.1,ag,g1,↓ab,ae,simprocAttr];exact ⟨by rfl,an⟩
 . simp only [ol.1,ol.2.1,ag,g1,↓ab,ae,simprocAttr];refine bw (o6 3 s aM (by simp) J) ?_;rintro x ad ⟨rfl,aN⟩;simp only [↓ab,ae,simprocAttr];exact ⟨by rfl,an.trans aN⟩
 . simp only [ol.1,ol.2.1,ag,g1,↓ab,ae,simprocAttr];refine bw (o6 4 s aM (by simp) J) ?_;rintro x ad ⟨rfl,aN⟩;simp only [↓ab,ae,simprocAttr];exact ⟨by rfl,an.trans aN⟩
 . simp only [ol.1,ol.2.1,ag,g1,↓ab,ae,simprocAttr];refine bw (o6 4 s aM (by simp) J) ?_;rintro x ad ⟨rfl,aN⟩;simp only [↓ab,ae,simprocAttr];exact ⟨by rfl,an.trans aN⟩
 . simp only [ol.1,ol.2.1,ag,g1,↓ab,ae,simprocAttr];exact ⟨by rfl,an⟩
 . simp only [ol.1,ol.2.1,ag,g1,↓ab,ae,simprocAttr];exact ⟨by rfl,an⟩
 . simp only [ol.1,ol.2.1,ag,g1,↓ab,ae,simprocAttr];refine bw (o6 3 s aM (by simp) J) ?_;rintro x ad ⟨rfl,aN⟩;simp only [↓ab,ae,simprocAttr];exact ⟨by rfl,an.trans aN⟩
theorem ahA (t:aS) (ay:fo t.k≠0) (ai:List V) (h:ah) (H:cj Any h t.enc ai):b' Tryz.prog 80 [.agg ai] h fun x aa=>x=.bool (h2 t.k t.n t.l.length)/\Ext h aa:=by
 obtain ⟨e3,rfl,L,aM⟩:=aS.open H;have ol:=L.one;have ax:=L.len;rw [List.length_map] at ax;obtain ⟨k,n,a,s,l⟩:=t;simp only [aS.k,aS.n,aS.a,aS.s,aS.l] at *;refine X6.z rfl (cp ?_);unfold N6;obtain ⟨J,ag,an,aG⟩:=gb h [.int .i64 k,.int .i64 n,.int .i64 a,.str s,e3];have g1:=aG.g;clear L H;rcases EH ay with rfl | rfl | rfl | rfl | rfl | rfl | rfl | rfl | rfl | rfl | rfl | rfl | rfl | rfl | rfl | rfl | rfl | rfl | rfl | rfl | rfl | rfl | rfl | rfl | rfl | rfl | rfl | rfl | rfl | rfl | rfl | rfl | rfl | rfl | rfl | rfl | rfl | rfl
 . simp only [ol.1,ol.2.1,ag,g1,↓ab,ae,simprocAttr];exact ⟨by rfl,an⟩
 . simp only [ol.1,ol.2.1,ag,g1,↓ab,ae,simprocAttr];exact ⟨by rfl,an⟩
 . simp only [ol.1,ol.2.1,ag,g1,↓ab,ae,simprocAttr];exact ⟨by rfl,an⟩
 . simp only [ol.1,ol.2.1,ag,g1,↓ab,ae,simprocAttr];exact ⟨by rfl,an⟩
 . simp only [ol.1,ol.2.1,ag,g1,↓ab,ae,simprocAttr];exact ⟨by rfl,an⟩
 . simp only [ol.1,ol.2.1,ag,g1,↓ab,ae,simprocAttr];exact ⟨by rfl,an⟩
 . simp only [ol.1,ol.2.1,ag,g1,↓ab,ae,simprocAttr];exact ⟨by rfl,an⟩
 . by_cases b8:-1073741824<=n
   . simp only [ol.1,ol.2.1,ag,g1,x' b8,↓ab,ae,simprocAttr];exact ⟨by simp [h2,b8],an⟩
   . simp only [ol.1,ol.2.1,ag,g1,AN (Int.not_le.1 b8),am2 b8,↓ab,ae,simprocAttr];exact ⟨by simp [h2,b8],an⟩
 . by_cases b8:n=0
   . simp only [ol.1,ol.2.1,ag,g1,am_ b8,↓ab,ae,simprocAttr];exact ⟨by simp [h2,b8],an⟩
   . simp only [ol.1,ol.2.1,ag,g1,am2 b8,↓ab,ae,simprocAttr];exact ⟨by simp [h2,b8],an⟩
 . simp only [ol.1,ol.2.1,ag,g1,↓ab,ae,simprocAttr];exact ⟨by rfl,an⟩
 . simp only [ol.1,ol.2.1,ag,g1,↓ab,ae,simprocAttr];exact ⟨by rfl,an⟩
 . by_cases b8:-1073741824<=n
   . simp only [ol.1,ol.2.1,ag,g1,x' b8,↓ab,ae,simprocAttr];exact ⟨by simp [h2,b8],an⟩
   . simp only [ol.1,ol.2.1,ag,g1,AN (Int.not_le.1 b8),am2 b8,↓ab,ae,simprocAttr];exact ⟨by simp [h2,b8],an⟩
 . simp only [ol.1,ol.2.1,ag,g1,↓ab,ae,simprocAttr];exact ⟨by rfl,an⟩
 . simp only [ol.1,ol.2.1,ag,g1,↓ab,ae,simprocAttr];exact ⟨by rfl,an⟩
 . by_cases b8:n=0
   . simp only [ol.1,ol.2.1,ag,g1,am_ b8,↓ab,ae,simprocAttr];exact ⟨by simp [h2,b8],an⟩
   . simp only [ol.1,ol.2.1,ag,g1,am2 b8,↓ab,ae,simprocAttr];exact ⟨by simp [h2,b8],an⟩
 . simp only [ol.1,ol.2.1,ag,g1,↓ab,ae,simprocAttr];exact ⟨by rfl,an⟩
 . simp only [ol.1,ol.2.1,ag,g1,↓ab,ae,simprocAttr];exact ⟨by rfl,an⟩
 . simp only [ol.1,ol.2.1,ag,g1,↓ab,ae,simprocAttr];exact ⟨by rfl,an⟩
 . simp only [ol.1,ol.2.1,ag,g1,↓ab,ae,simprocAttr];exact ⟨by rfl,an⟩
 . simp only [ol.1,ol.2.1,ag,g1,↓ab,ae,simprocAttr];exact ⟨by rfl,an⟩
 . simp only [ol.1,ol.2.1,ag,g1,↓ab,ae,simprocAttr];exact ⟨by rfl,an⟩
 . simp only [ol.1,ol.2.1,ag,g1,↓ab,ae,simprocAttr];exact ⟨by rfl,an⟩
 . simp only [ol.1,ol.2.1,ag,g1,↓ab,ae,simprocAttr];exact ⟨by rfl,an⟩
 . simp only [ol.1,ol.2.1,ag,g1,↓ab,ae,simprocAttr];exact ⟨by rfl,an⟩
 . simp only [ol.1,ol.2.1,ag,g1,↓ab,ae,simprocAttr];exact ⟨by rfl,an⟩
 . simp only [ol.1,ol.2.1,ag,g1,↓ab,ae,simprocAttr];exact ⟨by rfl,an⟩
 . simp only [ol.1,ol.2.1,ag,g1,↓ab,ae,simprocAttr];exact ⟨by rfl,an⟩
 . simp only [ol.1,ol.2.1,ag,g1,↓ab,ae,simprocAttr];exact ⟨by rfl,an⟩
 . simp only [ol.1,ol.2.1,ag,g1,↓ab,ae,simprocAttr];exact ⟨by rfl,an⟩
 . simp only [ol.1,ol.2.1,ag,g1,↓ab,ae,simprocAttr];exact ⟨by rfl,an⟩
 . simp only [ol.1,ol.2.1,ag,g1,↓ab,ae,simprocAttr];exact ⟨by rfl,an⟩
 . simp only [ol.1,ol.2.1,ag,g1,↓ab,ae,simprocAttr];exact ⟨by rfl,an⟩
 . simp only [ol.1,ol.2.1,ag,g1,↓ab,ae,simprocAttr];exact ⟨by rfl,an⟩
 . simp only [ol.1,ol.2.1,ag,g1,↓ab,ae,simprocAttr];exact ⟨by rfl,an⟩
 . simp only [ol.1,ol.2.1,ag,g1,↓ab,ae,simprocAttr];exact ⟨by rfl,an⟩
 . simp only [ol.1,ol.2.1,ag,g1,↓ab,ae,simprocAttr];exact ⟨by rfl,an⟩
 . simp only [ol.1,ol.2.1,ag,g1,↓ab,ae,simprocAttr];exact ⟨by rfl,an⟩
 . by_cases b8:0<=n
   . by_cases cF:n<=64
     . simp only [ol.1,ol.2.1,ag,g1,ax,x' b8,am_ cF,↓ab,ae,simprocAttr];exact ⟨by simp [h2,b8,cF],an⟩
     . simp only [ol.1,ol.2.1,ag,g1,x' b8,am2 cF,↓ab,ae,simprocAttr];exact ⟨by simp [h2,b8,cF],an⟩
   . simp only [ol.1,ol.2.1,ag,g1,AN (Int.not_le.1 b8),am2 b8,↓ab,ae,simprocAttr];exact ⟨by simp [h2,b8],an⟩
theorem iO (x m:Int) (hm:m<=2000000000) (h:ah):b' Tryz.prog 101 [.int .i64 x,.int .i64 m] h fun y aa=>c_ h.next aa 1 y (List.replicate m.toNat x).length (mG (List.replicate m.toNat x))/\Ext h aa:=by
 refine WN.z rfl (cp ?_);unfold Mg;simp only [↓ab,ae,simprocAttr];refine fS (fun r g=>r 0=.int .i64 x/\r 1=.int .i64 m/\∃(i:Nat) (w:V),r 5=w/\r 6=.int .i64 i/\i<=m.toNat/\c_ h.next g 1 w i (mG (List.replicate i x))/\Ext h g) (fun r g=>m.toNat - (r 6).toN) ?_ ?_
 . exact ⟨by simp only [↓ab,cx,simprocAttr],by simp only [↓ab,cx,simprocAttr],0,.cc,by simp only [↓ab,cx,simprocAttr],by simp only [↓ab,cx,simprocAttr]<;>rfl,by omega,⟨rfl,rfl⟩,Ext.refl h⟩
 rintro r g ⟨bb,bT,i,w,dC,gI,au,W,E⟩;unfold Mh;by_cases aL:i<m.toNat
 . have g0:((i:Int)<m)=True:=am_ (by omega);have dt:=jG aL (by omega);obtain ⟨w',g4,ag,av,aI,bU,c8⟩:=xN (cs:=[.int .i64 x]) (by omega) W E.next (by unfold top;omega) rfl rfl
   simp only [bb,bT,dC,gI,g0,ag,dt,↓ab,ae,simprocAttr];refine ⟨⟨i+1,rfl,aL,?_,E.lz aI fun b aj=>W.base aj⟩,by omega⟩;rw [List.replicate_succ',Jr];exact av
 . have g0:((i:Int)<m)=False:=am2 (by omega);have:i=m.toNat:=by omega
   subst this;simp only [bb,bT,dC,gI,g0,↓ab,ae,simprocAttr];exact ⟨by rw [am5];exact W,E⟩
theorem gu {k n:Int} {l:List aS} {gs:List Int} {p q:Prop} [Decidable p] [Decidable q] (h:cL k n l=(gs,decide p)) (e:p↔q):cL k n l=(gs,decide q):=h.trans (by rw [decide_eq_decide.2 e])
theorem aa0 (t:aS) (ay:fo t.k≠0) (aX:h2 t.k t.n t.l.length=true) (bK:t.l.length<=1000000000) (ai:List V) (h:ah) (H:cj Any h t.enc ai):
 b' Tryz.prog 81 [.agg ai] h fun x aa=>∃v,x=.tuple [v,.bool (cL t.k t.n t.l).2]/\cq Any aa 1 ((cL t.k t.n t.l).1.map bd.nV) v/\Ext h aa:=by
 obtain ⟨e3,rfl,L,aM⟩:=aS.open H;have ol:=L.one;have ax:=L.len;rw [List.length_map] at ax;obtain ⟨k,n,a,s,l⟩:=t;simp only [aS.k,aS.n,aS.a,aS.s,aS.l] at *;refine X7.z rfl (cp ?_);unfold N7;obtain ⟨J,ag,an,aG⟩:=gb h [.int .i64 k,.int .i64 n,.int .i64 a,.str s,e3];have g1:=aG.g;have b6:=L.ext an;clear L H;rcases EH ay with rfl | rfl | rfl | rfl | rfl | rfl | rfl | rfl | rfl | rfl | rfl | rfl | rfl | rfl | rfl | rfl | rfl | rfl | rfl | rfl | rfl | rfl | rfl | rfl | rfl | rfl | rfl | rfl | rfl | rfl | rfl | rfl | rfl | rfl | rfl | rfl | rfl | rfl
 . rw [gu (q:=(l.length:Int)=0) (show cL 1 n l=([],decide (l.length=0)) from rfl) ⟨fun q=>by omega,fun q=>by omega⟩];simp only [ol.1,ol.2.1,ag,g1,ax,↓ab,ae,simprocAttr];exact ⟨_,rfl,cq.nil _ _ _,an⟩
 . rw [gu (q:=(l.length:Int)<=64) (show cL 2 n l=(List.replicate (l.length:Int).toNat 1,decide (l.length<=64)) from rfl) ⟨fun q=>by omega,fun q=>by omega⟩];simp only [ol.1,ol.2.1,ag,g1,ax,↓ab,ae,simprocAttr];refine bw (iO 1 (l.length:Int) (by omega) J) ?_;rintro y ad ⟨Y,aN⟩;simp only [↓ab,ae,simprocAttr];exact ⟨_,rfl,Y.hr (by rw [am5];unfold top;omega),an.trans aN⟩
 . rw [gu (q:=(l.length:Int)=2) (show cL 3 n l=(List.replicate (2:Int).toNat 1,decide (l.length=2)) from rfl) ⟨fun q=>by omega,fun q=>by omega⟩];simp only [ol.1,ol.2.1,ag,g1,ax,↓ab,ae,simprocAttr];refine bw (iO 1 (2:Int) (by omega) J) ?_;rintro y ad ⟨Y,aN⟩;simp only [↓ab,ae,simprocAttr];exact ⟨_,rfl,Y.hr (by rw [am5];unfold top;omega),an.trans aN⟩
 . rw [gu (q:=(l.length:Int)=2) (show cL 4 n l=(List.replicate (2:Int).toNat 1,decide (l.length=2)) from rfl) ⟨fun q=>by omega,fun q=>by omega⟩];simp only [ol.1,ol.2.1,ag,g1,ax,↓ab,ae,simprocAttr];refine bw (iO 1 (2:Int) (by omega) J) ?_;rintro y ad ⟨Y,aN⟩;simp only [↓ab,ae,simprocAttr];exact ⟨_,rfl,Y.hr (by rw [am5];unfold top;omega),an.trans aN⟩
 . rw [gu (q:=(l.length:Int)=0) (show cL 10 n l=([],decide (l.length=0)) from rfl) ⟨fun q=>by omega,fun q=>by omega⟩];simp only [ol.1,ol.2.1,ag,g1,ax,↓ab,ae,simprocAttr];exact ⟨_,rfl,cq.nil _ _ _,an⟩
 . rw [gu (q:=(l.length:Int)=0) (show cL 13 n l=([],decide (l.length=0)) from rfl) ⟨fun q=>by omega,fun q=>by omega⟩];simp only [ol.1,ol.2.1,ag,g1,ax,↓ab,ae,simprocAttr];exact ⟨_,rfl,cq.nil _ _ _,an⟩
 . rw [gu (q:=(l.length:Int)=0) (show cL 11 n l=([],decide (l.length=0)) from rfl) ⟨fun q=>by omega,fun q=>by omega⟩];simp only [ol.1,ol.2.1,ag,g1,ax,↓ab,ae,simprocAttr];exact ⟨_,rfl,cq.nil _ _ _,an⟩
 . rw [gu (q:=(l.length:Int)=0) (show cL 12 n l=([],decide (l.length=0)) from rfl) ⟨fun q=>by omega,fun q=>by omega⟩];simp only [ol.1,ol.2.1,ag,g1,ax,↓ab,ae,simprocAttr];exact ⟨_,rfl,cq.nil _ _ _,an⟩
 . rw [gu (q:=(l.length:Int)=0) (show cL 14 n l=([],decide (l.length=0)) from rfl) ⟨fun q=>by omega,fun q=>by omega⟩];simp only [ol.1,ol.2.1,ag,g1,ax,↓ab,ae,simprocAttr];exact ⟨_,rfl,cq.nil _ _ _,an⟩
 . rw [gu (q:=(l.length:Int)=2) (show cL 15 n l=(List.replicate (2:Int).toNat 2,decide (l.length=2)) from rfl) ⟨fun q=>by omega,fun q=>by omega⟩];simp only [ol.1,ol.2.1,ag,g1,ax,↓ab,ae,simprocAttr];refine bw (iO 2 (2:Int) (by omega) J) ?_;rintro y ad ⟨Y,aN⟩;simp only [↓ab,ae,simprocAttr];exact ⟨_,rfl,Y.hr (by rw [am5];unfold top;omega),an.trans aN⟩
 . rw [gu (q:=(l.length:Int)<=1) (show cL 16 n l=(List.replicate (l.length:Int).toNat 2,decide (l.length<=1)) from rfl) ⟨fun q=>by omega,fun q=>by omega⟩];simp only [ol.1,ol.2.1,ag,g1,ax,↓ab,ae,simprocAttr];refine bw (iO 2 (l.length:Int) (by omega) J) ?_;rintro y ad ⟨Y,aN⟩;simp only [↓ab,ae,simprocAttr];exact ⟨_,rfl,Y.hr (by rw [am5];unfold top;omega),an.trans aN⟩
 . rw [gu (q:=(l.length:Int)=0) (show cL 20 n l=([],decide (l.length=0)) from rfl) ⟨fun q=>by omega,fun q=>by omega⟩];simp only [ol.1,ol.2.1,ag,g1,ax,↓ab,ae,simprocAttr];exact ⟨_,rfl,cq.nil _ _ _,an⟩
 . rw [gu (q:=(l.length:Int)=0) (show cL 21 n l=([],decide (l.length=0)) from rfl) ⟨fun q=>by omega,fun q=>by omega⟩];simp only [ol.1,ol.2.1,ag,g1,ax,↓ab,ae,simprocAttr];exact ⟨_,rfl,cq.nil _ _ _,an⟩
 . rw [gu (q:=(l.length:Int)=0) (show cL 22 n l=([],decide (l.length=0)) from rfl) ⟨fun q=>by omega,fun q=>by omega⟩];simp only [ol.1,ol.2.1,ag,g1,ax,↓ab,ae,simprocAttr];exact ⟨_,rfl,cq.nil _ _ _,an⟩
 . rw [gu (q:=(l.length:Int)=0) (show cL 23 n l=([],decide (l.length=0)) from rfl) ⟨fun q=>by omega,fun q=>by omega⟩];simp only [ol.1,ol.2.1,ag,g1,ax,↓ab,ae,simprocAttr];exact ⟨_,rfl,cq.nil _ _ _,an⟩
 . rw [gu (q:=(l.length:Int)=0) (show cL 24 n l=([],decide (l.length=0)) from rfl) ⟨fun q=>by omega,fun q=>by omega⟩];simp only [ol.1,ol.2.1,ag,g1,ax,↓ab,ae,simprocAttr];exact ⟨_,rfl,cq.nil _ _ _,an⟩
 . rw [gu (q:=(l.length:Int)<=1) (show cL 25 n l=(List.replicate (l.length:Int).toNat 3,decide (l.length<=1)) from rfl) ⟨fun q=>by omega,fun q=>by omega⟩];simp only [ol.1,ol.2.1,ag,g1,ax,↓ab,ae,simprocAttr];refine bw (iO 3 (l.length:Int) (by omega) J) ?_;rintro y ad ⟨Y,aN⟩;simp only [↓ab,ae,simprocAttr];exact ⟨_,rfl,Y.hr (by rw [am5];unfold top;omega),an.trans aN⟩
 . rw [gu (q:=(l.length:Int)=2) (show cL 26 n l=(List.replicate (2:Int).toNat 3,decide (l.length=2)) from rfl) ⟨fun q=>by omega,fun q=>by omega⟩];simp only [ol.1,ol.2.1,ag,g1,ax,↓ab,ae,simprocAttr];refine bw (iO 3 (2:Int) (by omega) J) ?_;rintro y ad ⟨Y,aN⟩;simp only [↓ab,ae,simprocAttr];exact ⟨_,rfl,Y.hr (by rw [am5];unfold top;omega),an.trans aN⟩
 . rw [gu (q:=(l.length:Int)=2) (show cL 28 n l=(List.replicate (2:Int).toNat 3,decide (l.length=2)) from rfl) ⟨fun q=>by omega,fun q=>by omega⟩];simp only [ol.1,ol.2.1,ag,g1,ax,↓ab,ae,simprocAttr];refine bw (iO 3 (2:Int) (by omega) J) ?_;rintro y ad ⟨Y,aN⟩;simp only [↓ab,ae,simprocAttr];exact ⟨_,rfl,Y.hr (by rw [am5];unfold top;omega),an.trans aN⟩
 . rw [gu (q:=(l.length:Int)=2) (show cL 35 n l=(List.replicate (2:Int).toNat 3,decide (l.length=2)) from rfl) ⟨fun q=>by omega,fun q=>by omega⟩];simp only [ol.1,ol.2.1,ag,g1,ax,↓ab,ae,simprocAttr];refine bw (iO 3 (2:Int) (by omega) J) ?_;rintro y ad ⟨Y,aN⟩;simp only [↓ab,ae,simprocAttr];exact ⟨_,rfl,Y.hr (by rw [am5];unfold top;omega),an.trans aN⟩
 . rw [gu (q:=(l.length:Int)=2) (show cL 37 n l=(List.replicate (2:Int).toNat 3,decide (l.length=2)) from rfl) ⟨fun q=>by omega,fun q=>by omega⟩];simp only [ol.1,ol.2.1,ag,g1,ax,↓ab,ae,simprocAttr];refine bw (iO 3 (2:Int) (by omega) J) ?_;rintro y ad ⟨Y,aN⟩;simp only [↓ab,ae,simprocAttr];exact ⟨_,rfl,Y.hr (by rw [am5];unfold top;omega),an.trans aN⟩
 . rw [gu (q:=(l.length:Int)=2) (show cL 38 n l=(List.replicate (2:Int).toNat 3,decide (l.length=2)) from rfl) ⟨fun q=>by omega,fun q=>by omega⟩];simp only [ol.1,ol.2.1,ag,g1,ax,↓ab,ae,simprocAttr];refine bw (iO 3 (2:Int) (by omega) J) ?_;rintro y ad ⟨Y,aN⟩;simp only [↓ab,ae,simprocAttr];exact ⟨_,rfl,Y.hr (by rw [am5];unfold top;omega),an.trans aN⟩
 . rw [gu (q:=(l.length:Int)=1) (show cL 34 n l=(List.replicate (1:Int).toNat 3,decide (l.length=1)) from rfl) ⟨fun q=>by omega,fun q=>by omega⟩];simp only [ol.1,ol.2.1,ag,g1,ax,↓ab,ae,simprocAttr];refine bw (iO 3 (1:Int) (by omega) J) ?_;rintro y ad ⟨Y,aN⟩;simp only [↓ab,ae,simprocAttr];exact ⟨_,rfl,Y.hr (by rw [am5];unfold top;omega),an.trans aN⟩
 . rw [gu (q:=(l.length:Int)=1) (show cL 36 n l=(List.replicate (1:Int).toNat 3,decide (l.length=1)) from rfl) ⟨fun q=>by omega,fun q=>by omega⟩];simp only [ol.1,ol.2.1,ag,g1,ax,↓ab,ae,simprocAttr];refine bw (iO 3 (1:Int) (by omega) J) ?_;rintro y ad ⟨Y,aN⟩;simp only [↓ab,ae,simprocAttr];exact ⟨_,rfl,Y.hr (by rw [am5];unfold top;omega),an.trans aN⟩
 . rw [gu (q:=(l.length:Int)=1) (show cL 39 n l=(List.replicate (1:Int).toNat 3,decide (l.length=1)) from rfl) ⟨fun q=>by omega,fun q=>by omega⟩];simp only [ol.1,ol.2.1,ag,g1,ax,↓ab,ae,simprocAttr];refine bw (iO 3 (1:Int) (by omega) J) ?_;rintro y ad ⟨Y,aN⟩;simp only [↓ab,ae,simprocAttr];exact ⟨_,rfl,Y.hr (by rw [am5];unfold top;omega),an.trans aN⟩
 . rw [gu (q:=(l.length:Int)=3) (show cL 31 n l=(List.replicate (3:Int).toNat 3,decide (l.length=3)) from rfl) ⟨fun q=>by omega,fun q=>by omega⟩];simp only [ol.1,ol.2.1,ag,g1,ax,↓ab,ae,simprocAttr];refine bw (iO 3 (3:Int) (by omega) J) ?_;rintro y ad ⟨Y,aN⟩;simp only [↓ab,ae,simprocAttr];exact ⟨_,rfl,Y.hr (by rw [am5];unfold top;omega),an.trans aN⟩
 . rw [gu (q:=(l.length:Int)=2) (show cL 27 n l=([2,3],decide (l.length=2)) from rfl) ⟨fun q=>by omega,fun q=>by omega⟩];obtain ⟨ad,av,aN,Y⟩:=sT J 1 2 [.int .i64 2,.int .i64 3] rfl (by unfold top;omega);simp only [ol.1,ol.2.1,ag,av,g1,ax,↓ab,ae,simprocAttr];exact ⟨_,rfl,c_.hr (l:=[2,3]) Y (by simp [top]),an.trans aN⟩
 . rw [gu (q:=(l.length:Int)=3) (show cL 29 n l=([2,3,3],decide (l.length=3)) from rfl) ⟨fun q=>by omega,fun q=>by omega⟩];obtain ⟨ad,av,aN,Y⟩:=sT J 1 3 [.int .i64 2,.int .i64 3,.int .i64 3] rfl (by unfold top;omega);simp only [ol.1,ol.2.1,ag,av,g1,ax,↓ab,ae,simprocAttr];exact ⟨_,rfl,c_.hr (l:=[2,3,3]) Y (by simp [top]),an.trans aN⟩
 . rw [gu (q:=(l.length:Int)>=2) (show cL 30 n l=(List.replicate (l.length-1) (5:Int)++[3],decide (2<=l.length)) from rfl) ⟨fun q=>by omega,fun q=>by omega⟩];have b4:IntKind.i64.wrap ((l.length:Int)-1)=(l.length:Int)-1:=wrap_i64 (by omega) (by omega);simp only [ol.1,ol.2.1,ag,g1,ax,b4,↓ab,ae,simprocAttr];refine bw (iO 5 ((l.length:Int)-1) (by omega) J) ?_;rintro y ad ⟨Y,aN⟩;rw [show ((l.length:Int)-1).toNat=l.length-1 from by omega] at Y;obtain ⟨w',aD,av,aI,bU,c8,eH⟩:=xN (cs:=[.int .i64 3]) (by omega) Y aN.next (by rw [am5];unfold top;omega) rfl rfl
   simp only [av,↓ab,ae,simprocAttr];have Z:c_ J.next aD 1 w' (List.replicate (l.length-1) (5:Int)++[3]).length (mG (List.replicate (l.length-1) (5:Int)++[3])):=by rw [amZ,Jr];exact aI
   exact ⟨_,rfl,Z.hr (by rw [amZ,am5];simp only [List.length_singleton];unfold top;omega),(an.trans aN).lz bU fun b aj=>anM an.next (Y.base aj)⟩
 . rw [gu (q:=(l.length:Int)>=2) (show cL 32 n l=(3::List.replicate (l.length-1) (4:Int),decide (2<=l.length)) from rfl) ⟨fun q=>by omega,fun q=>by omega⟩];have b4:IntKind.i64.wrap ((l.length:Int)-1)=(l.length:Int)-1:=wrap_i64 (by omega) (by omega);obtain ⟨ad,av,aN,Y⟩:=sT J 1 1 [.int .i64 3] rfl (by unfold top;omega);simp only [ol.1,ol.2.1,ag,av,g1,ax,b4,↓ab,ae,simprocAttr];refine bw (iO 4 ((l.length:Int)-1) (by omega) ad) ?_;rintro y aD ⟨Z,cv⟩;rw [show ((l.length:Int)-1).toNat=l.length-1 from by omega] at Z;obtain ⟨w',bn,cd,eU,kf,pH⟩:=Ai (by omega) (Y.ext cv) Z.v (anM aN.next cv.next) (by rw [am5];unfold top;omega) (Fb _);simp only [cd,↓ab,ae,simprocAttr];have W:c_ J.next bn 1 w' (3::List.replicate (l.length-1) (4:Int)).length (mG (3::List.replicate (l.length-1) (4:Int))):=by
    rw [am0,ao3];exact eU
   exact ⟨_,rfl,W.hr (by rw [am0,am5];unfold top;omega),((an.trans aN).trans cv).lz kf fun b aj=>anM an.next (Y.base aj)⟩
 . rw [gu (q:=(l.length:Int)>=2) (show cL 33 n l=(3::List.replicate (l.length-1) (4:Int),decide (2<=l.length)) from rfl) ⟨fun q=>by omega,fun q=>by omega⟩];have b4:IntKind.i64.wrap ((l.length:Int)-1)=(l.length:Int)-1:=wrap_i64 (by omega) (by omega);obtain ⟨ad,av,aN,Y⟩:=sT J 1 1 [.int .i64 3] rfl (by unfold top;omega);simp only [ol.1,ol.2.1,ag,av,g1,ax,b4,↓ab,ae,simprocAttr];refine bw (iO 4 ((l.length:Int)-1) (by omega) ad) ?_;rintro y aD ⟨Z,cv⟩;rw [show ((l.length:Int)-1).toNat=l.length-1 from by omega] at Z;obtain ⟨w',bn,cd,eU,kf,pH⟩:=Ai (by omega) (Y.ext cv) Z.v (anM aN.next cv.next) (by rw [am5];unfold top;omega) (Fb _);simp only [cd,↓ab,ae,simprocAttr];have W:c_ J.next bn 1 w' (3::List.replicate (l.length-1) (4:Int)).length (mG (3::List.replicate (l.length-1) (4:Int))):=by
    rw [am0,ao3];exact eU
   exact ⟨_,rfl,W.hr (by rw [am0,am5];unfold top;omega),((an.trans aN).trans cv).lz kf fun b aj=>anM an.next (Y.base aj)⟩
 . rw [gu (q:=(l.length:Int)=2) (show cL 45 n l=([2,3],decide (l.length=2)) from rfl) ⟨fun q=>by omega,fun q=>by omega⟩];obtain ⟨ad,av,aN,Y⟩:=sT J 1 2 [.int .i64 2,.int .i64 3] rfl (by unfold top;omega);simp only [ol.1,ol.2.1,ag,av,g1,ax,↓ab,ae,simprocAttr];exact ⟨_,rfl,c_.hr (l:=[2,3]) Y (by simp [top]),an.trans aN⟩
 . by_cases H0:l.length=1
   . obtain ⟨u,rfl⟩:∃u,l=[u]:=by
      match l,H0 with
      | [u],_=>exact ⟨u,rfl⟩
     rw [show cL 46 n [u]=(List.replicate (1:Int).toNat 3,decide (u.k=27)) from by simp [cL,HP]];obtain ⟨b,off,wl,dG,X,cN,ld,rK,_,_⟩:=aS.mH b6 (k:=.i64) (i:=0) (by simp);have Q':iL 5 e3 (.int .i64 0)=some (.ptr b off):=by simpa using dG
     have d0:∀aa,Ext J aa->jC (aa.get b) off=some (.int .i64 u.k):=fun aa e=>by simpa using rK aa e
     have d1:=d0 J (Ext.refl _);simp only [ol.1,ol.2.1,ag,g1,ax,Q',d1,am0,am8,↓ab,ae,simprocAttr];refine bw (iO 3 1 (by omega) J) ?_;rintro y ad ⟨Y,aN⟩;have d2:=d0 ad aN;have g2:=(aG.ext aN).g;simp only [g1,g2,Q',d1,d2,↓ab,ae,simprocAttr];exact ⟨_,rfl,Y.hr (by simp [top]),an.trans aN⟩
   . rw [show cL 46 n l=(List.replicate (1:Int).toNat 3,false) from by simp [cL,H0]];have f1:((l.length:Int)=1)=False:=am2 (by omega);simp only [ol.1,ol.2.1,ag,g1,ax,f1,↓ab,ae,simprocAttr];refine bw (iO 3 1 (by omega) J) ?_;rintro y ad ⟨Y,aN⟩;have g2:=(aG.ext aN).g;simp only [g1,g2,f1,↓ab,ae,simprocAttr];exact ⟨_,rfl,Y.hr (by simp [top]),an.trans aN⟩
 . rw [gu (q:=(l.length:Int)<=1) (show cL 47 n l=(List.replicate (l.length:Int).toNat 1,decide (l.length<=1)) from rfl) ⟨fun q=>by omega,fun q=>by omega⟩];simp only [ol.1,ol.2.1,ag,g1,ax,↓ab,ae,simprocAttr];refine bw (iO 1 (l.length:Int) (by omega) J) ?_;rintro y ad ⟨Y,aN⟩;simp only [↓ab,ae,simprocAttr];exact ⟨_,rfl,Y.hr (by rw [am5];unfold top;omega),an.trans aN⟩
 . rw [gu (q:=(l.length:Int)<=1) (show cL 51 n l=(List.replicate (l.length:Int).toNat 1,decide (l.length<=1)) from rfl) ⟨fun q=>by omega,fun q=>by omega⟩];simp only [ol.1,ol.2.1,ag,g1,ax,↓ab,ae,simprocAttr];refine bw (iO 1 (l.length:Int) (by omega) J) ?_;rintro y ad ⟨Y,aN⟩;simp only [↓ab,ae,simprocAttr];exact ⟨_,rfl,Y.hr (by rw [am5];unfold top;omega),an.trans aN⟩
 . rw [gu (q:=(l.length:Int)=2) (show cL 52 n l=([2,3],decide (l.length=2)) from rfl) ⟨fun q=>by omega,fun q=>by omega⟩];obtain ⟨ad,av,aN,Y⟩:=sT J 1 2 [.int .i64 2,.int .i64 3] rfl (by unfold top;omega);simp only [ol.1,ol.2.1,ag,av,g1,ax,↓ab,ae,simprocAttr];exact ⟨_,rfl,c_.hr (l:=[2,3]) Y (by simp [top]),an.trans aN⟩
 . rw [gu (q:=(l.length:Int)>=1) (show cL 53 n l=(List.replicate (l.length:Int).toNat 5,decide (1<=l.length)) from rfl) ⟨fun q=>by omega,fun q=>by omega⟩];simp only [ol.1,ol.2.1,ag,g1,ax,↓ab,ae,simprocAttr];refine bw (iO 5 (l.length:Int) (by omega) J) ?_;rintro y ad ⟨Y,aN⟩;simp only [↓ab,ae,simprocAttr];exact ⟨_,rfl,Y.hr (by rw [am5];unfold top;omega),an.trans aN⟩
 . have sA:0<=n/\n<=64/\n<l.length:=by simpa [h2,and_assoc] using aX
   obtain ⟨db,mM,n3⟩:=sA;rw [show cL 50 n l=(List.replicate n.toNat (8:Int)++List.replicate (l.length-n.toNat) (6:Int),true) from rfl];have b4:IntKind.i64.wrap ((l.length:Int)-n)=(l.length:Int)-n:=wrap_i64 (by omega) (by omega);simp only [ol.1,ol.2.1,ag,g1,ax,b4,↓ab,ae,simprocAttr];refine bw (iO 8 n (by omega) J) ?_;rintro y ad ⟨Y,aN⟩;have g2:=(aG.ext aN).g;simp only [g1,g2,ax,b4,↓ab,ae,simprocAttr];refine bw (iO 6 ((l.length:Int)-n) (by omega) ad) ?_;rintro z aD ⟨Z,cv⟩;have g3:=((aG.ext aN).ext cv).g;rw [show ((l.length:Int)-n).toNat=l.length-n.toNat from by omega] at Z;obtain ⟨w',bn,cd,eU,kf,pH⟩:=Ai (by omega) (Y.ext cv) Z.v (anM aN.next cv.next) (by rw [am5,am5];unfold top;omega) (Fb _);simp only [cd,g1,g2,g3,ax,b4,↓ab,ae,simprocAttr];have W:c_ J.next bn 1 w' (List.replicate n.toNat (8:Int)++List.replicate (l.length-n.toNat) (6:Int)).length (mG (List.replicate n.toNat (8:Int)++List.replicate (l.length-n.toNat) (6:Int))):=by rw [amZ,Jr];exact eU
   exact ⟨_,rfl,W.hr (by rw [amZ,am5,am5];unfold top;omega),((an.trans aN).trans cv).lz kf fun b aj=>anM an.next (Y.base aj)⟩
theorem ajg {k n:Int} {l:List aS} (ay:fo k≠0) (aX:h2 k n l.length=true) (h:(cL k n l).2=true):(cL k n l).1.length=l.length:=by
 rcases EH ay with rfl | rfl | rfl | rfl | rfl | rfl | rfl | rfl | rfl | rfl | rfl | rfl | rfl | rfl | rfl | rfl | rfl | rfl | rfl | rfl | rfl | rfl | rfl | rfl | rfl | rfl | rfl | rfl | rfl | rfl | rfl | rfl | rfl | rfl | rfl | rfl | rfl | rfl<;>
 simp [cL,h2] at h aX ⊢<;>first | omega | simp_all
theorem ajl (t:aS):t.jE dB=(decide (fo t.k≠0)&&qK dB t.k t.s&&h2 t.k t.n t.l.length&&decide (0<=t.a)&&decide (t.a<=65536)&&(cL t.k t.n t.l).2&&kW dB (cL t.k t.n t.l).1 t.l):=by cases t;rw [aS.jE];rfl
theorem KI:∀(N:Nat) (t:aS),t.size<=N->N<=1000000000->∀(ai:List V) (h:ah),cj Any h t.enc ai->b' Tryz.prog 43 [.agg ai] h fun x aa=>x=.bool (t.jE dB)/\Ext h aa
 | 0,t,aM,_,_,_,_=>by have:=w3 t;omega
 | N+1,t,aM,H9,ai,h,H=>by
   have CK:=H;obtain ⟨e3,rfl,L,_⟩:=aS.open H;have aK:N<=1000000000:=by omega
   have ol:=L.one;have ax:=L.len;have hle:=L.le;rw [anc] at ax hle;have cy:=size_eq t;have kv:=Fu t.l;refine Xz.z rfl (cp ?_);unfold Nq;obtain ⟨J,ag,an,aG⟩:=gb h [.int .i64 t.k,.int .i64 t.n,.int .i64 t.a,.str t.s,e3];simp only [ol.1,ol.2.1,ag,aG.g,↓ab,ae,simprocAttr];refine bw (KG t.k J) ?_;rintro x ad ⟨rfl,rfl⟩;rw [ajl];by_cases al:fo t.k=0
   . simp only [am_ al,↓ab,ae,simprocAttr];exact ⟨by simp [al],an⟩
   have vH:=am2 al;simp only [vH,aG.g,↓ab,ae,simprocAttr];refine bw (akp t al _ ad (CK.ext an)) ?_;rintro x aD ⟨rfl,cv⟩;have k0:=aG.ext cv;cases bW:qK dB t.k t.s with
   | false=>
     simp only [vH,k0.g,↓ab,ae,simprocAttr];exact an.trans cv
   | true=>
   simp only [vH,k0.g,↓ab,ae,simprocAttr];refine bw (ahA t al _ aD (CK.ext (an.trans cv))) ?_;rintro x bn ⟨rfl,hh⟩;have u2:=k0.ext hh;have cJ:=(an.trans cv).trans hh;cases cw:h2 t.k t.n t.l.length with
   | false=>
     simp only [vH,u2.g,↓ab,ae,simprocAttr];exact cJ
   | true=>
   by_cases c3:t.a<0
   . simp only [vH,u2.g,am_ c3,↓ab,ae,simprocAttr];exact ⟨by rw [anL (show ¬0<=t.a by omega)];simp,cJ⟩
   by_cases gV:65536<t.a
   . simp only [vH,u2.g,am2 c3,am_ gV,↓ab,ae,simprocAttr];exact ⟨by rw [anL (show ¬t.a<=65536 by omega)];simp,cJ⟩
   simp only [vH,u2.g,am2 c3,am2 gV,↓ab,ae,simprocAttr];refine bw (aa0 t al cw (by omega) _ bn (CK.ext cJ)) ?_;rintro x b0 ⟨aa8,rfl,Lp,ko⟩;have Gf:=u2.ext ko;have cM:=cJ.trans ko;rw [anG (show fo t.k≠0 from al),anG (show 0<=t.a by omega),anG (show t.a<=65536 by omega)];cases c5:(cL t.k t.n t.l).2 with
   | false=>
     simp only [Gf.g,↓ab,ae,simprocAttr];exact cM
   | true=>
   have su:=ajg al cw c5;generalize (cL t.k t.n t.l).1=gs at Lp su ⊢;simp only [Gf.g,↓ab,ae,simprocAttr];refine fS (fun r g=>r 1=.ptr (aC h.next) 0/\r 3=aa8/\∃i:Nat,r 5=.int .i64 i/\i<=t.l.length/\Ext b0 g/\kW dB gs t.l=kW dB (gs.drop i) (t.l.drop i)) (fun r g=>t.l.length - (r 5).toN) ?_ ?_
   . exact ⟨by simp only [↓ab,cx,simprocAttr],by simp only [↓ab,cx,simprocAttr],0,by simp only [↓ab,cx,simprocAttr]<;>rfl,by omega,Ext.refl b0,rfl⟩
   rintro r g ⟨bT,bX,i,dC,au,E,bC⟩;unfold Nr;have A:=Gf.ext E;have k5:=L.ext (cM.trans E);by_cases aL:i<t.l.length
   . have g0:((i:Int) < (t.l.length:Int))=True:=am_ (by omega);obtain ⟨b,off,wl,dG,X,cN,ld,rK,_,_⟩:=aS.mH k5 (k:=.i64) aL;obtain ⟨cF,SJ,ob,ago⟩:=(Lp.ext E).Jq (k:=.i64) (i:=i) (by omega);have hJ:=ld g (Ext.refl g);have d0:=rK g (Ext.refl g);have dg:=ago g (Ext.refl g);have dt:=jG aL (by unfold top at hle;omega);have ab9:=h1 (t:=t) (am3 aL);rw [ant aL,ant (show i<gs.length by omega),kW] at bC;have fin:∀(aQ:List iE) (R:bz),True:=fun _ _=>trivial;by_cases oR:gs[i]=8
     . have fa:iB t.l[i].k gs[i]=decide (t.l[i].k=1):=by unfold iB;rw [anb oR]
       by_cases k7:t.l[i].k=1
       . simp only [bT,bX,dC,A.g,ax,g0,dG,ob,hJ,d0,dg,am_ oR,am_ k7,↓ab,ae,simprocAttr];refine bw (KI N t.l[i] (by omega) aK _ g X) ?_;rintro x g2 ⟨rfl,dT⟩;rw [fa,anG k7,an2] at bC;cases AA:t.l[i].jE dB with
         | true=>
           rw [AA,an2] at bC;simp only [bT,bX,dC,dt,↓ab,ae,simprocAttr];exact ⟨⟨i+1,rfl,aL,E.trans dT,bC⟩,by omega⟩
         | false=>
           rw [AA,anR] at bC;simp only [bT,bX,dC,dt,↓ab,ae,simprocAttr];exact ⟨by rw [bC],cM.trans (E.trans dT)⟩
       . rw [fa,anL k7,anR,anR] at bC;simp only [bT,bX,dC,A.g,ax,g0,dG,ob,hJ,d0,dg,am_ oR,am2 k7,↓ab,ae,simprocAttr];exact ⟨by rw [bC],cM.trans E⟩
     . have fa:iB t.l[i].k gs[i]=decide (fo t.l[i].k=gs[i]):=by unfold iB;rw [am7 oR]
       simp only [bT,bX,dC,A.g,ax,g0,dG,ob,hJ,d0,dg,am2 oR,↓ab,ae,simprocAttr];refine bw (KG t.l[i].k g) ?_;rintro x g2 ⟨rfl,rfl⟩;by_cases k7:fo t.l[i].k=gs[i]
       . simp only [bT,bX,dC,A.g,ax,g0,dG,ob,hJ,d0,dg,am2 oR,am_ k7,↓ab,ae,simprocAttr];refine bw (KI N t.l[i] (by omega) aK _ g2 X) ?_;rintro x g3 ⟨rfl,dT⟩;rw [fa,anG k7,an2] at bC;cases AA:t.l[i].jE dB with
         | true=>
           rw [AA,an2] at bC;simp only [bT,bX,dC,dt,↓ab,ae,simprocAttr];exact ⟨⟨i+1,rfl,aL,E.trans dT,bC⟩,by omega⟩
         | false=>
           rw [AA,anR] at bC;simp only [bT,bX,dC,dt,↓ab,ae,simprocAttr];exact ⟨by rw [bC],cM.trans (E.trans dT)⟩
       . rw [fa,anL k7,anR,anR] at bC;simp only [bT,bX,dC,A.g,ax,g0,dG,ob,hJ,d0,dg,am2 oR,am2 k7,↓ab,ae,simprocAttr];exact ⟨by rw [bC],cM.trans E⟩
   . have g0:((i:Int) < (t.l.length:Int))=False:=am2 (by omega);rw [anD (show t.l.length<=i by omega),kW] at bC;simp only [bT,bX,dC,A.g,ax,g0,↓ab,ae,simprocAttr];exact ⟨by rw [bC],cM.trans E⟩
def w6 (l:List aS):Int:=if l.all (fun t=>decide (fo t.k=7)&&t.jE dB) then (if l.all (fun t=>decide (t.deep<=200)) then 0 else 260) else 2
theorem ai1 (l:List aS) (aM:gg l<=1000000000) (v:V) (h:ah) (L:cq Any h 5 (l.map aS.enc) v):b' Tryz.prog 25 [v] h fun x aa=>x=.int .i64 (w6 l)/\Ext h aa:=by
 have ax:=L.len;have hle:=L.le;rw [anc] at ax hle;refine Xl.z rfl (cp ?_);unfold M7;simp only [↓ab,ae,simprocAttr];refine fS (fun r g=>r 0=v/\∃i:Nat,r 3=.int .i64 i/\i<=l.length/\Ext h g/\(l.take i).all (fun t=>decide (fo t.k=7)&&t.jE dB)=true) (fun r g=>l.length - (r 3).toN) ?_ ?_
 . exact ⟨by simp only [↓ab,cx,simprocAttr],0,by simp only [↓ab,cx,simprocAttr]<;>rfl,by omega,Ext.refl h,rfl⟩
 rintro r g ⟨bb,i,bX,au,E,du⟩;unfold M8;have k5:=L.ext E;by_cases aL:i<l.length
 . have g0:((i:Int) < (l.length:Int))=True:=am_ (by omega);obtain ⟨b,off,wl,dG,X,cN,ld,rK,_,_⟩:=aS.mH k5 (k:=.i64) aL;have hJ:=ld g (Ext.refl g);have d0:=rK g (Ext.refl g);have dt:=jG aL (by unfold top at hle;omega);have bG:=rT (am3 aL);simp only [bb,bX,ax,g0,dG,d0,hJ,↓ab,ae,simprocAttr];refine bw (KG l[i].k g) ?_;rintro x g2 ⟨rfl,rfl⟩;have bad:(decide (fo l[i].k=7)&&l[i].jE dB)=false->w6 l=2:=fun q=>by
    unfold w6;rw [am7];intro z;have:=anr.1 z _ (am3 aL);rw [q] at this;cases this
   by_cases bW:fo l[i].k=7
   . simp only [bb,bX,dG,hJ,am_ bW,↓ab,ae,simprocAttr];refine bw (KI _ l[i] (am6 _) (by omega) _ g2 X) ?_;rintro x g3 ⟨rfl,cv⟩;cases cw:l[i].jE dB with
     | true=>
       simp only [bb,bX,dt,↓ab,ae,simprocAttr];refine ⟨⟨i+1,rfl,aL,E.trans cv,?_⟩,by omega⟩;rw [take_one aL,an5,du];simp [bW,cw]
     | false=>
       simp only [bb,bX,dt,↓ab,ae,simprocAttr];exact ⟨by rw [bad (by rw [cw,aob])],E.trans cv⟩
   . simp only [bb,bX,dG,hJ,am2 bW,↓ab,ae,simprocAttr];exact ⟨by rw [bad (by rw [anL bW,anR])],E⟩
 . have g0:((i:Int) < (l.length:Int))=False:=am2 (by omega);rw [an3 (by omega)] at du;have ao:w6 l=if l.all (fun t=>decide (t.deep<=200)) then 0 else 260:=by unfold w6;rw [anb du]
   rw [ao];simp only [bb,bX,ax,g0,↓ab,ae,simprocAttr];refine fS (fun r g=>r 0=v/\∃i:Nat,r 4=.int .i64 i/\i<=l.length/\Ext h g/\(l.take i).all (fun t=>decide (t.deep<=200))=true) (fun r g=>l.length - (r 4).toN) ?_ ?_
   . exact ⟨by simp only [bb,↓ab,cx,simprocAttr],0,by simp only [↓ab,cx,simprocAttr]<;>rfl,by omega,E,rfl⟩
   clear au bb bX k5 E g0 aL;rintro r g ⟨bb,i,dN,au,E,du⟩;unfold M9;have k5:=L.ext E;by_cases aL:i<l.length
   . have g0:((i:Int) < (l.length:Int))=True:=am_ (by omega);obtain ⟨b,off,wl,dG,X,cN,ld,rK,_,_⟩:=aS.mH k5 (k:=.i64) aL;have hJ:=ld g (Ext.refl g);have dt:=jG aL (by unfold top at hle;omega);have bG:=rT (am3 aL);simp only [bb,dN,ax,g0,dG,hJ,↓ab,ae,simprocAttr];refine bw (TB _ l[i] (am6 _) (by omega) _ g X) ?_;rintro x g2 ⟨rfl,aN⟩;by_cases bW:(200:Int) < (l[i].deep:Int)
     . simp only [bb,dN,am_ bW,↓ab,ae,simprocAttr];refine ⟨?_,E.trans aN⟩;rw [am7];intro z;have:=anr.1 z _ (am3 aL);simp only [ane] at this;omega
     . simp only [bb,dN,dt,am2 bW,↓ab,ae,simprocAttr];refine ⟨⟨i+1,rfl,aL,E.trans aN,?_⟩,by omega⟩;rw [take_one aL,an5,du];simp;omega
   . have g0:((i:Int) < (l.length:Int))=False:=am2 (by omega);rw [an3 (by omega)] at du;simp only [bb,dN,ax,g0,↓ab,ae,simprocAttr];exact ⟨by rw [anb du],E⟩
end
end Go.Proofs.YtefceblncmdkhaaGreatDoor
