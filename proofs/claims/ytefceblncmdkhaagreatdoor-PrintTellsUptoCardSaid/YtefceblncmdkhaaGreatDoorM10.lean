/- The chapter's functions, walked by the abstract machine: plain lemmas, no condition. Printed by a program from longer texts: names made short. -/
import Derived.Test.YtefceblncmdkhaaGreatDoorM8
import Derived.Test.YtefceblncmdkhaaGreatDoorM9
set_option linter.unusedSectionVars false
set_option linter.unusedSimpArgs false
set_option linter.unusedVariables false
set_option maxHeartbeats 64000000
noncomputable section
namespace Go.Proofs.YtefceblncmdkhaaGreatDoor
section
open Go bb
theorem aQ.lx [Lay] {F:aU->Prop} {h:ah} {l:List aQ} {v:V} (H:ch F h 5 (l.map aQ.enc) v) {k:IntKind} {i:Nat} (au:i<l.length):
 ∃b off eS,iD 5 v (.int k i)=some (.ptr b (off+i * 5))/\cg F h l[i].enc [.int .i64 l[i].k,.int .i64 l[i].n,.int .i64 l[i].a,.str l[i].s,eS]/\ch F h 5 (l[i].l.map aQ.enc) eS/\
  (∀ab,Ext h ab->o0 5 (ab.get b) (off+i * 5)=some (.agg [.int .i64 l[i].k,.int .i64 l[i].n,.int .i64 l[i].a,.str l[i].s,eS]))/\
  (∀ab,Ext h ab->jL (ab.get b) (off+i * 5)=some (.int .i64 l[i].k))/\(∀ab,Ext h ab->jL (ab.get b) (off+i * 5+3)=some (.str l[i].s))/\(∀ab,Ext h ab->jL (ab.get b) (off+i * 5+4)=some eS):=by
 obtain ⟨b,off,u,al,aN,cj,gl,jf⟩:=H.at (k:=k) (i:=i) (by rw [anK];exact au);rw [List.getElem_map] at aN;obtain ⟨eS,rfl,L,_⟩:=aQ.open aN;exact ⟨b,off,eS,al,aN,L,gl,fun ab e=>by simpa using jf ab e 0 (by omega),fun ab e=>by simpa using jf ab e 3 (by omega),fun ab e=>by simpa using jf ab e 4 (by omega)⟩
theorem TG {l:List aQ} {i:Nat} (au:i<l.length):e9 l[i].l<e9 l:=by have J:=pO (anB au);have ad:=size_eq l[i];omega
theorem O7:∀(N:Nat) (l:List aQ),e9 l<N->N<=1000000000->∀(v:V) (h:ah),ch Any h 5 (l.map aQ.enc) v->b8 Tryz.prog 7 [v] h fun x ab=>ch (p8 h) ab 5 (l.map aQ.enc) x/\Ext h ab
 | 0,l,aL,_,_,_,_=>by omega
 | N+1,l,aL,aM,v,h,L=>by
   have aw:=L.len;have hle:=L.le;rw [anK] at aw hle;refine YF.z rfl (ck ?_);unfold AM;simp only [↓aa,ae,simprocAttr];refine fE (fun r g=>r 0=v/\∃(i:Nat) (w:V),r 3=w/\r 4=.int .i64 i/\i<=l.length/\mC h.next (p8 h) g 5 ((l.take i).map aQ.enc) w/\Ext h g) (fun r g=>l.length - (r 4).toN) ?_ ?_
   . exact ⟨by simp only [↓aa,cm,simprocAttr],0,.cr,by simp only [↓aa,cm,simprocAttr],by simp only [↓aa,cm,simprocAttr]<;>rfl,by omega,mC.nil _ _ _ _,Ext.refl h⟩
   rintro r g ⟨ba,i,w,bY,dR,au,W,E⟩;unfold Ow;have Q8:=CC l;by_cases aH:i<l.length
   . have g0:((i:Int) < (l.length:Int))=True:=anJ (by omega);obtain ⟨b,off,wl,dj,X,cz,ld,pC,Sd,JX⟩:=aQ.lx (L.ext E) (k:=.i64) aH;have d0:=ld g (Ext.refl g);obtain ⟨g1,fc,bf,Z⟩:=je g [.int .i64 0,.int .i64 0,.int .i64 0,.str [],.cr] [.int .i64 l[i].k,.int .i64 l[i].n,.int .i64 l[i].a,.str l[i].s,wl];have d4:=JX g1 bf;have dm:=iI aH (by unfold top at hle;omega);have ol:=cz.one;simp only [ba,bY,dR,aw,g0,dj,d0,d4,fc,ol.1,ol.2.1,↓aa,ae,simprocAttr];refine bq (O7 N l[i].l (by have:=TG aH;omega) (by omega) wl g1 (cz.ext bf)) ?_;rintro y g2 ⟨Y,du⟩;have fv:=Z.ext du;have ir:=Y.one;have amN:=Z.lt;have alJ:Ext g g2:=bf.trans du;have nf:=fv.put [.int .i64 l[i].k,.int .i64 l[i].n,.int .i64 l[i].a,.str l[i].s,y];have V':=Y.set (b:=aD g.next) (fun q=>by unfold p8 at q;rw [ee] at q;omega) (.a_ [.int .i64 l[i].k,.int .i64 l[i].n,.int .i64 l[i].a,.str l[i].s,y] 0 false);have Vs:Ext g (g2.set (aD g.next) (.a_ [.int .i64 l[i].k,.int .i64 l[i].n,.int .i64 l[i].a,.str l[i].s,y] 0 false)):=alJ.set (anD _) _;have hw:∀b,p8 g1 b->p8 h b/\¬w.bh b:=fun b q=>by
      have:=E.next
      unfold p8 at q ⊢;refine ⟨by omega,fun z=>?_⟩;have:=W.aih z;unfold Old at this;omega
     have ar:cg (fun b=>p8 h b/\¬w.bh b) (g2.set (aD g.next) (.a_ [.int .i64 l[i].k,.int .i64 l[i].n,.int .i64 l[i].a,.str l[i].s,y] 0 false)) l[i].enc [.int .i64 l[i].k,.int .i64 l[i].n,.int .i64 l[i].a,.str l[i].s,y]:=by
      rw [KD];have yP:l[i].s.length<=top:=by obtain ⟨_,_,_,q⟩:=aQ.open X;exact q
      exact .i (.i (.i (.s yP ((V'.mX hw).cons .nil))))
     have tv:=W.ext Vs;have bL:=E.trans Vs;simp only [ba,bY,dR,fv.g,ir.1,ir.2.1,↓aa,ae,simprocAttr];have n3:(g2.set (aD g.next) (.a_ [.int .i64 l[i].k,.int .i64 l[i].n,.int .i64 l[i].a,.str l[i].s,y] 0 false)).next=g2.next:=o3 ..
     generalize g2.set (aD g.next) (.a_ [.int .i64 l[i].k,.int .i64 l[i].n,.int .i64 l[i].a,.str l[i].s,y] 0 false)=g3 at *;obtain ⟨w',g4,ag,av,aJ,bU,cX⟩:=tv.add ar (by omega) bL.next (by rw [anK,aod];unfold top;omega) rfl
     rw [n3] at ag;simp only [ba,bY,dR,nf.g,ir.1,ir.2.1,ag,dm,↓aa,ae,simprocAttr];refine ⟨⟨i+1,rfl,aH,?_,bL.me aJ fun b aj=>W.base aj⟩,by omega⟩;rw [take_one aH,apb];exact av
   . have g0:((i:Int) < (l.length:Int))=False:=anA (by omega);rw [aos (by omega)] at W;simp only [ba,bY,dR,aw,g0,↓aa,ae,simprocAttr];exact ⟨W.dZ (by rw [anK];exact hle) (fun _ q=>q) fun _ q=>q,E⟩
theorem Ut:∀(N:Nat),(∀(t:aQ),2 * t.size<N->∀(ai ws:List V) (h:ah),cg Any h t.enc ai->cg Any h t.enc ws->b8 Tryz.prog 27 [.agg ai,.agg ws] h fun x ab=>x=.bool true/\Ext h ab)/\
 (∀(l:List aQ),2 * e9 l+1<N->∀(v w:V) (h:ah),ch Any h 5 (l.map aQ.enc) v->ch Any h 5 (l.map aQ.enc) w->b8 Tryz.prog 13 [v,w] h fun x ab=>x=.bool true/\Ext h ab)
 | 0=>⟨fun t q=>by omega,fun l q=>by omega⟩
 | N+1=>by
   obtain ⟨Jy,Jz⟩:=Ut N;refine ⟨fun t aL ai ws h H cN=>?_,fun l aL v w h L vk=>?_⟩
   . obtain ⟨eS,rfl,L,_⟩:=aQ.open H;obtain ⟨wl,rfl,vk,_⟩:=aQ.open cN;have cx:=size_eq t;have ol:=L.one;have kl:=vk.one;refine XW.z rfl (ck ?_);unfold NA;obtain ⟨J,ag,al,aG⟩:=f' h [.int .i64 t.k,.int .i64 t.n,.int .i64 t.a,.str t.s,eS];obtain ⟨ad,av,aN,e'⟩:=f' J [.int .i64 t.k,.int .i64 t.n,.int .i64 t.a,.str t.s,wl];have Vz:=aG.ext aN;simp only [ol.1,ol.2.1,kl.1,kl.2.1,ag,av,Vz.g,e'.g,apk,↓aa,ae,simprocAttr];refine bq (Jz t.l (by omega) eS wl ad (L.ext (al.trans aN)) (vk.ext (al.trans aN))) ?_;rintro x aC ⟨rfl,cj⟩;simp only [↓aa,ae,simprocAttr];exact (al.trans aN).trans cj
   . have aw:=L.len;have kU:=vk.len;have hle:=L.le;rw [anK] at aw hle kU;refine XH.z rfl (ck ?_);unfold M1;simp only [aw,kU,↓aa,ae,simprocAttr];refine fE (fun r g=>r 0=v/\r 1=w/\∃i:Nat,r 5=.int .i64 i/\i<=l.length/\Ext h g) (fun r g=>l.length - (r 5).toN) ?_ ?_
     . exact ⟨by simp only [↓aa,cm,simprocAttr],by simp only [↓aa,cm,simprocAttr],0,by simp only [↓aa,cm,simprocAttr]<;>rfl,by omega,Ext.refl h⟩
     rintro r g ⟨ba,bM,i,cW,au,E⟩;unfold M_;by_cases aH:i<l.length
     . have g0:((i:Int) < (l.length:Int))=True:=anJ (by omega);obtain ⟨b,off,ul,dj,X,cz,ld⟩:=aQ.y7 (L.ext E) (k:=.i64) aH;obtain ⟨cA,Kn,anf,kV,GY,L2,nD⟩:=aQ.y7 (vk.ext E) (k:=.i64) aH;have d1:=ld g (Ext.refl g);have d2:=nD g (Ext.refl g);have dm:=iI aH (by unfold top at hle;omega);have cx:=pO (anB aH);simp only [ba,bM,cW,aw,g0,dj,kV,d1,d2,↓aa,ae,simprocAttr];refine bq (Jy l[i] (by omega) _ _ g X GY) ?_;rintro x g2 ⟨rfl,aN⟩;have d3:=ld g2 aN;have d4:=nD g2 aN;simp only [ba,bM,cW,dm,d1,d2,d3,d4,↓aa,ae,simprocAttr];exact ⟨⟨i+1,rfl,aH,E.trans aN⟩,by omega⟩
     . have g0:((i:Int) < (l.length:Int))=False:=anA (by omega);simp only [ba,bM,cW,aw,g0,↓aa,ae,simprocAttr];exact E
theorem akb (l:List aQ) (v w:V) (h:ah) (L:ch Any h 5 (l.map aQ.enc) v) (vk:ch Any h 5 (l.map aQ.enc) w):b8 Tryz.prog 13 [v,w] h fun x ab=>x=.bool true/\Ext h ab:=(Ut _).2 l (apC _) v w h L vk
theorem UG (k n a:Int) (t z:List UInt8) (h:ah) (aE:t.length<=100000):b8 Tryz.prog 121 [.agg [.int .i64 k,.int .i64 n,.int .i64 a,.str t],.str z] h fun x ab=>x=.bool (decide (z=(if k=5 then 39::t else t)))/\Ext h ab:=by
 refine Xz.z rfl (ck ?_);unfold MY;obtain ⟨J,ag,al,aG⟩:=f' h [.int .i64 k,.int .i64 n,.int .i64 a,.str t];by_cases ay:k=5
 . have aw:(1+t.length<=17179869184)=True:=anJ (by omega);simp only [ag,aG.g,anJ ay,aw,an7,anO,anP,↓aa,ae,simprocAttr];exact al
 . simp only [ag,aG.g,anA ay,an4,↓aa,ae,simprocAttr];exact al
theorem Sq:∀(f:Nat) (r:List UInt8) (p:Nat) (ws:List cd),oq f r p=.ok ws->∀w ∈ ws,w.kind=3\/w.kind=4\/w.kind=5->w.text.length<=64:=fun f r p ws h w hw ay=>by obtain ⟨_,g,_⟩:=Ke (B7 f r p ws h w hw ay);exact g
theorem Lq (k:Int) (ay:k=3\/k=4\/k=5) (s:List UInt8) (h:ah):b8 Tryz.prog 98 [.int .i64 k,.str s] h fun x ab=>x=.bool (dG k s)/\Ext h ab:=by
 rw [<-als ay];refine YV.z rfl (ck ?_);unfold ON;by_cases Ig:(64:Int) < (s.length:Int)
 . have hw:th k s=false:=by unfold th;rw [aoe (show ¬s.length<=64 by omega)];simp
   simp only [anJ Ig,hw,↓aa,ae,simprocAttr];exact Ext.refl _
 by_cases oa:s=[]
 . have hw:th k s=false:=by unfold th;rw [oa];simp
   simp only [anA Ig,anJ oa,hw,↓aa,ae,simprocAttr];exact Ext.refl _
 have f64:=anA Ig;have P8:=anA oa
 have hw:th k s=(match mc (if k=5 then 39::s else s) with
  | .ok [w]=>decide (w.kind=k)&&decide (w.pos=0)&&decide (w.text≠[])&&decide ((if k=5 then 39::s else s)=(if w.kind=5 then 39::w.text else w.text))
  | _=>false):=by
  unfold th;rw [aoc (show s.length<=64 by omega),aoc oa];rfl
 rw [hw];clear hw;have pr:(1+s.length<=17179869184)=True:=anJ (by omega);generalize bJ:(if k=5 then 39::s else s)=z;have b0:(k=5/\z=39::s)\/(¬k=5/\z=s):=by
  by_cases b0:k=5
  . exact .inl ⟨b0,by rw [<-bJ,anL b0]⟩
  . exact .inr ⟨b0,by rw [<-bJ,anE b0]⟩
 clear bJ;rcases b0 with ⟨b0,bJ⟩ | ⟨b0,bJ⟩
 . simp only [f64,P8,anJ b0,pr,anO,anP,↓aa,ae,simprocAttr];rw [<-bJ];clear bJ;refine bq (Ss z h) ?_;rintro x J ⟨al,ar⟩;cases cB:mc z with
   | error e=>
     rw [cB] at ar;simp only at ar;subst ar;obtain ⟨ad,av,aN,e'⟩:=je J [.int .i64 0,.int .i64 0] [.int .i64 e.1,.int .i64 e.2];by_cases he:e.1=0
     . simp only [av,e'.g,anJ he,↓aa,ae,simprocAttr];exact al.trans aN
     . simp only [av,e'.g,anA he,↓aa,ae,simprocAttr];exact al.trans aN
   | ok ws=>
     rw [cB] at ar;simp only at ar;obtain ⟨v,rfl,S⟩:=ar;obtain ⟨ad,av,aN,e'⟩:=je J [.int .i64 0,.int .i64 0] [.int .i64 0,.int .i64 0];have h':=(S.ext aN).v;have aw:=h'.len;have c0:=h'.one
     match ws,cB,h',aw with
     | [],_,h',aw=>
       have gu:mb v=some (.int .i64 0):=aw;simp only [av,e'.g,gu,c0.1,c0.2.1,↓aa,ae,simprocAttr];exact al.trans aN
     | [w],cB,h',aw=>
       have gu:mb v=some (.int .i64 1):=aw;obtain ⟨b9,dc,hd,dp⟩:=h'.dj (k:=.i64) (i:=0) (by simp);have sM:iD 4 v (.int .i64 0)=some (.ptr b9 dc):=by simpa using hd
       have d0:jL (ad.get b9) dc=some (.int .i64 w.kind):=by have:=dp.ep (i:=0) (by simp [jO,cd.enc]);simpa [jO,cd.enc] using this
       have d2:jL (ad.get b9) (dc+2)=some (.int .i64 w.pos):=by have:=dp.ep (i:=2) (by simp [jO,cd.enc]);simpa [jO,cd.enc] using this
       have d3:jL (ad.get b9) (dc+3)=some (.str w.text):=by have:=dp.ep (i:=3) (by simp [jO,cd.enc]);simpa [jO,cd.enc] using this
       have hN:o0 4 (ad.get b9) dc=some (.agg [.int .i64 w.kind,.int .i64 w.num,.int .i64 w.pos,.str w.text]):=by have:=dp.jM (i:=0) (n:=4) (by simp [jO,cd.enc]);simpa [jO,cd.enc] using this
       by_cases bW:w.kind=k
       . by_cases cu:(w.pos:Int)=0
         . by_cases c3:w.text=[]
           . have qb:((0:Int) < (w.text.length:Int))=False:=by rw [c3];simp
             simp only [av,e'.g,gu,c0.1,c0.2.1,sM,d0,d2,d3,hN,anJ bW,anJ cu,qb,↓aa,ae,simprocAttr];exact ⟨by rw [c3];simp,al.trans aN⟩
           . have qb:((0:Int) < (w.text.length:Int))=True:=anJ (by have:=List.length_pos_iff.2 c3;omega);have aE:w.text.length<=64:=by
              have hm:w.kind=3\/w.kind=4\/w.kind=5:=by rw [bW];exact ay
              unfold mc at cB
              split at cB
              . cases cB
              . split at cB
                . cases cB
                . exact Sq _ _ _ _ cB w (by simp) hm
             simp only [av,e'.g,gu,c0.1,c0.2.1,sM,d0,d2,d3,hN,anJ bW,anJ cu,qb,↓aa,ae,simprocAttr];refine bq (UG _ _ _ w.text z ad (by omega)) ?_;rintro x aC ⟨rfl,cj⟩;simp only [↓aa,ae,simprocAttr];refine ⟨?_,(al.trans aN).trans cj⟩;have Ht:w.pos=0:=by omega
             simp [bW,Ht,c3]
         . simp only [av,e'.g,gu,c0.1,c0.2.1,sM,d0,d2,d3,hN,anJ bW,anA cu,↓aa,ae,simprocAttr]
           exact ⟨by have:¬w.pos=0:=by omega
                     simp [this],al.trans aN⟩
       . simp only [av,e'.g,gu,c0.1,c0.2.1,sM,d0,d2,d3,hN,anA bW,↓aa,ae,simprocAttr]
         first | exact al.trans aN | exact ⟨by simp [bW],al.trans aN⟩
     | w::b1::ws,_,h',aw=>
       have gu:(((ws.length+2:Nat):Int)=1)=False:=anA (by omega);have IU:mb v=some (.int .i64 ((ws.length+2:Nat):Int)):=aw;simp only [av,e'.g,IU,gu,c0.1,c0.2.1,↓aa,ae,simprocAttr];exact al.trans aN
 . simp only [f64,P8,anA b0,↓aa,ae,simprocAttr];rw [<-bJ];clear bJ;refine bq (Ss z h) ?_;rintro x J ⟨al,ar⟩;cases cB:mc z with
   | error e=>
     rw [cB] at ar;simp only at ar;subst ar;obtain ⟨ad,av,aN,e'⟩:=je J [.int .i64 0,.int .i64 0] [.int .i64 e.1,.int .i64 e.2];by_cases he:e.1=0
     . simp only [av,e'.g,anJ he,↓aa,ae,simprocAttr];exact al.trans aN
     . simp only [av,e'.g,anA he,↓aa,ae,simprocAttr];exact al.trans aN
   | ok ws=>
     rw [cB] at ar;simp only at ar;obtain ⟨v,rfl,S⟩:=ar;obtain ⟨ad,av,aN,e'⟩:=je J [.int .i64 0,.int .i64 0] [.int .i64 0,.int .i64 0];have h':=(S.ext aN).v;have aw:=h'.len;have c0:=h'.one
     match ws,cB,h',aw with
     | [],_,h',aw=>
       have gu:mb v=some (.int .i64 0):=aw;simp only [av,e'.g,gu,c0.1,c0.2.1,↓aa,ae,simprocAttr];exact al.trans aN
     | [w],cB,h',aw=>
       have gu:mb v=some (.int .i64 1):=aw;obtain ⟨b9,dc,hd,dp⟩:=h'.dj (k:=.i64) (i:=0) (by simp);have sM:iD 4 v (.int .i64 0)=some (.ptr b9 dc):=by simpa using hd
       have d0:jL (ad.get b9) dc=some (.int .i64 w.kind):=by have:=dp.ep (i:=0) (by simp [jO,cd.enc]);simpa [jO,cd.enc] using this
       have d2:jL (ad.get b9) (dc+2)=some (.int .i64 w.pos):=by have:=dp.ep (i:=2) (by simp [jO,cd.enc]);simpa [jO,cd.enc] using this
       have d3:jL (ad.get b9) (dc+3)=some (.str w.text):=by have:=dp.ep (i:=3) (by simp [jO,cd.enc]);simpa [jO,cd.enc] using this
       have hN:o0 4 (ad.get b9) dc=some (.agg [.int .i64 w.kind,.int .i64 w.num,.int .i64 w.pos,.str w.text]):=by have:=dp.jM (i:=0) (n:=4) (by simp [jO,cd.enc]);simpa [jO,cd.enc] using this
       by_cases bW:w.kind=k
       . by_cases cu:(w.pos:Int)=0
         . by_cases c3:w.text=[]
           . have qb:((0:Int) < (w.text.length:Int))=False:=by rw [c3];simp
             simp only [av,e'.g,gu,c0.1,c0.2.1,sM,d0,d2,d3,hN,anJ bW,anJ cu,qb,↓aa,ae,simprocAttr];exact ⟨by rw [c3];simp,al.trans aN⟩
           . have qb:((0:Int) < (w.text.length:Int))=True:=anJ (by have:=List.length_pos_iff.2 c3;omega);have aE:w.text.length<=64:=by
              have hm:w.kind=3\/w.kind=4\/w.kind=5:=by rw [bW];exact ay
              unfold mc at cB
              split at cB
              . cases cB
              . split at cB
                . cases cB
                . exact Sq _ _ _ _ cB w (by simp) hm
             simp only [av,e'.g,gu,c0.1,c0.2.1,sM,d0,d2,d3,hN,anJ bW,anJ cu,qb,↓aa,ae,simprocAttr];refine bq (UG _ _ _ w.text z ad (by omega)) ?_;rintro x aC ⟨rfl,cj⟩;simp only [↓aa,ae,simprocAttr];refine ⟨?_,(al.trans aN).trans cj⟩;have Ht:w.pos=0:=by omega
             simp [bW,Ht,c3]
         . simp only [av,e'.g,gu,c0.1,c0.2.1,sM,d0,d2,d3,hN,anJ bW,anA cu,↓aa,ae,simprocAttr]
           exact ⟨by have:¬w.pos=0:=by omega
                     simp [this],al.trans aN⟩
       . simp only [av,e'.g,gu,c0.1,c0.2.1,sM,d0,d2,d3,hN,anA bW,↓aa,ae,simprocAttr]
         first | exact al.trans aN | exact ⟨by simp [bW],al.trans aN⟩
     | w::b1::ws,_,h',aw=>
       have gu:(((ws.length+2:Nat):Int)=1)=False:=anA (by omega);have IU:mb v=some (.int .i64 ((ws.length+2:Nat):Int)):=aw;simp only [av,e'.g,IU,gu,c0.1,c0.2.1,↓aa,ae,simprocAttr];exact al.trans aN
theorem ET {k:Int} (h:fx k≠0):k=1\/k=2\/k=3\/k=4\/k=10\/k=13\/k=11\/k=12\/k=14\/k=15\/k=16\/k=20\/k=21\/k=22\/k=23\/k=24\/k=25\/k=26\/k=28\/k=35\/k=37\/k=38\/k=34\/k=36\/k=39\/k=31\/k=27\/k=29\/k=30\/k=32\/k=33\/k=45\/k=46\/k=47\/k=51\/k=52\/k=53\/k=50:=by
 cases aK:pP k with
 | none=>exact absurd (Ul aK) h
 | some r=>
   have hm:=FZ (l:=s8) aK;simp only [s8,an2,aoS,List.not_mem_nil,apm] at hm;omega
theorem aiG (h:ah):b8 Tryz.prog 100 [] h fun x ab=>x=.slice (aD h.next) 0 8 8/\ab=h.new (.a_ (ed opsL) 0 false):=by refine Xj.z rfl (ck ?_);unfold MC;simp only [↓aa,ae,simprocAttr];rfl
theorem akR (t:aQ) (ay:fx t.k≠0) (ai:List V) (h:ah) (H:cg Any h t.enc ai):b8 Tryz.prog 79 [.agg ai] h fun x ab=>x=.bool (rX dG t.k t.s)/\Ext h ab:=by
 obtain ⟨eS,rfl,L,aL⟩:=aQ.open H;have ol:=L.one;obtain ⟨k,n,a,s,l⟩:=t;simp only [aQ.k,aQ.n,aQ.a,aQ.s,aQ.l] at *;refine YE.z rfl (ck ?_);unfold Ov;obtain ⟨J,ag,al,aG⟩:=f' h [.int .i64 k,.int .i64 n,.int .i64 a,.str s,eS];have g1:=aG.g;clear L H;rcases ET ay with rfl | rfl | rfl | rfl | rfl | rfl | rfl | rfl | rfl | rfl | rfl | rfl | rfl | rfl | rfl | rfl | rfl | rfl | rfl | rfl | rfl | rfl | rfl | rfl | rfl | rfl | rfl | rfl | rfl | rfl | rfl | rfl | rfl | rfl | rfl | rfl | rfl | rfl
 . simp only [ol.1,ol.2.1,ag,g1,↓aa,ae,simprocAttr];refine bq (o6 5 s aL (by simp) J) ?_;rintro x ad ⟨rfl,aN⟩;simp only [↓aa,ae,simprocAttr];exact ⟨by rfl,al.trans aN⟩
 . simp only [ol.1,ol.2.1,ag,g1,↓aa,ae,simprocAttr];refine bq (o6 3 s aL (by simp) J) ?_;rintro x ad ⟨rfl,aN⟩;simp only [↓aa,ae,simprocAttr];exact ⟨by rfl,al.trans aN⟩
 . simp only [ol.1,ol.2.1,ag,g1,↓aa,ae,simprocAttr];exact ⟨by rfl,al⟩
 . simp only [ol.1,ol.2.1,ag,g1,↓aa,ae,simprocAttr];exact ⟨by rfl,al⟩
 . simp only [ol.1,ol.2.1,ag,g1,↓aa,ae,simprocAttr];exact ⟨by rfl,al⟩
 . simp only [ol.1,ol.2.1,ag,g1,↓aa,ae,simprocAttr];exact ⟨by rfl,al⟩
 . simp only [ol.1,ol.2.1,ag,g1,↓aa,ae,simprocAttr];refine bq (o6 3 s aL (by simp) J) ?_;rintro x ad ⟨rfl,aN⟩;simp only [↓aa,ae,simprocAttr];exact ⟨by rfl,al.trans aN⟩
 . simp only [ol.1,ol.2.1,ag,g1,↓aa,ae,simprocAttr];exact ⟨by rfl,al⟩
 . simp only [ol.1,ol.2.1,ag,g1,↓aa,ae,simprocAttr];exact ⟨by rfl,al⟩
 . simp only [ol.1,ol.2.1,ag,g1,↓aa,ae,simprocAttr];exact ⟨by rfl,al⟩
 . simp only [ol.1,ol.2.1,ag,g1,↓aa,ae,simprocAttr];refine bq (o6 4 s aL (by simp) J) ?_;rintro x ad ⟨rfl,aN⟩;simp only [↓aa,ae,simprocAttr];exact ⟨by rfl,al.trans aN⟩
 . simp only [ol.1,ol.2.1,ag,g1,↓aa,ae,simprocAttr];exact ⟨by rfl,al⟩
 . simp only [ol.1,ol.2.1,ag,g1,↓aa,ae,simprocAttr];have bp:rX dG 21 s=decide ((s.length:Int)<=4096):=by
    show decide (s.length<=4096)=_;exact decide_eq_decide.2 ⟨fun q=>by omega,fun q=>by omega⟩
   exact ⟨by rw [bp],al⟩
 . simp only [ol.1,ol.2.1,ag,g1,↓aa,ae,simprocAttr];exact ⟨by rfl,al⟩
 . simp only [ol.1,ol.2.1,ag,g1,↓aa,ae,simprocAttr];exact ⟨by rfl,al⟩
 . simp only [ol.1,ol.2.1,ag,g1,↓aa,ae,simprocAttr];refine bq (o6 3 s aL (by simp) J) ?_;rintro x ad ⟨rfl,aN⟩;simp only [↓aa,ae,simprocAttr];exact ⟨by rfl,al.trans aN⟩
 . simp only [ol.1,ol.2.1,ag,g1,↓aa,ae,simprocAttr];refine bq (o6 4 s aL (by simp) J) ?_;rintro x ad ⟨rfl,aN⟩;simp only [↓aa,ae,simprocAttr];exact ⟨by rfl,al.trans aN⟩
 . simp only [ol.1,ol.2.1,ag,g1,↓aa,ae,simprocAttr];exact ⟨by rfl,al⟩
 . simp only [ol.1,ol.2.1,ag,g1,↓aa,ae,simprocAttr];exact ⟨by rfl,al⟩
 . simp only [ol.1,ol.2.1,ag,g1,↓aa,ae,simprocAttr];exact ⟨by rfl,al⟩
 . simp only [ol.1,ol.2.1,ag,g1,↓aa,ae,simprocAttr];exact ⟨by rfl,al⟩
 . simp only [ol.1,ol.2.1,ag,g1,↓aa,ae,simprocAttr];refine bq (aiG J) ?_;rintro x ad ⟨rfl,rfl⟩;have aN:Ext J (J.new (.a_ (ed opsL) 0 false)):=(Ext.refl J).new _;have g2:=(aG.ext aN).g;simp only [g1,g2,↓aa,ae,simprocAttr];refine ey (ud s opsL _ 8 _ (by decide) (by rw [jD])) ?_;simp only [g1,g2,↓aa,ae,simprocAttr];exact ⟨by rfl,al.trans aN⟩
 . simp only [ol.1,ol.2.1,ag,g1,↓aa,ae,simprocAttr];exact ⟨by rfl,al⟩
 . simp only [ol.1,ol.2.1,ag,g1,↓aa,ae,simprocAttr];exact ⟨by rfl,al⟩
 . simp only [ol.1,ol.2.1,ag,g1,↓aa,ae,simprocAttr];exact ⟨by rfl,al⟩
 . simp only [ol.1,ol.2.1,ag,g1,↓aa,ae,simprocAttr];exact ⟨by rfl,al⟩
 . simp only [ol.1,ol.2.1,ag,g1,↓aa,ae,simprocAttr];exact ⟨by rfl,al⟩
 . simp only [ol.1,ol.2.1,ag,g1,↓aa,ae,simprocAttr];exact ⟨by rfl,al⟩
 . simp only [ol.1,ol.2.1,ag,g1,↓aa,ae,simprocAttr];exact ⟨by rfl,al⟩
 . simp only [ol.1,ol.2.1,ag,g1,↓aa,ae,simprocAttr];exact ⟨by rfl,al⟩
 . simp only [ol.1,ol.2.1,ag,g1,↓aa,ae,simprocAttr];exact ⟨by rfl,al⟩
 . simp only [ol.1,ol.2.1,ag,g1,↓aa,ae,simprocAttr];exact ⟨by rfl,al⟩
 . simp only [ol.1,ol.2.1,ag,g1,↓aa,ae,simprocAttr];refine bq (o6 3 s aL (by simp) J) ?_;rintro x ad ⟨rfl,aN⟩;simp only [↓aa,ae,simprocAttr];exact ⟨by rfl,al.trans aN⟩
 . simp only [ol.1,ol.2.1,ag,g1,↓aa,ae,simprocAttr];refine bq (o6 4 s aL (by simp) J) ?_;rintro x ad ⟨rfl,aN⟩;simp only [↓aa,ae,simprocAttr];exact ⟨by rfl,al.trans aN⟩
 . simp only [ol.1,ol.2.1,ag,g1,↓aa,ae,simprocAttr];refine bq (o6 4 s aL (by simp) J) ?_;rintro x ad ⟨rfl,aN⟩;simp only [↓aa,ae,simprocAttr];exact ⟨by rfl,al.trans aN⟩
 . simp only [ol.1,ol.2.1,ag,g1,↓aa,ae,simprocAttr];exact ⟨by rfl,al⟩
 . simp only [ol.1,ol.2.1,ag,g1,↓aa,ae,simprocAttr];exact ⟨by rfl,al⟩
 . simp only [ol.1,ol.2.1,ag,g1,↓aa,ae,simprocAttr];refine bq (o6 3 s aL (by simp) J) ?_;rintro x ad ⟨rfl,aN⟩;simp only [↓aa,ae,simprocAttr];exact ⟨by rfl,al.trans aN⟩
theorem ah2 (t:aQ) (ay:fx t.k≠0) (ai:List V) (h:ah) (H:cg Any h t.enc ai):b8 Tryz.prog 80 [.agg ai] h fun x ab=>x=.bool (iv t.k t.n t.l.length)/\Ext h ab:=by
 obtain ⟨eS,rfl,L,aL⟩:=aQ.open H;have ol:=L.one;have aw:=L.len;rw [List.length_map] at aw;obtain ⟨k,n,a,s,l⟩:=t;simp only [aQ.k,aQ.n,aQ.a,aQ.s,aQ.l] at *;refine YG.z rfl (ck ?_);unfold Ox;obtain ⟨J,ag,al,aG⟩:=f' h [.int .i64 k,.int .i64 n,.int .i64 a,.str s,eS];have g1:=aG.g;clear L H;rcases ET ay with rfl | rfl | rfl | rfl | rfl | rfl | rfl | rfl | rfl | rfl | rfl | rfl | rfl | rfl | rfl | rfl | rfl | rfl | rfl | rfl | rfl | rfl | rfl | rfl | rfl | rfl | rfl | rfl | rfl | rfl | rfl | rfl | rfl | rfl | rfl | rfl | rfl | rfl
 . simp only [ol.1,ol.2.1,ag,g1,↓aa,ae,simprocAttr];exact ⟨by rfl,al⟩
 . simp only [ol.1,ol.2.1,ag,g1,↓aa,ae,simprocAttr];exact ⟨by rfl,al⟩
 . simp only [ol.1,ol.2.1,ag,g1,↓aa,ae,simprocAttr];exact ⟨by rfl,al⟩
 . simp only [ol.1,ol.2.1,ag,g1,↓aa,ae,simprocAttr];exact ⟨by rfl,al⟩
 . simp only [ol.1,ol.2.1,ag,g1,↓aa,ae,simprocAttr];exact ⟨by rfl,al⟩
 . simp only [ol.1,ol.2.1,ag,g1,↓aa,ae,simprocAttr];exact ⟨by rfl,al⟩
 . simp only [ol.1,ol.2.1,ag,g1,↓aa,ae,simprocAttr];exact ⟨by rfl,al⟩
 . by_cases b9:-1073741824<=n
   . simp only [ol.1,ol.2.1,ag,g1,ye b9,↓aa,ae,simprocAttr];exact ⟨by simp [iv,b9],al⟩
   . simp only [ol.1,ol.2.1,ag,g1,A2 (Int.not_le.1 b9),anA b9,↓aa,ae,simprocAttr];exact ⟨by simp [iv,b9],al⟩
 . by_cases b9:n=0
   . simp only [ol.1,ol.2.1,ag,g1,anJ b9,↓aa,ae,simprocAttr];exact ⟨by simp [iv,b9],al⟩
   . simp only [ol.1,ol.2.1,ag,g1,anA b9,↓aa,ae,simprocAttr];exact ⟨by simp [iv,b9],al⟩
 . simp only [ol.1,ol.2.1,ag,g1,↓aa,ae,simprocAttr];exact ⟨by rfl,al⟩
 . simp only [ol.1,ol.2.1,ag,g1,↓aa,ae,simprocAttr];exact ⟨by rfl,al⟩
 . by_cases b9:-1073741824<=n
   . simp only [ol.1,ol.2.1,ag,g1,ye b9,↓aa,ae,simprocAttr];exact ⟨by simp [iv,b9],al⟩
   . simp only [ol.1,ol.2.1,ag,g1,A2 (Int.not_le.1 b9),anA b9,↓aa,ae,simprocAttr];exact ⟨by simp [iv,b9],al⟩
 . simp only [ol.1,ol.2.1,ag,g1,↓aa,ae,simprocAttr];exact ⟨by rfl,al⟩
 . simp only [ol.1,ol.2.1,ag,g1,↓aa,ae,simprocAttr];exact ⟨by rfl,al⟩
 . by_cases b9:n=0
   . simp only [ol.1,ol.2.1,ag,g1,anJ b9,↓aa,ae,simprocAttr];exact ⟨by simp [iv,b9],al⟩
   . simp only [ol.1,ol.2.1,ag,g1,anA b9,↓aa,ae,simprocAttr];exact ⟨by simp [iv,b9],al⟩
 . simp only [ol.1,ol.2.1,ag,g1,↓aa,ae,simprocAttr];exact ⟨by rfl,al⟩
 . simp only [ol.1,ol.2.1,ag,g1,↓aa,ae,simprocAttr];exact ⟨by rfl,al⟩
 . simp only [ol.1,ol.2.1,ag,g1,↓aa,ae,simprocAttr];exact ⟨by rfl,al⟩
 . simp only [ol.1,ol.2.1,ag,g1,↓aa,ae,simprocAttr];exact ⟨by rfl,al⟩
 . simp only [ol.1,ol.2.1,ag,g1,↓aa,ae,simprocAttr];exact ⟨by rfl,al⟩
 . simp only [ol.1,ol.2.1,ag,g1,↓aa,ae,simprocAttr];exact ⟨by rfl,al⟩
 . simp only [ol.1,ol.2.1,ag,g1,↓aa,ae,simprocAttr];exact ⟨by rfl,al⟩
 . simp only [ol.1,ol.2.1,ag,g1,↓aa,ae,simprocAttr];exact ⟨by rfl,al⟩
 . simp only [ol.1,ol.2.1,ag,g1,↓aa,ae,simprocAttr];exact ⟨by rfl,al⟩
 . simp only [ol.1,ol.2.1,ag,g1,↓aa,ae,simprocAttr];exact ⟨by rfl,al⟩
 . simp only [ol.1,ol.2.1,ag,g1,↓aa,ae,simprocAttr];exact ⟨by rfl,al⟩
 . simp only [ol.1,ol.2.1,ag,g1,↓aa,ae,simprocAttr];exact ⟨by rfl,al⟩
 . simp only [ol.1,ol.2.1,ag,g1,↓aa,ae,simprocAttr];exact ⟨by rfl,al⟩
 . simp only [ol.1,ol.2.1,ag,g1,↓aa,ae,simprocAttr];exact ⟨by rfl,al⟩
 . simp only [ol.1,ol.2.1,ag,g1,↓aa,ae,simprocAttr];exact ⟨by rfl,al⟩
 . simp only [ol.1,ol.2.1,ag,g1,↓aa,ae,simprocAttr];exact ⟨by rfl,al⟩
 . simp only [ol.1,ol.2.1,ag,g1,↓aa,ae,simprocAttr];exact ⟨by rfl,al⟩
 . simp only [ol.1,ol.2.1,ag,g1,↓aa,ae,simprocAttr];exact ⟨by rfl,al⟩
 . simp only [ol.1,ol.2.1,ag,g1,↓aa,ae,simprocAttr];exact ⟨by rfl,al⟩
 . simp only [ol.1,ol.2.1,ag,g1,↓aa,ae,simprocAttr];exact ⟨by rfl,al⟩
 . simp only [ol.1,ol.2.1,ag,g1,↓aa,ae,simprocAttr];exact ⟨by rfl,al⟩
 . simp only [ol.1,ol.2.1,ag,g1,↓aa,ae,simprocAttr];exact ⟨by rfl,al⟩
 . by_cases b9:0<=n
   . by_cases cA:n<=64
     . simp only [ol.1,ol.2.1,ag,g1,aw,ye b9,anJ cA,↓aa,ae,simprocAttr];exact ⟨by simp [iv,b9,cA],al⟩
     . simp only [ol.1,ol.2.1,ag,g1,ye b9,anA cA,↓aa,ae,simprocAttr];exact ⟨by simp [iv,b9,cA],al⟩
   . simp only [ol.1,ol.2.1,ag,g1,A2 (Int.not_le.1 b9),anA b9,↓aa,ae,simprocAttr];exact ⟨by simp [iv,b9],al⟩
theorem iT (x m:Int) (hm:m<=2000000000) (h:ah):b8 Tryz.prog 101 [.int .i64 x,.int .i64 m] h fun y ab=>cZ h.next ab 1 y (List.replicate m.toNat x).length (mO (List.replicate m.toNat x))/\Ext h ab:=by
 refine Xk.z rfl (ck ?_);unfold MD;simp only [↓aa,ae,simprocAttr];refine fE (fun r g=>r 0=.int .i64 x/\r 1=.int .i64 m/\∃(i:Nat) (w:V),r 5=w/\r 6=.int .i64 i/\i<=m.toNat/\cZ h.next g 1 w i (mO (List.replicate i x))/\Ext h g) (fun r g=>m.toNat - (r 6).toN) ?_ ?_
 . exact ⟨by simp only [↓aa,cm,simprocAttr],by simp only [↓aa,cm,simprocAttr],0,.cr,by simp only [↓aa,cm,simprocAttr],by simp only [↓aa,cm,simprocAttr]<;>rfl,by omega,⟨rfl,rfl⟩,Ext.refl h⟩
 rintro r g ⟨ba,bM,i,w,cW,fY,au,W,E⟩;unfold ME;by_cases aH:i<m.toNat
 . have g0:((i:Int)<m)=True:=anJ (by omega);have dm:=iI aH (by omega);obtain ⟨w',g4,ag,av,aJ,bU,cX⟩:=xT (cs:=[.int .i64 x]) (by omega) W E.next (by unfold top;omega) rfl rfl
   simp only [ba,bM,cW,fY,g0,ag,dm,↓aa,ae,simprocAttr];refine ⟨⟨i+1,rfl,aH,?_,E.me aJ fun b aj=>W.base aj⟩,by omega⟩;rw [List.replicate_succ',JF];exact av
 . have g0:((i:Int)<m)=False:=anA (by omega);have:i=m.toNat:=by omega
   subst this;simp only [ba,bM,cW,fY,g0,↓aa,ae,simprocAttr];exact ⟨by rw [anF];exact W,E⟩
theorem gA {k n:Int} {l:List aQ} {gs:List Int} {p q:Prop} [Decidable p] [Decidable q] (h:cQ k n l=(gs,decide p)) (e:p↔q):cQ k n l=(gs,decide q):=h.trans (by rw [decide_eq_decide.2 e])
theorem aby (t:aQ) (ay:fx t.k≠0) (aX:iv t.k t.n t.l.length=true) (bK:t.l.length<=1000000000) (ai:List V) (h:ah) (H:cg Any h t.enc ai):
 b8 Tryz.prog 81 [.agg ai] h fun x ab=>∃v,x=.tuple [v,.bool (cQ t.k t.n t.l).2]/\ch Any ab 1 ((cQ t.k t.n t.l).1.map bb.nZ) v/\Ext h ab:=by
 obtain ⟨eS,rfl,L,aL⟩:=aQ.open H;have ol:=L.one;have aw:=L.len;rw [List.length_map] at aw;obtain ⟨k,n,a,s,l⟩:=t;simp only [aQ.k,aQ.n,aQ.a,aQ.s,aQ.l] at *;refine YH.z rfl (ck ?_);unfold Oy;obtain ⟨J,ag,al,aG⟩:=f' h [.int .i64 k,.int .i64 n,.int .i64 a,.str s,eS];have g1:=aG.g;have b6:=L.ext al;clear L H;rcases ET ay with rfl | rfl | rfl | rfl | rfl | rfl | rfl | rfl | rfl | rfl | rfl | rfl | rfl | rfl | rfl | rfl | rfl | rfl | rfl | rfl | rfl | rfl | rfl | rfl | rfl | rfl | rfl | rfl | rfl | rfl | rfl | rfl | rfl | rfl | rfl | rfl | rfl | rfl
 . rw [gA (q:=(l.length:Int)=0) (show cQ 1 n l=([],decide (l.length=0)) from rfl) ⟨fun q=>by omega,fun q=>by omega⟩];simp only [ol.1,ol.2.1,ag,g1,aw,↓aa,ae,simprocAttr];exact ⟨_,rfl,ch.nil _ _ _,al⟩
 . rw [gA (q:=(l.length:Int)<=64) (show cQ 2 n l=(List.replicate (l.length:Int).toNat 1,decide (l.length<=64)) from rfl) ⟨fun q=>by omega,fun q=>by omega⟩];simp only [ol.1,ol.2.1,ag,g1,aw,↓aa,ae,simprocAttr];refine bq (iT 1 (l.length:Int) (by omega) J) ?_;rintro y ad ⟨Y,aN⟩;simp only [↓aa,ae,simprocAttr];exact ⟨_,rfl,Y.hy (by rw [anF];unfold top;omega),al.trans aN⟩
 . rw [gA (q:=(l.length:Int)=2) (show cQ 3 n l=(List.replicate (2:Int).toNat 1,decide (l.length=2)) from rfl) ⟨fun q=>by omega,fun q=>by omega⟩];simp only [ol.1,ol.2.1,ag,g1,aw,↓aa,ae,simprocAttr];refine bq (iT 1 (2:Int) (by omega) J) ?_;rintro y ad ⟨Y,aN⟩;simp only [↓aa,ae,simprocAttr];exact ⟨_,rfl,Y.hy (by rw [anF];unfold top;omega),al.trans aN⟩
 . rw [gA (q:=(l.length:Int)=2) (show cQ 4 n l=(List.replicate (2:Int).toNat 1,decide (l.length=2)) from rfl) ⟨fun q=>by omega,fun q=>by omega⟩];simp only [ol.1,ol.2.1,ag,g1,aw,↓aa,ae,simprocAttr];refine bq (iT 1 (2:Int) (by omega) J) ?_;rintro y ad ⟨Y,aN⟩;simp only [↓aa,ae,simprocAttr];exact ⟨_,rfl,Y.hy (by rw [anF];unfold top;omega),al.trans aN⟩
 . rw [gA (q:=(l.length:Int)=0) (show cQ 10 n l=([],decide (l.length=0)) from rfl) ⟨fun q=>by omega,fun q=>by omega⟩];simp only [ol.1,ol.2.1,ag,g1,aw,↓aa,ae,simprocAttr];exact ⟨_,rfl,ch.nil _ _ _,al⟩
 . rw [gA (q:=(l.length:Int)=0) (show cQ 13 n l=([],decide (l.length=0)) from rfl) ⟨fun q=>by omega,fun q=>by omega⟩];simp only [ol.1,ol.2.1,ag,g1,aw,↓aa,ae,simprocAttr];exact ⟨_,rfl,ch.nil _ _ _,al⟩
 . rw [gA (q:=(l.length:Int)=0) (show cQ 11 n l=([],decide (l.length=0)) from rfl) ⟨fun q=>by omega,fun q=>by omega⟩];simp only [ol.1,ol.2.1,ag,g1,aw,↓aa,ae,simprocAttr];exact ⟨_,rfl,ch.nil _ _ _,al⟩
 . rw [gA (q:=(l.length:Int)=0) (show cQ 12 n l=([],decide (l.length=0)) from rfl) ⟨fun q=>by omega,fun q=>by omega⟩];simp only [ol.1,ol.2.1,ag,g1,aw,↓aa,ae,simprocAttr];exact ⟨_,rfl,ch.nil _ _ _,al⟩
 . rw [gA (q:=(l.length:Int)=0) (show cQ 14 n l=([],decide (l.length=0)) from rfl) ⟨fun q=>by omega,fun q=>by omega⟩];simp only [ol.1,ol.2.1,ag,g1,aw,↓aa,ae,simprocAttr];exact ⟨_,rfl,ch.nil _ _ _,al⟩
 . rw [gA (q:=(l.length:Int)=2) (show cQ 15 n l=(List.replicate (2:Int).toNat 2,decide (l.length=2)) from rfl) ⟨fun q=>by omega,fun q=>by omega⟩];simp only [ol.1,ol.2.1,ag,g1,aw,↓aa,ae,simprocAttr];refine bq (iT 2 (2:Int) (by omega) J) ?_;rintro y ad ⟨Y,aN⟩;simp only [↓aa,ae,simprocAttr];exact ⟨_,rfl,Y.hy (by rw [anF];unfold top;omega),al.trans aN⟩
 . rw [gA (q:=(l.length:Int)<=1) (show cQ 16 n l=(List.replicate (l.length:Int).toNat 2,decide (l.length<=1)) from rfl) ⟨fun q=>by omega,fun q=>by omega⟩];simp only [ol.1,ol.2.1,ag,g1,aw,↓aa,ae,simprocAttr];refine bq (iT 2 (l.length:Int) (by omega) J) ?_;rintro y ad ⟨Y,aN⟩;simp only [↓aa,ae,simprocAttr];exact ⟨_,rfl,Y.hy (by rw [anF];unfold top;omega),al.trans aN⟩
 . rw [gA (q:=(l.length:Int)=0) (show cQ 20 n l=([],decide (l.length=0)) from rfl) ⟨fun q=>by omega,fun q=>by omega⟩];simp only [ol.1,ol.2.1,ag,g1,aw,↓aa,ae,simprocAttr];exact ⟨_,rfl,ch.nil _ _ _,al⟩
 . rw [gA (q:=(l.length:Int)=0) (show cQ 21 n l=([],decide (l.length=0)) from rfl) ⟨fun q=>by omega,fun q=>by omega⟩];simp only [ol.1,ol.2.1,ag,g1,aw,↓aa,ae,simprocAttr];exact ⟨_,rfl,ch.nil _ _ _,al⟩
 . rw [gA (q:=(l.length:Int)=0) (show cQ 22 n l=([],decide (l.length=0)) from rfl) ⟨fun q=>by omega,fun q=>by omega⟩];simp only [ol.1,ol.2.1,ag,g1,aw,↓aa,ae,simprocAttr];exact ⟨_,rfl,ch.nil _ _ _,al⟩
 . rw [gA (q:=(l.length:Int)=0) (show cQ 23 n l=([],decide (l.length=0)) from rfl) ⟨fun q=>by omega,fun q=>by omega⟩];simp only [ol.1,ol.2.1,ag,g1,aw,↓aa,ae,simprocAttr];exact ⟨_,rfl,ch.nil _ _ _,al⟩
 . rw [gA (q:=(l.length:Int)=0) (show cQ 24 n l=([],decide (l.length=0)) from rfl) ⟨fun q=>by omega,fun q=>by omega⟩];simp only [ol.1,ol.2.1,ag,g1,aw,↓aa,ae,simprocAttr];exact ⟨_,rfl,ch.nil _ _ _,al⟩
 . rw [gA (q:=(l.length:Int)<=1) (show cQ 25 n l=(List.replicate (l.length:Int).toNat 3,decide (l.length<=1)) from rfl) ⟨fun q=>by omega,fun q=>by omega⟩];simp only [ol.1,ol.2.1,ag,g1,aw,↓aa,ae,simprocAttr];refine bq (iT 3 (l.length:Int) (by omega) J) ?_;rintro y ad ⟨Y,aN⟩;simp only [↓aa,ae,simprocAttr];exact ⟨_,rfl,Y.hy (by rw [anF];unfold top;omega),al.trans aN⟩
 . rw [gA (q:=(l.length:Int)=2) (show cQ 26 n l=(List.replicate (2:Int).toNat 3,decide (l.length=2)) from rfl) ⟨fun q=>by omega,fun q=>by omega⟩];simp only [ol.1,ol.2.1,ag,g1,aw,↓aa,ae,simprocAttr];refine bq (iT 3 (2:Int) (by omega) J) ?_;rintro y ad ⟨Y,aN⟩;simp only [↓aa,ae,simprocAttr];exact ⟨_,rfl,Y.hy (by rw [anF];unfold top;omega),al.trans aN⟩
 . rw [gA (q:=(l.length:Int)=2) (show cQ 28 n l=(List.replicate (2:Int).toNat 3,decide (l.length=2)) from rfl) ⟨fun q=>by omega,fun q=>by omega⟩];simp only [ol.1,ol.2.1,ag,g1,aw,↓aa,ae,simprocAttr];refine bq (iT 3 (2:Int) (by omega) J) ?_;rintro y ad ⟨Y,aN⟩;simp only [↓aa,ae,simprocAttr];exact ⟨_,rfl,Y.hy (by rw [anF];unfold top;omega),al.trans aN⟩
 . rw [gA (q:=(l.length:Int)=2) (show cQ 35 n l=(List.replicate (2:Int).toNat 3,decide (l.length=2)) from rfl) ⟨fun q=>by omega,fun q=>by omega⟩];simp only [ol.1,ol.2.1,ag,g1,aw,↓aa,ae,simprocAttr];refine bq (iT 3 (2:Int) (by omega) J) ?_;rintro y ad ⟨Y,aN⟩;simp only [↓aa,ae,simprocAttr];exact ⟨_,rfl,Y.hy (by rw [anF];unfold top;omega),al.trans aN⟩
 . rw [gA (q:=(l.length:Int)=2) (show cQ 37 n l=(List.replicate (2:Int).toNat 3,decide (l.length=2)) from rfl) ⟨fun q=>by omega,fun q=>by omega⟩];simp only [ol.1,ol.2.1,ag,g1,aw,↓aa,ae,simprocAttr];refine bq (iT 3 (2:Int) (by omega) J) ?_;rintro y ad ⟨Y,aN⟩;simp only [↓aa,ae,simprocAttr];exact ⟨_,rfl,Y.hy (by rw [anF];unfold top;omega),al.trans aN⟩
 . rw [gA (q:=(l.length:Int)=2) (show cQ 38 n l=(List.replicate (2:Int).toNat 3,decide (l.length=2)) from rfl) ⟨fun q=>by omega,fun q=>by omega⟩];simp only [ol.1,ol.2.1,ag,g1,aw,↓aa,ae,simprocAttr];refine bq (iT 3 (2:Int) (by omega) J) ?_;rintro y ad ⟨Y,aN⟩;simp only [↓aa,ae,simprocAttr];exact ⟨_,rfl,Y.hy (by rw [anF];unfold top;omega),al.trans aN⟩
 . rw [gA (q:=(l.length:Int)=1) (show cQ 34 n l=(List.replicate (1:Int).toNat 3,decide (l.length=1)) from rfl) ⟨fun q=>by omega,fun q=>by omega⟩];simp only [ol.1,ol.2.1,ag,g1,aw,↓aa,ae,simprocAttr];refine bq (iT 3 (1:Int) (by omega) J) ?_;rintro y ad ⟨Y,aN⟩;simp only [↓aa,ae,simprocAttr];exact ⟨_,rfl,Y.hy (by rw [anF];unfold top;omega),al.trans aN⟩
 . rw [gA (q:=(l.length:Int)=1) (show cQ 36 n l=(List.replicate (1:Int).toNat 3,decide (l.length=1)) from rfl) ⟨fun q=>by omega,fun q=>by omega⟩];simp only [ol.1,ol.2.1,ag,g1,aw,↓aa,ae,simprocAttr];refine bq (iT 3 (1:Int) (by omega) J) ?_;rintro y ad ⟨Y,aN⟩;simp only [↓aa,ae,simprocAttr];exact ⟨_,rfl,Y.hy (by rw [anF];unfold top;omega),al.trans aN⟩
 . rw [gA (q:=(l.length:Int)=1) (show cQ 39 n l=(List.replicate (1:Int).toNat 3,decide (l.length=1)) from rfl) ⟨fun q=>by omega,fun q=>by omega⟩];simp only [ol.1,ol.2.1,ag,g1,aw,↓aa,ae,simprocAttr];refine bq (iT 3 (1:Int) (by omega) J) ?_;rintro y ad ⟨Y,aN⟩;simp only [↓aa,ae,simprocAttr];exact ⟨_,rfl,Y.hy (by rw [anF];unfold top;omega),al.trans aN⟩
 . rw [gA (q:=(l.length:Int)=3) (show cQ 31 n l=(List.replicate (3:Int).toNat 3,decide (l.length=3)) from rfl) ⟨fun q=>by omega,fun q=>by omega⟩];simp only [ol.1,ol.2.1,ag,g1,aw,↓aa,ae,simprocAttr];refine bq (iT 3 (3:Int) (by omega) J) ?_;rintro y ad ⟨Y,aN⟩;simp only [↓aa,ae,simprocAttr];exact ⟨_,rfl,Y.hy (by rw [anF];unfold top;omega),al.trans aN⟩
 . rw [gA (q:=(l.length:Int)=2) (show cQ 27 n l=([2,3],decide (l.length=2)) from rfl) ⟨fun q=>by omega,fun q=>by omega⟩];obtain ⟨ad,av,aN,Y⟩:=uw J 1 2 [.int .i64 2,.int .i64 3] rfl (by unfold top;omega);simp only [ol.1,ol.2.1,ag,av,g1,aw,↓aa,ae,simprocAttr];exact ⟨_,rfl,cZ.hy (l:=[2,3]) Y (by simp [top]),al.trans aN⟩
 . rw [gA (q:=(l.length:Int)=3) (show cQ 29 n l=([2,3,3],decide (l.length=3)) from rfl) ⟨fun q=>by omega,fun q=>by omega⟩];obtain ⟨ad,av,aN,Y⟩:=uw J 1 3 [.int .i64 2,.int .i64 3,.int .i64 3] rfl (by unfold top;omega);simp only [ol.1,ol.2.1,ag,av,g1,aw,↓aa,ae,simprocAttr];exact ⟨_,rfl,cZ.hy (l:=[2,3,3]) Y (by simp [top]),al.trans aN⟩
 . rw [gA (q:=(l.length:Int)>=2) (show cQ 30 n l=(List.replicate (l.length-1) (5:Int)++[3],decide (2<=l.length)) from rfl) ⟨fun q=>by omega,fun q=>by omega⟩];have b4:IntKind.i64.wrap ((l.length:Int)-1)=(l.length:Int)-1:=wrap_i64 (by omega) (by omega);simp only [ol.1,ol.2.1,ag,g1,aw,b4,↓aa,ae,simprocAttr];refine bq (iT 5 ((l.length:Int)-1) (by omega) J) ?_;rintro y ad ⟨Y,aN⟩;rw [show ((l.length:Int)-1).toNat=l.length-1 from by omega] at Y;obtain ⟨w',aC,av,aJ,bU,cX,ev⟩:=xT (cs:=[.int .i64 3]) (by omega) Y aN.next (by rw [anF];unfold top;omega) rfl rfl
   simp only [av,↓aa,ae,simprocAttr];have Z:cZ J.next aC 1 w' (List.replicate (l.length-1) (5:Int)++[3]).length (mO (List.replicate (l.length-1) (5:Int)++[3])):=by rw [anw,JF];exact aJ
   exact ⟨_,rfl,Z.hy (by rw [anw,anF];simp only [List.length_singleton];unfold top;omega),(al.trans aN).me bU fun b aj=>aol al.next (Y.base aj)⟩
 . rw [gA (q:=(l.length:Int)>=2) (show cQ 32 n l=(3::List.replicate (l.length-1) (4:Int),decide (2<=l.length)) from rfl) ⟨fun q=>by omega,fun q=>by omega⟩];have b4:IntKind.i64.wrap ((l.length:Int)-1)=(l.length:Int)-1:=wrap_i64 (by omega) (by omega);obtain ⟨ad,av,aN,Y⟩:=uw J 1 1 [.int .i64 3] rfl (by unfold top;omega);simp only [ol.1,ol.2.1,ag,av,g1,aw,b4,↓aa,ae,simprocAttr];refine bq (iT 4 ((l.length:Int)-1) (by omega) ad) ?_;rintro y aC ⟨Z,cj⟩;rw [show ((l.length:Int)-1).toNat=l.length-1 from by omega] at Z;obtain ⟨w',bn,cy,fj,kF,qJ⟩:=Au (by omega) (Y.ext cj) Z.v (aol aN.next cj.next) (by rw [anF];unfold top;omega) (Fm _);simp only [cy,↓aa,ae,simprocAttr];have W:cZ J.next bn 1 w' (3::List.replicate (l.length-1) (4:Int)).length (mO (3::List.replicate (l.length-1) (4:Int))):=by
    rw [anz,apy];exact fj
   exact ⟨_,rfl,W.hy (by rw [anz,anF];unfold top;omega),((al.trans aN).trans cj).me kF fun b aj=>aol al.next (Y.base aj)⟩
 . rw [gA (q:=(l.length:Int)>=2) (show cQ 33 n l=(3::List.replicate (l.length-1) (4:Int),decide (2<=l.length)) from rfl) ⟨fun q=>by omega,fun q=>by omega⟩];have b4:IntKind.i64.wrap ((l.length:Int)-1)=(l.length:Int)-1:=wrap_i64 (by omega) (by omega);obtain ⟨ad,av,aN,Y⟩:=uw J 1 1 [.int .i64 3] rfl (by unfold top;omega);simp only [ol.1,ol.2.1,ag,av,g1,aw,b4,↓aa,ae,simprocAttr];refine bq (iT 4 ((l.length:Int)-1) (by omega) ad) ?_;rintro y aC ⟨Z,cj⟩;rw [show ((l.length:Int)-1).toNat=l.length-1 from by omega] at Z;obtain ⟨w',bn,cy,fj,kF,qJ⟩:=Au (by omega) (Y.ext cj) Z.v (aol aN.next cj.next) (by rw [anF];unfold top;omega) (Fm _);simp only [cy,↓aa,ae,simprocAttr];have W:cZ J.next bn 1 w' (3::List.replicate (l.length-1) (4:Int)).length (mO (3::List.replicate (l.length-1) (4:Int))):=by
    rw [anz,apy];exact fj
   exact ⟨_,rfl,W.hy (by rw [anz,anF];unfold top;omega),((al.trans aN).trans cj).me kF fun b aj=>aol al.next (Y.base aj)⟩
 . rw [gA (q:=(l.length:Int)=2) (show cQ 45 n l=([2,3],decide (l.length=2)) from rfl) ⟨fun q=>by omega,fun q=>by omega⟩];obtain ⟨ad,av,aN,Y⟩:=uw J 1 2 [.int .i64 2,.int .i64 3] rfl (by unfold top;omega);simp only [ol.1,ol.2.1,ag,av,g1,aw,↓aa,ae,simprocAttr];exact ⟨_,rfl,cZ.hy (l:=[2,3]) Y (by simp [top]),al.trans aN⟩
 . by_cases H_:l.length=1
   . obtain ⟨u,rfl⟩:∃u,l=[u]:=by
      match l,H_ with
      | [u],_=>exact ⟨u,rfl⟩
     rw [show cQ 46 n [u]=(List.replicate (1:Int).toNat 3,decide (u.k=27)) from by simp [cQ,HZ]];obtain ⟨b,off,wl,dj,X,cz,ld,pC,_,_⟩:=aQ.lx b6 (k:=.i64) (i:=0) (by simp);have Rx:iD 5 eS (.int .i64 0)=some (.ptr b off):=by simpa using dj
     have d0:∀ab,Ext J ab->jL (ab.get b) off=some (.int .i64 u.k):=fun ab e=>by simpa using pC ab e
     have d1:=d0 J (Ext.refl _);simp only [ol.1,ol.2.1,ag,g1,aw,Rx,d1,anz,anH,↓aa,ae,simprocAttr];refine bq (iT 3 1 (by omega) J) ?_;rintro y ad ⟨Y,aN⟩;have d2:=d0 ad aN;have g2:=(aG.ext aN).g;simp only [g1,g2,Rx,d1,d2,↓aa,ae,simprocAttr];exact ⟨_,rfl,Y.hy (by simp [top]),al.trans aN⟩
   . rw [show cQ 46 n l=(List.replicate (1:Int).toNat 3,false) from by simp [cQ,H_]];have f1:((l.length:Int)=1)=False:=anA (by omega);simp only [ol.1,ol.2.1,ag,g1,aw,f1,↓aa,ae,simprocAttr];refine bq (iT 3 1 (by omega) J) ?_;rintro y ad ⟨Y,aN⟩;have g2:=(aG.ext aN).g;simp only [g1,g2,f1,↓aa,ae,simprocAttr];exact ⟨_,rfl,Y.hy (by simp [top]),al.trans aN⟩
 . rw [gA (q:=(l.length:Int)<=1) (show cQ 47 n l=(List.replicate (l.length:Int).toNat 1,decide (l.length<=1)) from rfl) ⟨fun q=>by omega,fun q=>by omega⟩];simp only [ol.1,ol.2.1,ag,g1,aw,↓aa,ae,simprocAttr];refine bq (iT 1 (l.length:Int) (by omega) J) ?_;rintro y ad ⟨Y,aN⟩;simp only [↓aa,ae,simprocAttr];exact ⟨_,rfl,Y.hy (by rw [anF];unfold top;omega),al.trans aN⟩
 . rw [gA (q:=(l.length:Int)<=1) (show cQ 51 n l=(List.replicate (l.length:Int).toNat 1,decide (l.length<=1)) from rfl) ⟨fun q=>by omega,fun q=>by omega⟩];simp only [ol.1,ol.2.1,ag,g1,aw,↓aa,ae,simprocAttr];refine bq (iT 1 (l.length:Int) (by omega) J) ?_;rintro y ad ⟨Y,aN⟩;simp only [↓aa,ae,simprocAttr];exact ⟨_,rfl,Y.hy (by rw [anF];unfold top;omega),al.trans aN⟩
 . rw [gA (q:=(l.length:Int)=2) (show cQ 52 n l=([2,3],decide (l.length=2)) from rfl) ⟨fun q=>by omega,fun q=>by omega⟩];obtain ⟨ad,av,aN,Y⟩:=uw J 1 2 [.int .i64 2,.int .i64 3] rfl (by unfold top;omega);simp only [ol.1,ol.2.1,ag,av,g1,aw,↓aa,ae,simprocAttr];exact ⟨_,rfl,cZ.hy (l:=[2,3]) Y (by simp [top]),al.trans aN⟩
 . rw [gA (q:=(l.length:Int)>=1) (show cQ 53 n l=(List.replicate (l.length:Int).toNat 5,decide (1<=l.length)) from rfl) ⟨fun q=>by omega,fun q=>by omega⟩];simp only [ol.1,ol.2.1,ag,g1,aw,↓aa,ae,simprocAttr];refine bq (iT 5 (l.length:Int) (by omega) J) ?_;rintro y ad ⟨Y,aN⟩;simp only [↓aa,ae,simprocAttr];exact ⟨_,rfl,Y.hy (by rw [anF];unfold top;omega),al.trans aN⟩
 . have l5:0<=n/\n<=64/\n<l.length:=by simpa [iv,and_assoc] using aX
   obtain ⟨de,kX,n3⟩:=l5;rw [show cQ 50 n l=(List.replicate n.toNat (8:Int)++List.replicate (l.length-n.toNat) (6:Int),true) from rfl];have b4:IntKind.i64.wrap ((l.length:Int)-n)=(l.length:Int)-n:=wrap_i64 (by omega) (by omega);simp only [ol.1,ol.2.1,ag,g1,aw,b4,↓aa,ae,simprocAttr];refine bq (iT 8 n (by omega) J) ?_;rintro y ad ⟨Y,aN⟩;have g2:=(aG.ext aN).g;simp only [g1,g2,aw,b4,↓aa,ae,simprocAttr];refine bq (iT 6 ((l.length:Int)-n) (by omega) ad) ?_;rintro z aC ⟨Z,cj⟩;have g3:=((aG.ext aN).ext cj).g;rw [show ((l.length:Int)-n).toNat=l.length-n.toNat from by omega] at Z;obtain ⟨w',bn,cy,fj,kF,qJ⟩:=Au (by omega) (Y.ext cj) Z.v (aol aN.next cj.next) (by rw [anF,anF];unfold top;omega) (Fm _);simp only [cy,g1,g2,g3,aw,b4,↓aa,ae,simprocAttr];have W:cZ J.next bn 1 w' (List.replicate n.toNat (8:Int)++List.replicate (l.length-n.toNat) (6:Int)).length (mO (List.replicate n.toNat (8:Int)++List.replicate (l.length-n.toNat) (6:Int))):=by rw [anw,JF];exact fj
   exact ⟨_,rfl,W.hy (by rw [anw,anF,anF];unfold top;omega),((al.trans aN).trans cj).me kF fun b aj=>aol al.next (Y.base aj)⟩
theorem ajI {k n:Int} {l:List aQ} (ay:fx k≠0) (aX:iv k n l.length=true) (h:(cQ k n l).2=true):(cQ k n l).1.length=l.length:=by
 rcases ET ay with rfl | rfl | rfl | rfl | rfl | rfl | rfl | rfl | rfl | rfl | rfl | rfl | rfl | rfl | rfl | rfl | rfl | rfl | rfl | rfl | rfl | rfl | rfl | rfl | rfl | rfl | rfl | rfl | rfl | rfl | rfl | rfl | rfl | rfl | rfl | rfl | rfl | rfl<;>
 simp [cQ,iv] at h aX ⊢<;>first | omega | simp_all
theorem ajN (t:aQ):t.j5 dG=(decide (fx t.k≠0)&&rX dG t.k t.s&&iv t.k t.n t.l.length&&decide (0<=t.a)&&decide (t.a<=65536)&&(cQ t.k t.n t.l).2&&lH dG (cQ t.k t.n t.l).1 t.l):=by cases t;rw [aQ.j5];rfl
theorem K1:∀(N:Nat) (t:aQ),t.size<=N->N<=1000000000->∀(ai:List V) (h:ah),cg Any h t.enc ai->b8 Tryz.prog 43 [.agg ai] h fun x ab=>x=.bool (t.j5 dG)/\Ext h ab
 | 0,t,aL,_,_,_,_=>by have:=w6 t;omega
 | N+1,t,aL,Ij,ai,h,H=>by
   have CZ:=H;obtain ⟨eS,rfl,L,_⟩:=aQ.open H;have aM:N<=1000000000:=by omega
   have ol:=L.one;have aw:=L.len;have hle:=L.le;rw [anK] at aw hle;have cx:=size_eq t;have kA:=CC t.l;refine X'.z rfl (ck ?_);unfold NS;obtain ⟨J,ag,al,aG⟩:=f' h [.int .i64 t.k,.int .i64 t.n,.int .i64 t.a,.str t.s,eS];simp only [ol.1,ol.2.1,ag,aG.g,↓aa,ae,simprocAttr];refine bq (KZ t.k J) ?_;rintro x ad ⟨rfl,rfl⟩;rw [ajN];by_cases an:fx t.k=0
   . simp only [anJ an,↓aa,ae,simprocAttr];exact ⟨by simp [an],al⟩
   have vK:=anA an;simp only [vK,aG.g,↓aa,ae,simprocAttr];refine bq (akR t an _ ad (CZ.ext al)) ?_;rintro x aC ⟨rfl,cj⟩;have k2:=aG.ext cj;cases bW:rX dG t.k t.s with
   | false=>
     simp only [vK,k2.g,↓aa,ae,simprocAttr];exact al.trans cj
   | true=>
   simp only [vK,k2.g,↓aa,ae,simprocAttr];refine bq (ah2 t an _ aC (CZ.ext (al.trans cj))) ?_;rintro x bn ⟨rfl,gl⟩;have u5:=k2.ext gl;have cG:=(al.trans cj).trans gl;cases cu:iv t.k t.n t.l.length with
   | false=>
     simp only [vK,u5.g,↓aa,ae,simprocAttr];exact cG
   | true=>
   by_cases c3:t.a<0
   . simp only [vK,u5.g,anJ c3,↓aa,ae,simprocAttr];exact ⟨by rw [aoe (show ¬0<=t.a by omega)];simp,cG⟩
   by_cases hM:65536<t.a
   . simp only [vK,u5.g,anA c3,anJ hM,↓aa,ae,simprocAttr];exact ⟨by rw [aoe (show ¬t.a<=65536 by omega)];simp,cG⟩
   simp only [vK,u5.g,anA c3,anA hM,↓aa,ae,simprocAttr];refine bq (aby t an cu (by omega) _ bn (CZ.ext cG)) ?_;rintro x b0 ⟨abG,rfl,LK,jf⟩;have Gm:=u5.ext jf;have cL:=cG.trans jf;rw [aoc (show fx t.k≠0 from an),aoc (show 0<=t.a by omega),aoc (show t.a<=65536 by omega)];cases c5:(cQ t.k t.n t.l).2 with
   | false=>
     simp only [Gm.g,↓aa,ae,simprocAttr];exact cL
   | true=>
   have sx:=ajI an cu c5;generalize (cQ t.k t.n t.l).1=gs at LK sx ⊢;simp only [Gm.g,↓aa,ae,simprocAttr];refine fE (fun r g=>r 1=.ptr (aD h.next) 0/\r 3=abG/\∃i:Nat,r 5=.int .i64 i/\i<=t.l.length/\Ext b0 g/\lH dG gs t.l=lH dG (gs.drop i) (t.l.drop i)) (fun r g=>t.l.length - (r 5).toN) ?_ ?_
   . exact ⟨by simp only [↓aa,cm,simprocAttr],by simp only [↓aa,cm,simprocAttr],0,by simp only [↓aa,cm,simprocAttr]<;>rfl,by omega,Ext.refl b0,rfl⟩
   rintro r g ⟨bM,bY,i,cW,au,E,bz⟩;unfold NT;have A:=Gm.ext E;have k6:=L.ext (cL.trans E);by_cases aH:i<t.l.length
   . have g0:((i:Int) < (t.l.length:Int))=True:=anJ (by omega);obtain ⟨b,off,wl,dj,X,cz,ld,pC,_,_⟩:=aQ.lx k6 (k:=.i64) aH;obtain ⟨cA,Kn,kV,agT⟩:=(LK.ext E).JE (k:=.i64) (i:=i) (by omega);have hN:=ld g (Ext.refl g);have d0:=pC g (Ext.refl g);have dg:=agT g (Ext.refl g);have dm:=iI aH (by unfold top at hle;omega);have acJ:=h4 (t:=t) (anB aH);rw [anZ aH,anZ (show i<gs.length by omega),lH] at bz;have fin:∀(aR:List iL) (R:bA),True:=fun _ _=>trivial;by_cases oR:gs[i]=8
     . have fo:iY t.l[i].k gs[i]=decide (t.l[i].k=1):=by unfold iY;rw [anL oR]
       by_cases k7:t.l[i].k=1
       . simp only [bM,bY,cW,A.g,aw,g0,dj,kV,hN,d0,dg,anJ oR,anJ k7,↓aa,ae,simprocAttr];refine bq (K1 N t.l[i] (by omega) aM _ g X) ?_;rintro x g2 ⟨rfl,du⟩;rw [fo,aoc k7,aoC] at bz;cases AP:t.l[i].j5 dG with
         | true=>
           rw [AP,aoC] at bz;simp only [bM,bY,cW,dm,↓aa,ae,simprocAttr];exact ⟨⟨i+1,rfl,aH,E.trans du,bz⟩,by omega⟩
         | false=>
           rw [AP,aop] at bz;simp only [bM,bY,cW,dm,↓aa,ae,simprocAttr];exact ⟨by rw [bz],cL.trans (E.trans du)⟩
       . rw [fo,aoe k7,aop,aop] at bz;simp only [bM,bY,cW,A.g,aw,g0,dj,kV,hN,d0,dg,anJ oR,anA k7,↓aa,ae,simprocAttr];exact ⟨by rw [bz],cL.trans E⟩
     . have fo:iY t.l[i].k gs[i]=decide (fx t.l[i].k=gs[i]):=by unfold iY;rw [anE oR]
       simp only [bM,bY,cW,A.g,aw,g0,dj,kV,hN,d0,dg,anA oR,↓aa,ae,simprocAttr];refine bq (KZ t.l[i].k g) ?_;rintro x g2 ⟨rfl,rfl⟩;by_cases k7:fx t.l[i].k=gs[i]
       . simp only [bM,bY,cW,A.g,aw,g0,dj,kV,hN,d0,dg,anA oR,anJ k7,↓aa,ae,simprocAttr];refine bq (K1 N t.l[i] (by omega) aM _ g2 X) ?_;rintro x g3 ⟨rfl,du⟩;rw [fo,aoc k7,aoC] at bz;cases AP:t.l[i].j5 dG with
         | true=>
           rw [AP,aoC] at bz;simp only [bM,bY,cW,dm,↓aa,ae,simprocAttr];exact ⟨⟨i+1,rfl,aH,E.trans du,bz⟩,by omega⟩
         | false=>
           rw [AP,aop] at bz;simp only [bM,bY,cW,dm,↓aa,ae,simprocAttr];exact ⟨by rw [bz],cL.trans (E.trans du)⟩
       . rw [fo,aoe k7,aop,aop] at bz;simp only [bM,bY,cW,A.g,aw,g0,dj,kV,hN,d0,dg,anA oR,anA k7,↓aa,ae,simprocAttr];exact ⟨by rw [bz],cL.trans E⟩
   . have g0:((i:Int) < (t.l.length:Int))=False:=anA (by omega);rw [an5 (show t.l.length<=i by omega),lH] at bz;simp only [bM,bY,cW,A.g,aw,g0,↓aa,ae,simprocAttr];exact ⟨by rw [bz],cL.trans E⟩
def w9 (l:List aQ):Int:=if l.all (fun t=>decide (fx t.k=7)&&t.j5 dG) then (if l.all (fun t=>decide (t.deep<=200)) then 0 else 260) else 2
theorem ajs (l:List aQ) (aL:e9 l<=1000000000) (v:V) (h:ah) (L:ch Any h 5 (l.map aQ.enc) v):b8 Tryz.prog 25 [v] h fun x ab=>x=.int .i64 (w9 l)/\Ext h ab:=by
 have aw:=L.len;have hle:=L.le;rw [anK] at aw hle;refine XU.z rfl (ck ?_);unfold Nw;simp only [↓aa,ae,simprocAttr];refine fE (fun r g=>r 0=v/\∃i:Nat,r 3=.int .i64 i/\i<=l.length/\Ext h g/\(l.take i).all (fun t=>decide (fx t.k=7)&&t.j5 dG)=true) (fun r g=>l.length - (r 3).toN) ?_ ?_
 . exact ⟨by simp only [↓aa,cm,simprocAttr],0,by simp only [↓aa,cm,simprocAttr]<;>rfl,by omega,Ext.refl h,rfl⟩
 rintro r g ⟨ba,i,bY,au,E,dx⟩;unfold Nx;have k6:=L.ext E;by_cases aH:i<l.length
 . have g0:((i:Int) < (l.length:Int))=True:=anJ (by omega);obtain ⟨b,off,wl,dj,X,cz,ld,pC,_,_⟩:=aQ.lx k6 (k:=.i64) aH;have hN:=ld g (Ext.refl g);have d0:=pC g (Ext.refl g);have dm:=iI aH (by unfold top at hle;omega);have bJ:=pO (anB aH);simp only [ba,bY,aw,g0,dj,d0,hN,↓aa,ae,simprocAttr];refine bq (KZ l[i].k g) ?_;rintro x g2 ⟨rfl,rfl⟩;have bad:(decide (fx l[i].k=7)&&l[i].j5 dG)=false->w9 l=2:=fun q=>by
    unfold w9;rw [anE];intro z;have:=an0.1 z _ (anB aH);rw [q] at this;cases this
   by_cases bW:fx l[i].k=7
   . simp only [ba,bY,dj,hN,anJ bW,↓aa,ae,simprocAttr];refine bq (K1 _ l[i] (anD _) (by omega) _ g2 X) ?_;rintro x g3 ⟨rfl,cj⟩;cases cu:l[i].j5 dG with
     | true=>
       simp only [ba,bY,dm,↓aa,ae,simprocAttr];refine ⟨⟨i+1,rfl,aH,E.trans cj,?_⟩,by omega⟩;rw [take_one aH,aoI,dx];simp [bW,cu]
     | false=>
       simp only [ba,bY,dm,↓aa,ae,simprocAttr];exact ⟨by rw [bad (by rw [cu,aoO])],E.trans cj⟩
   . simp only [ba,bY,dj,hN,anA bW,↓aa,ae,simprocAttr];exact ⟨by rw [bad (by rw [aoe bW,aop])],E⟩
 . have g0:((i:Int) < (l.length:Int))=False:=anA (by omega);rw [aos (by omega)] at dx;have ao:w9 l=if l.all (fun t=>decide (t.deep<=200)) then 0 else 260:=by unfold w9;rw [anL dx]
   rw [ao];simp only [ba,bY,aw,g0,↓aa,ae,simprocAttr];refine fE (fun r g=>r 0=v/\∃i:Nat,r 4=.int .i64 i/\i<=l.length/\Ext h g/\(l.take i).all (fun t=>decide (t.deep<=200))=true) (fun r g=>l.length - (r 4).toN) ?_ ?_
   . exact ⟨by simp only [ba,↓aa,cm,simprocAttr],0,by simp only [↓aa,cm,simprocAttr]<;>rfl,by omega,E,rfl⟩
   clear au ba bY k6 E g0 aH;rintro r g ⟨ba,i,dR,au,E,dx⟩;unfold Ny;have k6:=L.ext E;by_cases aH:i<l.length
   . have g0:((i:Int) < (l.length:Int))=True:=anJ (by omega);obtain ⟨b,off,wl,dj,X,cz,ld,pC,_,_⟩:=aQ.lx k6 (k:=.i64) aH;have hN:=ld g (Ext.refl g);have dm:=iI aH (by unfold top at hle;omega);have bJ:=pO (anB aH);simp only [ba,dR,aw,g0,dj,hN,↓aa,ae,simprocAttr];refine bq (T0 _ l[i] (anD _) (by omega) _ g X) ?_;rintro x g2 ⟨rfl,aN⟩;by_cases bW:(200:Int) < (l[i].deep:Int)
     . simp only [ba,dR,anJ bW,↓aa,ae,simprocAttr];refine ⟨?_,E.trans aN⟩;rw [anE];intro z;have:=an0.1 z _ (anB aH);simp only [anM] at this;omega
     . simp only [ba,dR,dm,anA bW,↓aa,ae,simprocAttr];refine ⟨⟨i+1,rfl,aH,E.trans aN,?_⟩,by omega⟩;rw [take_one aH,aoI,dx];simp;omega
   . have g0:((i:Int) < (l.length:Int))=False:=anA (by omega);rw [aos (by omega)] at dx;simp only [ba,dR,aw,g0,↓aa,ae,simprocAttr];exact ⟨by rw [anL dx],E⟩
end
end Go.Proofs.YtefceblncmdkhaaGreatDoor
