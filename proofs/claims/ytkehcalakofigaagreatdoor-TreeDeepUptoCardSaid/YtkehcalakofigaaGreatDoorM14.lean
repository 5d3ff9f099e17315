/- The chapter's functions, walked by the abstract machine: plain lemmas, no condition. Printed by a program from longer texts: names made short. -/
import Derived.Test.YtkehcalakofigaaGreatDoorM12
import Derived.Test.YtkehcalakofigaaGreatDoorM13
set_option linter.unusedSectionVars false
set_option linter.unusedSimpArgs false
set_option linter.unusedVariables false
namespace Go.Proofs.YtkehcalakofigaaGreatDoor
open Go aY
theorem Lc (x:Int) (n:Nat) (a7:1≤n) (bt:n≤1000000) (h:ae):bK Tryz.prog 18 [.int .i64 x,.int .i64 n] h fun y aa=>aa=h∧∃k:Nat,k<n∧y=.int .i64 k:=by
 refine Pv rfl (dn ?_)
 unfold Bx
 have f0:((n:Int)<1)=False:=eq_false (by omega)
 have yH:(dN.int .rem).run Tryz.prog (.int .i64 x) (.int .i64 n)=some (.int .i64 (x.tmod n)):=JY .i64 _ _ (by omega)
 have bJ:x.tmod n<n:=Int.tmod_lt_of_pos _ (by omega)
 have ph:-(n:Int)<x.tmod n:=by
  have:=Int.tmod_lt_of_pos (-x) (show (0:Int)<n by omega)
  rw [Int.neg_tmod] at this
  omega
 have w:IntKind.i64.wrap (x.tmod n+n)=x.tmod n+n:=wrap_i64 (by omega) (by omega)
 by_cases a7:x.tmod n<0
 · simp +contextual only [f0,yH,eq_true a7,w,↓al,aw,simprocAttr]
   exact ⟨(x.tmod n+n).toNat,by omega,by rw [Int.toNat_of_nonneg (by omega)]⟩
 · simp +contextual only [f0,yH,eq_false a7,w,↓al,aw,simprocAttr]
   exact ⟨(x.tmod n).toNat,by omega,by rw [Int.toNat_of_nonneg (by omega)]⟩
theorem Zs (k:Int) (t:bc):(bc.mk k 0 0 [] [t]).deep=t.deep+1:=by rw [bc.deep,fX,fX];omega
theorem ZE (k:Int) (t:bc):(bc.mk k 0 0 [] [t]).size=t.size+1:=by rw [bc.size,fa,fa];omega
set_option maxHeartbeats 8000000 in
theorem RY (more:Int) (aJ:List Int) (v:V) (h:ae) (K:cM Any h 1 (aJ.map aY.encI) v):bK Tryz.prog 4 [.int .i64 more,v] h fun x aa=>x=.bool true:=by
 have aj:=K.len
 have hle:=K.le
 rw [List.length_map] at aj hle
 refine P1 rfl (dn ?_)
 unfold fq
 by_cases bB:(20:Int) < (aJ.length:Int)
 · simp +contextual only [aj,eq_true bB,↓al,aw,simprocAttr]
   refine bV (Gz _) ?_
   rintro x U ⟨rfl,rfl⟩
   simp +contextual only [↓al,aw,simprocAttr]
 simp +contextual only [aj,eq_false bB,↓al,aw,simprocAttr]
 refine bV (Lc more 15 (by omega) (by omega) h) ?_
 rintro x a6 ⟨rfl,m,hm,rfl⟩
 have au:IntKind.i64.wrap (190 + (m:Int))=((190+m:Nat):Int):=by rw [wrap_i64 (by omega) (by omega)];omega
 obtain ⟨U,ai,aF,eA⟩:=j6 a6 [.int .i64 0,.int .i64 0,.int .i64 0,.str [],.cq] [.int .i64 22,.int .i64 0,.int .i64 0,.str [],.cq]
 simp +contextual only [au,ai,↓al,aw,simprocAttr]
 refine hj (fun r g=>r 1=v∧r 5=.int .i64 (190+m:Nat)∧r 6=.ptr (aG a6.next) 0∧∃(i:Nat) (t:bc) (dA:V),r 7=.int .i64 i∧1≤i∧i≤190+m∧t.deep=i∧t.size=i∧Has g a6.next [.int .i64 t.k,.int .i64 t.n,.int .i64 t.a,.str t.s,dA]∧
  cl (fun b=>b≠aG a6.next) g t.enc [.int .i64 t.k,.int .i64 t.n,.int .i64 t.a,.str t.s,dA]∧Ext a6 g) (fun r g=>190+m - (r 7).toN) ?_ ?_
 · refine ⟨by simp only [↓al,dB,simprocAttr],by simp only [↓al,dB,simprocAttr],by simp only [↓al,dB,simprocAttr],1,.mk 22 0 0 [] [],.cq,by simp only [↓al,dB,simprocAttr]<;>rfl,by omega,by omega,rfl,rfl,eA,?_,aF⟩
   rw [wB]
   exact .i (.i (.i (.s (by show 0≤top;unfold top;omega) ((cM.nil _ _ _).cons .nil))))
 rintro r g ⟨bs,cF,fk,i,t,dA,eT,pD,aC,Mt,b7,A,X,E⟩
 unfold G1
 have Nc:=K.ext E
 obtain ⟨ad4,ov,iw,Jm⟩:=bc.open X
 simp only [List.cons.injEq,and_true,true_and] at ov
 subst ov
 have ol:=iw.one
 by_cases aO:i<190+m
 · have g0:((i:Int) < ((190+m:Nat):Int))=True:=eq_true (by omega)
   have fc:IntKind.i64.wrap ((i:Int)+1)=((i+1:Nat):Int):=by rw [wrap_i64 (by omega) (by omega)];rfl
   have step:∀cc:Int,∃g1 g2,g.new (.bk [.int .i64 39,.int .i64 36,.int .i64 34] 0 false)=g1∧g1.new (.bk [.int .i64 t.k,.int .i64 t.n,.int .i64 t.a,.str t.s,dA] 0 false)=g2∧Has g1 a6.next [.int .i64 t.k,.int .i64 t.n,.int .i64 t.a,.str t.s,dA]∧Has g1 g.next [.int .i64 39,.int .i64 36,.int .i64 34]∧Has g2 g.next [.int .i64 39,.int .i64 36,.int .i64 34]∧Has g2 a6.next [.int .i64 t.k,.int .i64 t.n,.int .i64 t.a,.str t.s,dA]∧
    Has (g2.set (aG a6.next) (.bk [.int .i64 cc,.int .i64 0,.int .i64 0,.str [],.slice (aG g1.next) 0 1 1] 0 false)) a6.next [.int .i64 cc,.int .i64 0,.int .i64 0,.str [],.slice (aG g1.next) 0 1 1]∧
    cl (fun b=>b≠aG a6.next) (g2.set (aG a6.next) (.bk [.int .i64 cc,.int .i64 0,.int .i64 0,.str [],.slice (aG g1.next) 0 1 1] 0 false)) (bc.mk cc 0 0 [] [t]).enc [.int .i64 cc,.int .i64 0,.int .i64 0,.str [],.slice (aG g1.next) 0 1 1]∧
    Ext a6 (g2.set (aG a6.next) (.bk [.int .i64 cc,.int .i64 0,.int .i64 0,.str [],.slice (aG g1.next) 0 1 1] 0 false)):=by
    intro cc
    obtain ⟨g1,dp,bu,jW⟩:=jv g [.int .i64 39,.int .i64 36,.int .i64 34]
    obtain ⟨g2,eF,e6,S⟩:=Kn (F:=fun b=>b≠aG a6.next) (h:=g1) (size:=5) rfl (X.ext bu) (fun q=>by have:=gB q;have:=A.lt;have:=bu.next;omega)
    refine ⟨g1,g2,dp,eF,A.ext bu,jW,jW.ext e6,(A.ext bu).ext e6,((A.ext bu).ext e6).put _,?_,((E.trans bu).trans e6).set (Nat.le_refl _) _⟩
    rw [wB]
    exact .i (.i (.i (.s (by show 0≤top;unfold top;omega) ((S.set (fun q=>q rfl) _).cons .nil))))
   have fin:∀cc:Int,(bc.mk cc 0 0 [] [t]).deep=i+1∧(bc.mk cc 0 0 [] [t]).size=i+1:=fun cc=>⟨by rw [Zs,Mt],by rw [ZE,b7]⟩
   by_cases bX:aJ.length=0
   · have f2:((0:Int) < (aJ.length:Int))=False:=eq_false (by omega)
     obtain ⟨g1,g2,dp,eF,qo,jW,hs,qp,qq,qB,qn⟩:=step 39
     simp +contextual only [g0,aj,f2,bs,cF,fk,eT,fc,A.g,qo.g,qp.g,jW.g,hs.g,dp,eF,ol.1,ol.2.1,Int.toNat_zero,Int.toNat_one,↓al,aw,simprocAttr]
     exact ⟨⟨i+1,.mk 39 0 0 [] [t],_,rfl,by omega,aO,(fin 39).1,(fin 39).2,qq,qB,qn⟩,by omega⟩
   · have f2:((0:Int) < (aJ.length:Int))=True:=eq_true (by omega)
     have yH:(dN.int .rem).run Tryz.prog (.int .i64 (i:Int)) (.int .i64 (aJ.length:Int))=some (.int .i64 ((i % aJ.length:Nat):Int)):=(JY .i64 _ _ (by omega)).trans (by rw [Int.tmod_eq_emod_of_nonneg (by omega)];rfl)
     obtain ⟨b,off,dy,ld⟩:=Nc.yU (k:=.i64) (i:=i % aJ.length) (Nat.mod_lt _ (by omega))
     have d0:=ld g (Ext.refl g)
     simp +contextual only [bs,cF,fk,eT,g0,aj,f2,yH,dy,d0,↓al,aw,simprocAttr]
     refine bV (Lc _ 3 (by omega) (by omega) g) ?_
     rintro x Ib ⟨rfl,k,az,rfl⟩
     have Uu:k=0∨k=1∨k=2:=by omega
     rcases Uu with rfl | rfl | rfl
     · obtain ⟨g1,g2,dp,eF,qo,jW,hs,qp,qq,qB,qn⟩:=step 39
       simp +contextual only [bs,cF,fk,eT,fc,A.g,qo.g,qp.g,jW.g,hs.g,dp,eF,ol.1,ol.2.1,Int.toNat_zero,Int.toNat_one,↓al,aw,simprocAttr]
       exact ⟨⟨i+1,.mk 39 0 0 [] [t],_,rfl,by omega,aO,(fin 39).1,(fin 39).2,qq,qB,qn⟩,by omega⟩
     · obtain ⟨g1,g2,dp,eF,qo,jW,hs,qp,qq,qB,qn⟩:=step 36
       simp +contextual only [bs,cF,fk,eT,fc,A.g,qo.g,qp.g,jW.g,hs.g,dp,eF,ol.1,ol.2.1,Int.toNat_zero,Int.toNat_one,↓al,aw,simprocAttr]
       exact ⟨⟨i+1,.mk 36 0 0 [] [t],_,rfl,by omega,aO,(fin 36).1,(fin 36).2,qq,qB,qn⟩,by omega⟩
     · obtain ⟨g1,g2,dp,eF,qo,jW,hs,qp,qq,qB,qn⟩:=step 34
       simp +contextual only [bs,cF,fk,eT,fc,A.g,qo.g,qp.g,jW.g,hs.g,dp,eF,ol.1,ol.2.1,Int.toNat_zero,Int.toNat_one,↓al,aw,simprocAttr]
       exact ⟨⟨i+1,.mk 34 0 0 [] [t],_,rfl,by omega,aO,(fin 34).1,(fin 34).2,qq,qB,qn⟩,by omega⟩
 · have jF:i=190+m:=by omega
   have g0:((i:Int) < ((190+m:Nat):Int))=False:=eq_false (by omega)
   obtain ⟨g1,dp,bu,S⟩:=Yu (F:=Any) (h:=g) (size:=5) (ds:=(bc.mk 10 0 0 [] []).enc) (cs:=[.int .i64 10,.int .i64 0,.int .i64 0,.str [],.cq]) rfl rfl (by
    rw [wB]
    exact .i (.i (.i (.s (by show 0≤top;unfold top;omega) ((cM.nil _ _ _).cons .nil))))) (X.mK fun _ _=>trivial) trivial
   have Y:cl Any g1 (bc.mk 52 0 0 [] [.mk 10 0 0 [] [],t]).enc [.int .i64 52,.int .i64 0,.int .i64 0,.str [],.slice (aG g.next) 0 2 2]:=by
    rw [wB]
    exact .i (.i (.i (.s (by show 0≤top;unfold top;omega) (S.cons .nil))))
   obtain ⟨g2,eF,e6,Z⟩:=Kn (F:=Any) (h:=g1) (size:=5) rfl Y trivial
   have II:(bc.mk 52 0 0 [] [.mk 10 0 0 [] [],t]).deep=i+1:=by rw [bc.deep,fX,fX,fX,bc.deep,fX,Mt];omega
   have jc:(bc.mk 52 0 0 [] [.mk 10 0 0 [] [],t]).size=i+2:=by rw [bc.size,fa,fa,fa,bc.size,fa,b7];omega
   have yG:fa [bc.mk 52 0 0 [] [.mk 10 0 0 [] [],t]]≤1000000:=by rw [fa,fa,jc];omega
   have AT:cM Any g2 5 ([bc.mk 52 0 0 [] [.mk 10 0 0 [] [],t]].map bc.enc) (.slice (aG g1.next) 0 1 1):=Z
   generalize hu:bc.mk 52 0 0 [] [.mk 10 0 0 [] [],t]=u at *
   simp only [List.cons_append,List.nil_append] at dp
   have kR:IntKind.i64.wrap (((190+m:Nat):Int)+1)=((190+m+1:Nat):Int):=by rw [wrap_i64 (by omega) (by omega)];rfl
   have nj:IntKind.i64.wrap (((190+m:Nat):Int)+2)=((190+m+2:Nat):Int):=by rw [wrap_i64 (by omega) (by omega)];rfl
   have b4:u.size≤1000000:=by rw [jc];omega
   rw [jF] at II jc
   simp +contextual only [bs,cF,fk,eT,g0,A.g,dp,eF,ol.1,ol.2.1,List.cons_append,List.nil_append,↓al,aw,simprocAttr]
   refine bV (Rs [u] (by omega) _ g2 AT) ?_
   rintro x g3 ⟨rfl,cm⟩
   simp +contextual only [↓al,aw,simprocAttr]
   refine bV (aap [u] (by omega) _ g3 (AT.ext cm)) ?_
   rintro x g4 ⟨rfl,gH⟩
   rw [Rt [u] (by omega)]
   have Nw:=(AT.ext cm).ext gH
   obtain ⟨b,off,wl,dy,xl,acR,ld⟩:=bc.tx Nw (k:=.i64) (i:=0) (by simp)
   have vL:jd 5 (.slice (aG g1.next) 0 1 1) (.int .i64 0)=some (.ptr b off):=by simpa using dy
   have eY:∀aa,Ext g4 aa→lB 5 (aa.get b) off=some (.agg [.int .i64 u.k,.int .i64 u.n,.int .i64 u.a,.str u.s,wl]):=fun aa e=>by simpa using ld aa e
   have d4:=eY g4 (Ext.refl _)
   have xl:cl Any g4 u.enc [.int .i64 u.k,.int .i64 u.n,.int .i64 u.a,.str u.s,wl]:=xl
   simp +contextual only [bs,cF,fk,eT,vL,d4,decide_true,↓al,aw,simprocAttr]
   refine bV (B9 _ u (Nat.le_refl _) (by omega) _ g4 xl) ?_
   rintro x g5 ⟨rfl,iV⟩
   have d5:=eY g5 iV
   simp +contextual only [bs,cF,fk,eT,vL,d5,II,kR,decide_true,↓al,aw,simprocAttr]
   refine bV (aa' u (by omega) _ g5 (xl.ext iV)) ?_
   rintro x g6 ⟨rfl,ac2⟩
   simp +contextual only [bs,cF,fk,eT,jc,nj,decide_true,↓al,aw,simprocAttr]
   refine bV (Gz _) ?_
   rintro x g7 ⟨rfl,rfl⟩
   simp +contextual only [↓al,aw,simprocAttr]
end Go.Proofs.YtkehcalakofigaaGreatDoor
