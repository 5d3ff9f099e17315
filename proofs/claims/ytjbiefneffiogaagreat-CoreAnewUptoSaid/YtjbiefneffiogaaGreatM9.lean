/- The chapter's functions, walked by the abstract machine: plain lemmas, no condition. Printed by a program from longer texts: names made short. -/
import Derived.Test.YtjbiefneffiogaaGreatM8
import Derived.Test.YtjbiefneffiogaaGreatM6
set_option linter.unusedSectionVars false
set_option linter.unusedSimpArgs false
set_option linter.unusedVariables false
namespace Go.Proofs.YtjbiefneffiogaaGreat
open Go ba
section
variable {ao h aa:ag} {aE:aN} {K bg:fi} {aD:List aN} {bp pm:V} {S:av} {steps:Int} {c1 cN cz bW:V}
set_option maxHeartbeats 4000000 in
theorem step_ret (M:cR ao h aE K aD bp pm S steps) (O:Ok S) (hw:S.w.length≤1000000000) (c5:Shape S.c) (a6:∀a ∈ S.c.a,a.k=1→a.n ∈ S.e.map Prod.fst) (al:S.c.k=1) {bc:List UInt8}:bR Tryz.prog 59 [.ptr aE 0] h fun x aa=>∃bg bq,cR ao aa aE bg bq bp pm (S.step bc) steps:=by
 obtain ⟨hQ,eq,gu,dv,M⟩:=M
 obtain ⟨gR,co,bl,bs,aY,rfl,cX,ea,cQ,df⟩:=M.co.open
 have cO:=M.get
 rw [al] at df
 have lc:=df h M.rep.ext
 refine np rfl (b9 ?_)
 unfold mu
 simp +contextual only [cO,lc.1,↓ai,aq,simprocAttr]
 refine bm (nn M a6 c5.n2) ?_
 rintro x ab ⟨iY,fO,a',eG,fj,h3⟩
 obtain ⟨ki,ee,lj,my,lR,h4⟩:=av.kL S S.c.a
 have hL:=O.atoms S.c.a c5.at_
 have eR:=a'.get
 have bY:=df ab a'.rep.ext
 have cZ:S.step bc=(S.atoms S.c.a).1.ew bc (S.atoms S.c.a).2:=rfl
 generalize (S.atoms S.c.a).1=T at *
 generalize (S.atoms S.c.a).2=bd at *
 have dF:fV ab fO bd x:=⟨eG.v,fj⟩
 have hC:T.c.k=1:=by rw [ee];exact al
 have du:=M.rep.ext.next
 obtain ⟨bO,rfl⟩:∃bO,bd=[bO]:=by
  have:bd.length=1:=by rw [h4];exact c5.bB (by omega)
  match bd,this with
  | [a],_=>exact ⟨a,rfl⟩
 obtain ⟨hs,eJ,jn,jC,_,_,c_,nc,dg⟩:=a'.arg dF 0 0 bO rfl rfl
 have hE:=dg _ (Ext.refl _)
 simp +contextual only [cO,eR,lc.1,bY.1,c_,hE.1,↓ai,aq,simprocAttr]
 refine bm (kB ⟨_,_,_,_,a'⟩ hL.w hs) ?_
 rintro y af ⟨g5,M2⟩
 simp +contextual only [c_,hE.1,↓ai,aq,simprocAttr]
 refine ⟨g5,fO,?_⟩
 rw [cZ]
 have:T.ew bc [bO]=T.l9 bO:=by simp only [av.ew,hC,↓reduceIte,Int.reduceEq,reduceCtorEq,false_or,or_false,or_true,true_or,List.getD_cons_zero,List.getD_cons_succ]
 rw [this]
 exact M2
set_option maxHeartbeats 4000000 in
theorem acw (M:cR ao h aE K aD bp pm S steps) (O:Ok S) (hw:S.w.length≤1000000000) (c5:Shape S.c) (a6:∀a ∈ S.c.a,a.k=1→a.n ∈ S.e.map Prod.fst) (al:S.c.k=12) {bc:List UInt8}:bR Tryz.prog 59 [.ptr aE 0] h fun x aa=>∃bg bq,cR ao aa aE bg bq bp pm (S.step bc) steps:=by
 obtain ⟨hQ,eq,gu,dv,M⟩:=M
 obtain ⟨gR,co,bl,bs,aY,rfl,cX,ea,cQ,df⟩:=M.co.open
 have cO:=M.get
 rw [al] at df
 have lc:=df h M.rep.ext
 refine np rfl (b9 ?_)
 unfold mu
 simp +contextual only [cO,lc.1,↓ai,aq,simprocAttr]
 refine bm (nn M a6 c5.n2) ?_
 rintro x ab ⟨iY,fO,a',eG,fj,h3⟩
 obtain ⟨ki,ee,lj,my,lR,h4⟩:=av.kL S S.c.a
 have hL:=O.atoms S.c.a c5.at_
 have eR:=a'.get
 have bY:=df ab a'.rep.ext
 have cZ:S.step bc=(S.atoms S.c.a).1.ew bc (S.atoms S.c.a).2:=rfl
 generalize (S.atoms S.c.a).1=T at *
 generalize (S.atoms S.c.a).2=bd at *
 have dF:fV ab fO bd x:=⟨eG.v,fj⟩
 have hC:T.c.k=12:=by rw [ee];exact al
 have du:=M.rep.ext.next
 obtain ⟨bO,rfl⟩:∃bO,bd=[bO]:=by
  have:bd.length=1:=by rw [h4];exact c5.bB (by omega)
  match bd,this with
  | [a],_=>exact ⟨a,rfl⟩
 obtain ⟨hs,eJ,jn,jC,_,_,c_,nc,dg⟩:=a'.arg dF 0 0 bO rfl rfl
 have hE:=dg _ (Ext.refl _)
 simp +contextual only [cO,eR,lc.1,bY.1,c_,hE.1,↓ai,aq,simprocAttr]
 refine bm (ri ⟨_,_,_,_,a'⟩ hL.w hs) ?_
 rintro y af ⟨g5,M2⟩
 simp +contextual only [c_,hE.1,↓ai,aq,simprocAttr]
 refine ⟨g5,fO,?_⟩
 rw [cZ]
 have:T.ew bc [bO]=T.o8 bO:=by simp only [av.ew,hC,↓reduceIte,Int.reduceEq,reduceCtorEq,false_or,or_false,or_true,true_or,List.getD_cons_zero,List.getD_cons_succ]
 rw [this]
 exact M2
set_option maxHeartbeats 4000000 in
theorem acu (M:cR ao h aE K aD bp pm S steps) (O:Ok S) (hw:S.w.length≤1000000000) (c5:Shape S.c) (a6:∀a ∈ S.c.a,a.k=1→a.n ∈ S.e.map Prod.fst) (al:S.c.k=4) {bc:List UInt8}:bR Tryz.prog 59 [.ptr aE 0] h fun x aa=>∃bg bq,cR ao aa aE bg bq bp pm (S.step bc) steps:=by
 obtain ⟨hQ,eq,gu,dv,M⟩:=M
 obtain ⟨gR,co,bl,bs,aY,rfl,cX,ea,cQ,df⟩:=M.co.open
 have cO:=M.get
 rw [al] at df
 have lc:=df h M.rep.ext
 refine np rfl (b9 ?_)
 unfold mu
 simp +contextual only [cO,lc.1,↓ai,aq,simprocAttr]
 refine bm (nn M a6 c5.n2) ?_
 rintro x ab ⟨iY,fO,a',eG,fj,h3⟩
 obtain ⟨ki,ee,lj,my,lR,h4⟩:=av.kL S S.c.a
 have hL:=O.atoms S.c.a c5.at_
 have eR:=a'.get
 have bY:=df ab a'.rep.ext
 have cZ:S.step bc=(S.atoms S.c.a).1.ew bc (S.atoms S.c.a).2:=rfl
 generalize (S.atoms S.c.a).1=T at *
 generalize (S.atoms S.c.a).2=bd at *
 have dF:fV ab fO bd x:=⟨eG.v,fj⟩
 have hC:T.c.k=4:=by rw [ee];exact al
 have du:=M.rep.ext.next
 simp +contextual only [cO,eR,lc.1,bY.1,bY.2.2.1,↓ai,aq,simprocAttr]
 refine bm (l' ab S.c.n x eG.v.one) ?_
 rintro y af F
 obtain ⟨g5,i_,M2,rfl,aX⟩:=a'.Zn F (eG.mono du) h3 fj
 simp +contextual only [↓ai,aq,simprocAttr]
 refine bm (kB ⟨_,_,_,_,M2⟩ hL.w aX) ?_
 rintro y af ⟨qm,cm⟩
 simp +contextual only [↓ai,aq,simprocAttr]
 refine ⟨qm,i_,?_⟩
 rw [cZ]
 have:T.ew bc bd=T.dw (.dt T.c.n bd):=by simp only [av.ew,hC,↓reduceIte,Int.reduceEq,reduceCtorEq,false_or,or_false,or_true,true_or,List.getD_cons_zero,List.getD_cons_succ]
 rw [this]
 exact by rw [ee];exact cm
set_option maxHeartbeats 4000000 in
theorem acv (M:cR ao h aE K aD bp pm S steps) (O:Ok S) (hw:S.w.length≤1000000000) (c5:Shape S.c) (a6:∀a ∈ S.c.a,a.k=1→a.n ∈ S.e.map Prod.fst) (D:yP ao pm) {bc:List UInt8} (iX:cF ao 1 bp bc.length (dZ bc)) (hlen:bc.length≤1073741824) (qX:S.read≤bc.length) (al:S.c.k=3):bR Tryz.prog 59 [.ptr aE 0] h fun x aa=>∃bg bq,cR ao aa aE bg bq bp pm (S.step bc) steps:=by
 obtain ⟨hQ,eq,gu,dv,M⟩:=M
 obtain ⟨gR,co,bl,bs,aY,rfl,cX,ea,cQ,df⟩:=M.co.open
 have cO:=M.get
 rw [al] at df
 have lc:=df h M.rep.ext
 refine np rfl (b9 ?_)
 unfold mu
 simp +contextual only [cO,lc.1,↓ai,aq,simprocAttr]
 refine bm (nn M a6 c5.n2) ?_
 rintro x ab ⟨iY,fO,a',eG,fj,h3⟩
 obtain ⟨ki,ee,lj,my,lR,h4⟩:=av.kL S S.c.a
 have hL:=O.atoms S.c.a c5.at_
 have eR:=a'.get
 have bY:=df ab a'.rep.ext
 have cZ:S.step bc=(S.atoms S.c.a).1.ew bc (S.atoms S.c.a).2:=rfl
 generalize (S.atoms S.c.a).1=T at *
 generalize (S.atoms S.c.a).2=bd at *
 have dF:fV ab fO bd x:=⟨eG.v,fj⟩
 have hC:T.c.k=3:=by rw [ee];exact al
 have du:=M.rep.ext.next
 obtain ⟨b_,b1⟩:=c5.cy al
 obtain ⟨f,cs,aG,az⟩:=aaJ D ⟨_,_,_,_,a'⟩ hL iX hlen (by rw [lR];exact qX) dF (s:=S.c.s) (by rw [h4];exact b_) b1
 simp +contextual only [cO,eR,lc.1,bY.1,bY.2.2.2.1,aG,↓ai,aq,simprocAttr]
 refine bm az ?_
 rintro y af ⟨g5,i_,M2⟩
 simp +contextual only [Qf,eR,bY.2.2.2.1,aG,↓ai,aq,simprocAttr]
 refine ⟨g5,i_,?_⟩
 rw [cZ]
 have:T.ew bc bd=T.lC bc T.c.s bd:=by simp only [av.ew,hC,↓reduceIte,Int.reduceEq,reduceCtorEq,false_or,or_false,or_true,true_or,List.getD_cons_zero,List.getD_cons_succ]
 rw [this]
 exact by rw [ee];exact M2
set_option maxHeartbeats 4000000 in
theorem acn (M:cR ao h aE K aD bp pm S steps) (O:Ok S) (hw:S.w.length≤1000000000) (c5:Shape S.c) (a6:∀a ∈ S.c.a,a.k=1→a.n ∈ S.e.map Prod.fst) (al:S.c.k=6) {bc:List UInt8}:bR Tryz.prog 59 [.ptr aE 0] h fun x aa=>∃bg bq,cR ao aa aE bg bq bp pm (S.step bc) steps:=by
 obtain ⟨hQ,eq,gu,dv,M⟩:=M
 obtain ⟨gR,co,bl,bs,aY,rfl,cX,ea,cQ,df⟩:=M.co.open
 have cO:=M.get
 rw [al] at df
 have lc:=df h M.rep.ext
 refine np rfl (b9 ?_)
 unfold mu
 simp +contextual only [cO,lc.1,↓ai,aq,simprocAttr]
 refine bm (nn M a6 c5.n2) ?_
 rintro x ab ⟨iY,fO,a',eG,fj,h3⟩
 obtain ⟨ki,ee,lj,my,lR,h4⟩:=av.kL S S.c.a
 have hL:=O.atoms S.c.a c5.at_
 have eR:=a'.get
 have bY:=df ab a'.rep.ext
 have cZ:S.step bc=(S.atoms S.c.a).1.ew bc (S.atoms S.c.a).2:=rfl
 generalize (S.atoms S.c.a).1=T at *
 generalize (S.atoms S.c.a).2=bd at *
 have dF:fV ab fO bd x:=⟨eG.v,fj⟩
 have hC:T.c.k=6:=by rw [ee];exact al
 have du:=M.rep.ext.next
 obtain ⟨bO,c3,rfl⟩:∃bO c3,bd=[bO,c3]:=by
  have:bd.length=2:=by rw [h4];exact c5.bJ al
  match bd,this with
  | [a,b],_=>exact ⟨a,b,rfl⟩
 obtain ⟨hs,eJ,jn,jC,_,_,c_,nc,dg⟩:=a'.arg dF 0 0 bO rfl rfl
 have hE:=dg _ (Ext.refl _)
 obtain ⟨pF,cJ,ff,u6,_,_,eZ,mb,dq⟩:=a'.arg dF 1 1 c3 rfl rfl
 have LM:=dq _ (Ext.refl _)
 simp +contextual only [cO,eR,lc.1,bY.1,c_,hE.1,eZ,LM.1,↓ai,aq,simprocAttr]
 refine bm (Sa ⟨_,_,_,_,a'⟩ hs pF) ?_
 rintro y af ⟨g5,i_,M2⟩
 simp +contextual only [c_,hE.1,eZ,LM.1,↓ai,aq,simprocAttr]
 refine ⟨g5,i_,?_⟩
 rw [cZ]
 have:T.ew bc [bO,c3]=T.call bO c3:=by simp only [av.ew,hC,↓reduceIte,Int.reduceEq,reduceCtorEq,false_or,or_false,or_true,true_or,List.getD_cons_zero,List.getD_cons_succ]
 rw [this]
 exact M2
set_option maxHeartbeats 4000000 in
theorem acx (M:cR ao h aE K aD bp pm S steps) (O:Ok S) (hw:S.w.length≤1000000000) (c5:Shape S.c) (a6:∀a ∈ S.c.a,a.k=1→a.n ∈ S.e.map Prod.fst) (al:S.c.k=8) {bc:List UInt8}:bR Tryz.prog 59 [.ptr aE 0] h fun x aa=>∃bg bq,cR ao aa aE bg bq bp pm (S.step bc) steps:=by
 obtain ⟨hQ,eq,gu,dv,M⟩:=M
 obtain ⟨gR,co,bl,bs,aY,rfl,cX,ea,cQ,df⟩:=M.co.open
 have cO:=M.get
 rw [al] at df
 have lc:=df h M.rep.ext
 refine np rfl (b9 ?_)
 unfold mu
 simp +contextual only [cO,lc.1,↓ai,aq,simprocAttr]
 refine bm (nn M a6 c5.n2) ?_
 rintro x ab ⟨iY,fO,a',eG,fj,h3⟩
 obtain ⟨ki,ee,lj,my,lR,h4⟩:=av.kL S S.c.a
 have hL:=O.atoms S.c.a c5.at_
 have eR:=a'.get
 have bY:=df ab a'.rep.ext
 have cZ:S.step bc=(S.atoms S.c.a).1.ew bc (S.atoms S.c.a).2:=rfl
 generalize (S.atoms S.c.a).1=T at *
 generalize (S.atoms S.c.a).2=bd at *
 have dF:fV ab fO bd x:=⟨eG.v,fj⟩
 have hC:T.c.k=8:=by rw [ee];exact al
 have du:=M.rep.ext.next
 simp +contextual only [cO,eR,lc.1,bY.1,↓ai,aq,simprocAttr]
 obtain ⟨bf,bV⟩:=c5.Ly al
 refine bm (abi ⟨_,_,_,_,a'⟩ (by rw [ee];omega) (by rw [ee];have:=c5.gZ;omega) (by rw [ee];intro f au;rw [bV f au];exact Nat.le_refl _)) ?_
 rintro y af ⟨g5,i_,M2⟩
 simp +contextual only [↓ai,aq,simprocAttr]
 refine ⟨g5,i_,?_⟩
 rw [cZ]
 have:T.ew bc bd=T.n0:=by simp only [av.ew,hC,↓reduceIte,Int.reduceEq,reduceCtorEq,false_or,or_false,or_true,true_or,List.getD_cons_zero,List.getD_cons_succ]
 rw [this]
 exact M2
set_option maxHeartbeats 4000000 in
theorem acy (M:cR ao h aE K aD bp pm S steps) (O:Ok S) (hw:S.w.length≤1000000000) (c5:Shape S.c) (a6:∀a ∈ S.c.a,a.k=1→a.n ∈ S.e.map Prod.fst) (al:S.c.k=9) {bc:List UInt8}:bR Tryz.prog 59 [.ptr aE 0] h fun x aa=>∃bg bq,cR ao aa aE bg bq bp pm (S.step bc) steps:=by
 obtain ⟨hQ,eq,gu,dv,M⟩:=M
 obtain ⟨gR,co,bl,bs,aY,rfl,cX,ea,cQ,df⟩:=M.co.open
 have cO:=M.get
 rw [al] at df
 have lc:=df h M.rep.ext
 refine np rfl (b9 ?_)
 unfold mu
 simp +contextual only [cO,lc.1,↓ai,aq,simprocAttr]
 refine bm (nn M a6 c5.n2) ?_
 rintro x ab ⟨iY,fO,a',eG,fj,h3⟩
 obtain ⟨ki,ee,lj,my,lR,h4⟩:=av.kL S S.c.a
 have hL:=O.atoms S.c.a c5.at_
 have eR:=a'.get
 have bY:=df ab a'.rep.ext
 have cZ:S.step bc=(S.atoms S.c.a).1.ew bc (S.atoms S.c.a).2:=rfl
 generalize (S.atoms S.c.a).1=T at *
 generalize (S.atoms S.c.a).2=bd at *
 have dF:fV ab fO bd x:=⟨eG.v,fj⟩
 have hC:T.c.k=9:=by rw [ee];exact al
 have du:=M.rep.ext.next
 obtain ⟨bO,rfl⟩:∃bO,bd=[bO]:=by
  have:bd.length=1:=by rw [h4];exact c5.bB (by omega)
  match bd,this with
  | [a],_=>exact ⟨a,rfl⟩
 obtain ⟨hs,eJ,jn,jC,_,_,c_,nc,dg⟩:=a'.arg dF 0 0 bO rfl rfl
 have hE:=dg _ (Ext.refl _)
 simp +contextual only [cO,eR,lc.1,bY.1,c_,hE.1,↓ai,aq,simprocAttr]
 refine bm (Jq ⟨_,_,_,_,a'⟩ (gW:=false) (vy:=4) rfl hs (by rw [ee];exact c5.t9 (by omega)) (by rw [ee];exact c5.st) (by rw [ee];have:=c5.gZ;omega)) ?_
 rintro y af M2
 simp +contextual only [c_,hE.1,↓ai,aq,simprocAttr]
 refine ⟨iY,fO,?_⟩
 rw [cZ]
 have:T.ew bc [bO]=T.iC false bO:=by simp only [av.ew,hC,↓reduceIte,Int.reduceEq,reduceCtorEq,false_or,or_false,or_true,true_or,List.getD_cons_zero,List.getD_cons_succ]
 rw [this]
 exact M2
set_option maxHeartbeats 4000000 in
theorem aco (M:cR ao h aE K aD bp pm S steps) (O:Ok S) (hw:S.w.length≤1000000000) (c5:Shape S.c) (a6:∀a ∈ S.c.a,a.k=1→a.n ∈ S.e.map Prod.fst) (al:S.c.k=10) {bc:List UInt8}:bR Tryz.prog 59 [.ptr aE 0] h fun x aa=>∃bg bq,cR ao aa aE bg bq bp pm (S.step bc) steps:=by
 obtain ⟨hQ,eq,gu,dv,M⟩:=M
 obtain ⟨gR,co,bl,bs,aY,rfl,cX,ea,cQ,df⟩:=M.co.open
 have cO:=M.get
 rw [al] at df
 have lc:=df h M.rep.ext
 refine np rfl (b9 ?_)
 unfold mu
 simp +contextual only [cO,lc.1,↓ai,aq,simprocAttr]
 refine bm (nn M a6 c5.n2) ?_
 rintro x ab ⟨iY,fO,a',eG,fj,h3⟩
 obtain ⟨ki,ee,lj,my,lR,h4⟩:=av.kL S S.c.a
 have hL:=O.atoms S.c.a c5.at_
 have eR:=a'.get
 have bY:=df ab a'.rep.ext
 have cZ:S.step bc=(S.atoms S.c.a).1.ew bc (S.atoms S.c.a).2:=rfl
 generalize (S.atoms S.c.a).1=T at *
 generalize (S.atoms S.c.a).2=bd at *
 have dF:fV ab fO bd x:=⟨eG.v,fj⟩
 have hC:T.c.k=10:=by rw [ee];exact al
 have du:=M.rep.ext.next
 obtain ⟨bO,rfl⟩:∃bO,bd=[bO]:=by
  have:bd.length=1:=by rw [h4];exact c5.bB (by omega)
  match bd,this with
  | [a],_=>exact ⟨a,rfl⟩
 obtain ⟨hs,eJ,jn,jC,_,_,c_,nc,dg⟩:=a'.arg dF 0 0 bO rfl rfl
 have hE:=dg _ (Ext.refl _)
 simp +contextual only [cO,eR,lc.1,bY.1,c_,hE.1,↓ai,aq,simprocAttr]
 refine bm (Jq ⟨_,_,_,_,a'⟩ (gW:=true) (vy:=1) rfl hs (by rw [ee];exact c5.t9 (by omega)) (by rw [ee];exact c5.st) (by rw [ee];have:=c5.gZ;omega)) ?_
 rintro y af M2
 simp +contextual only [c_,hE.1,↓ai,aq,simprocAttr]
 refine ⟨iY,fO,?_⟩
 rw [cZ]
 have:T.ew bc [bO]=T.iC true bO:=by simp only [av.ew,hC,↓reduceIte,Int.reduceEq,reduceCtorEq,false_or,or_false,or_true,true_or,List.getD_cons_zero,List.getD_cons_succ]
 rw [this]
 exact M2
set_option maxHeartbeats 4000000 in
theorem acq (M:cR ao h aE K aD bp pm S steps) (O:Ok S) (hw:S.w.length≤1000000000) (c5:Shape S.c) (a6:∀a ∈ S.c.a,a.k=1→a.n ∈ S.e.map Prod.fst) (al:S.c.k=7) {bc:List UInt8}:bR Tryz.prog 59 [.ptr aE 0] h fun x aa=>∃bg bq,cR ao aa aE bg bq bp pm (S.step bc) steps:=by
 obtain ⟨hQ,eq,gu,dv,M⟩:=M
 obtain ⟨gR,co,bl,bs,aY,rfl,cX,ea,cQ,df⟩:=M.co.open
 have cO:=M.get
 rw [al] at df
 have lc:=df h M.rep.ext
 refine np rfl (b9 ?_)
 unfold mu
 simp +contextual only [cO,lc.1,↓ai,aq,simprocAttr]
 refine bm (nn M a6 c5.n2) ?_
 rintro x ab ⟨iY,fO,a',eG,fj,h3⟩
 obtain ⟨ki,ee,lj,my,lR,h4⟩:=av.kL S S.c.a
 have hL:=O.atoms S.c.a c5.at_
 have eR:=a'.get
 have bY:=df ab a'.rep.ext
 have cZ:S.step bc=(S.atoms S.c.a).1.ew bc (S.atoms S.c.a).2:=rfl
 generalize (S.atoms S.c.a).1=T at *
 generalize (S.atoms S.c.a).2=bd at *
 have dF:fV ab fO bd x:=⟨eG.v,fj⟩
 have hC:T.c.k=7:=by rw [ee];exact al
 have du:=M.rep.ext.next
 have qU:=c5.EO al
 obtain ⟨q,ED,aM⟩:=gO.en cQ (k:=.i64) (i:=0) (by omega)
 have Lg:gy 7 aY (.int .i64 0)=some q:=ED
 have q_:=aM.one
 have iv:=a'.fX.one
 simp +contextual only [cO,eR,lc.1,bY.1,bY.2.1,bY.2.2.2.2.2.2,Lg,q_.1,q_.2.1,q_.2.2,iv.1,iv.2.1,iv.2.2,↓ai,aq,simprocAttr]
 have F:jU ab (ab.new (.ar [.int .i64 3,.int .i64 S.c.x,.str [],.aF,q,eq,.bool false] 0 false)) (.ptr (ak ab.next) 0) [.int .i64 3,.int .i64 S.c.x,.str [],.aF,q,eq,.bool false]:=u7 _ _
 obtain ⟨g5,i_,M2,br,aX,t⟩:=a'.LU F aM a'.fX
 rw [br]
 have gK:(ak ab.next=aE)=False:=kt a'.b4.2 (Nat.le_refl _)
 have gb:=df _ M2.rep.ext
 simp only [dT] at gb
 refine bm (kB ⟨_,_,_,_,M2⟩ hL.w aX) ?_
 rintro y af ⟨qm,cm⟩
 simp +contextual only [gK,eR,bY.2.1,bY.2.2.2.2.2.2,gb.2.1,gb.2.2.2.2.2.2,Lg,↓ai,aq,simprocAttr]
 refine ⟨qm,i_,?_⟩
 rw [cZ]
 have:T.ew bc bd=T.dw (.fn T.c.x (T.en 0) T.e):=by simp only [av.ew,hC,↓reduceIte,Int.reduceEq,reduceCtorEq,false_or,or_false,or_true,true_or,List.getD_cons_zero,List.getD_cons_succ]
 rw [this]
 exact by
  have qR:T.en 0=S.c.l[0]'(by omega):=by
   simp only [av.en,ee]
   rw [List.getD_eq_getElem?_getD,List.getElem?_eq_getElem (by omega)];rfl
  rw [qR,ee];exact cm
end
end Go.Proofs.YtjbiefneffiogaaGreat
namespace Go.Proofs.YtjbiefneffiogaaGreat
open Go ba
section
variable {ao h aa:ag} {aE:aN} {K bg:fi} {aD:List aN} {bp pm:V} {S:av} {steps:Int} {c1 cN cz bW:V}
set_option maxHeartbeats 4000000 in
theorem acr (M:cR ao h aE K aD bp pm S steps) (O:Ok S) (hw:S.w.length≤1000000000) (c5:Shape S.c) (a6:∀a ∈ S.c.a,a.k=1→a.n ∈ S.e.map Prod.fst) (al:S.c.k=5) {bc:List UInt8}:bR Tryz.prog 59 [.ptr aE 0] h fun x aa=>∃bg bq,cR ao aa aE bg bq bp pm (S.step bc) steps:=by
 obtain ⟨hQ,eq,gu,dv,M⟩:=M
 obtain ⟨gR,co,bl,bs,aY,rfl,cX,ea,cQ,df⟩:=M.co.open
 have cO:=M.get
 rw [al] at df
 have lc:=df h M.rep.ext
 refine np rfl (b9 ?_)
 unfold mu
 simp +contextual only [cO,lc.1,↓ai,aq,simprocAttr]
 refine bm (nn M a6 c5.n2) ?_
 rintro x ab ⟨iY,fO,a',eG,fj,h3⟩
 obtain ⟨ki,ee,lj,my,lR,h4⟩:=av.kL S S.c.a
 have hL:=O.atoms S.c.a c5.at_
 have eR:=a'.get
 have bY:=df ab a'.rep.ext
 have cZ:S.step bc=(S.atoms S.c.a).1.ew bc (S.atoms S.c.a).2:=rfl
 generalize (S.atoms S.c.a).1=T at *
 generalize (S.atoms S.c.a).2=bd at *
 have dF:fV ab fO bd x:=⟨eG.v,fj⟩
 have hC:T.c.k=5:=by rw [ee];exact al
 have du:=M.rep.ext.next
 obtain ⟨bO,rfl⟩:∃bO,bd=[bO]:=by
  have:bd.length=1:=by rw [h4];exact c5.bB (by omega)
  match bd,this with
  | [a],_=>exact ⟨a,rfl⟩
 obtain ⟨hs,eJ,jn,jC,_,_,c_,nc,dg⟩:=a'.arg dF 0 0 bO rfl rfl
 have hE:=dg _ (Ext.refl _)
 obtain ⟨fb,gf⟩:=c5.n5 al
 have Cy:cR ao ab aE iY fO bp pm T steps:=⟨_,_,_,_,a'⟩
 by_cases bM:¬e' (T.val bO)=4
 · have oI:=eq_false bM
   simp +contextual only [cO,eR,lc.1,bY.1,c_,hE.1,hE.2,oI,↓ai,aq,simprocAttr]
   refine bm (nt Cy 6) ?_
   rintro y af M2
   simp +contextual only [↓ai,aq,simprocAttr]
   refine ⟨iY,fO,?_⟩
   rw [cZ]
   have:T.ew bc [bO]=T.gM:=by
    simp only [av.ew,hC,↓reduceIte,Int.reduceEq,reduceCtorEq,false_or,or_false,List.getD_cons_zero,av.mD]
    cases a6:T.val bO<;>first | rfl | (rw [a6] at bM;exact (bM rfl).elim)
   rw [this]
   exact M2
 obtain ⟨t,bw,a6⟩:=As (Decidable.not_not.1 bM)
 rw [a6] at hE nc
 simp only [e',g_,iV] at hE
 obtain ⟨f1,f2,f3⟩:=nc
 have im:=f1.v.len
 by_cases aX:(bw.length:Int)≤S.c.n
 · have xC:=eq_true aX
   simp +contextual only [cO,eR,lc.1,bY.1,bY.2.2.1,c_,hE.1,hE.2,im,xC,↓ai,aq,simprocAttr]
   refine bm (nt Cy 6) ?_
   rintro y af M2
   simp +contextual only [↓ai,aq,simprocAttr]
   refine ⟨iY,fO,?_⟩
   rw [cZ]
   have:T.ew bc [bO]=T.gM:=by
    have:T.ew bc [bO]=T.mD T.c.n bO:=by simp only [av.ew,hC,↓reduceIte,Int.reduceEq,reduceCtorEq,false_or,or_false,List.getD_cons_zero]
    rw [this]
    simp only [av.mD,a6]
    rw [ee,if_pos aX]
   rw [this]
   exact M2
 have xC:=eq_false aX
 obtain ⟨m,hm⟩:∃m:Nat,S.c.n=(m:Int):=⟨S.c.n.toNat,by omega⟩
 have O0:fV ab fO bw jC:=⟨f1.v,f3⟩
 obtain ⟨ct,fT,lx,o0,KK⟩:=O0.at (k:=.i64) (i:=m) (by omega)
 rw [←hm] at lx
 have LN:=o0 _ (Ext.refl _)
 simp +contextual only [cO,eR,lc.1,bY.1,bY.2.2.1,c_,hE.1,hE.2,im,xC,lx,LN,↓ai,aq,simprocAttr]
 refine bm (kB Cy hL.w KK) ?_
 rintro y af ⟨g5,M2⟩
 simp +contextual only [eR,bY.2.2.1,c_,hE.1,hE.2,lx,LN,↓ai,aq,simprocAttr]
 refine ⟨g5,fO,?_⟩
 rw [cZ]
 have:T.ew bc [bO]=T.l9 (bw.getD m 0):=by
  have:T.ew bc [bO]=T.mD T.c.n bO:=by simp only [av.ew,hC,↓reduceIte,Int.reduceEq,reduceCtorEq,false_or,or_false,List.getD_cons_zero]
  rw [this]
  simp only [av.mD,a6]
  rw [ee,if_neg aX,hm]
  rfl
 rw [this]
 exact M2
set_option maxHeartbeats 4000000 in
theorem acs (M:cR ao h aE K aD bp pm S steps) (O:Ok S) (hw:S.w.length≤1000000000) (c5:Shape S.c) (a6:∀a ∈ S.c.a,a.k=1→a.n ∈ S.e.map Prod.fst) (al:S.c.k=2) {bc:List UInt8}:bR Tryz.prog 59 [.ptr aE 0] h fun x aa=>∃bg bq,cR ao aa aE bg bq bp pm (S.step bc) steps:=by
 obtain ⟨hQ,eq,gu,dv,M⟩:=M
 obtain ⟨gR,co,bl,bs,aY,rfl,cX,ea,cQ,df⟩:=M.co.open
 have cO:=M.get
 rw [al] at df
 have lc:=df h M.rep.ext
 refine np rfl (b9 ?_)
 unfold mu
 simp +contextual only [cO,lc.1,↓ai,aq,simprocAttr]
 refine bm (nn M a6 c5.n2) ?_
 rintro x ab ⟨iY,fO,a',eG,fj,h3⟩
 obtain ⟨ki,ee,lj,my,lR,h4⟩:=av.kL S S.c.a
 have hL:=O.atoms S.c.a c5.at_
 have eR:=a'.get
 have bY:=df ab a'.rep.ext
 have cZ:S.step bc=(S.atoms S.c.a).1.ew bc (S.atoms S.c.a).2:=rfl
 generalize (S.atoms S.c.a).1=T at *
 generalize (S.atoms S.c.a).2=bd at *
 have dF:fV ab fO bd x:=⟨eG.v,fj⟩
 have hC:T.c.k=2:=by rw [ee];exact al
 have du:=M.rep.ext.next
 have h7:=c5.gb (by omega)
 obtain ⟨ug,EE,xI⟩:=gO.en cQ (k:=.i64) (i:=0) (by omega)
 obtain ⟨aG,EG,xJ⟩:=gO.en cQ (k:=.i64) (i:=1) (by omega)
 have EF:gy 7 aY (.int .i64 0)=some ug:=EE
 have EH:gy 7 aY (.int .i64 1)=some aG:=EG
 have uc:=xI.one
 have ra:=xJ.one
 have iv:=a'.fX.one
 have W:=a'.wr
 obtain ⟨us,eE,di,iW,m'⟩:=W
 have Uk:T.w.length≤1000000000:=by rw [lj];exact hw
 obtain ⟨dE,aK,b_,b1,cy,gB,hV⟩:=oo (size:=4) (cs:=[.bool false,.int .i64 S.c.x,aG,eq]) (by omega) eE a'.rep.ext.next (by unfold top;omega) rfl (by simp only [fg,ra.1,iv.1,Bool.and_self];rfl)
 obtain ⟨qm,cm⟩:=a'.waited (a:=⟨false,S.c.x,S.c.l[1]'(by omega),T.e⟩) xJ a'.fX eE b1 cy (fun b q=>by rcases hV b q with r | r;exact .inl r;exact .inr (by omega)) ⟨us,rfl,iW,m'⟩
 have c0:=cm.next {T with w:=⟨false,S.c.x,S.c.l[1]'(by omega),T.e⟩::T.w,c:=S.c.l[0]'(by omega)} steps ug eq dE dv rfl xI cm.fX cm.wr cm.fB
 have eD:=b1.v.one
 have gK:(ak ab.next=aE)=False:=kt a'.b4.2 (Nat.le_refl _)
 have mQ:=df _ (a'.rep.ext.trans ((Ext.refl ab).new (.ar [.bool false,.int .i64 S.c.x,aG,eq] 0 false)))
 simp only [dT] at mQ
 have mF:aK.get aE=_:=(cy.get aE a'.b4.2 (fun q=>by have:=di aE q;rw [a'.fq] at this;cases this)).trans eR
 have c6:Ext ao aK:=⟨by have:=a'.rep.ext.next;omega,fun b ah=>(cy.get b (Nat.lt_of_lt_of_le ah a'.rep.ext.next) (fun q=>by have:=eE.base q;unfold Old at ah;omega)).trans (a'.rep.ext.get b ah)⟩
 have mP:=df aK c6
 have nS:=df _ cm.rep.ext
 simp only [cM] at nS
 simp +contextual only [cO,eR,lc.1,bY.1,bY.2.1,bY.2.2.2.2.2.2,EF,EH,uc.1,uc.2.1,uc.2.2,ra.1,ra.2.1,ra.2.2,iv.1,iv.2.1,iv.2.2,gK,mQ.1,mQ.2.1,mQ.2.2.2.2.2.2,b_,mF,mP.1,mP.2.1,mP.2.2.2.2.2.2,nS.2.2.2.2.2.2,eD.1,eD.2.1,↓ai,aq,simprocAttr]
 refine ⟨qm,fO,?_⟩
 rw [cZ]
 have oQ:T.en 0=S.c.l[0]'(by omega):=by
  simp only [av.en,ee]
  rw [List.getD_eq_getElem?_getD,List.getElem?_eq_getElem (by omega)];rfl
 have kU:T.en 1=S.c.l[1]'(by omega):=by
  simp only [av.en,ee]
  rw [List.getD_eq_getElem?_getD,List.getElem?_eq_getElem (by omega)];rfl
 have:T.ew bc bd={T with w:=⟨false,S.c.x,S.c.l[1]'(by omega),T.e⟩::T.w,c:=S.c.l[0]'(by omega)}:=by
  simp only [av.ew,hC,↓reduceIte,Int.reduceEq,reduceCtorEq,false_or,or_false,or_true,true_or,av.waits,oQ,kU]
  rw [ee]
  rfl
 rw [this]
 exact ⟨_,_,_,_,c0⟩
set_option maxHeartbeats 4000000 in
theorem acz (M:cR ao h aE K aD bp pm S steps) (O:Ok S) (hw:S.w.length≤1000000000) (c5:Shape S.c) (a6:∀a ∈ S.c.a,a.k=1→a.n ∈ S.e.map Prod.fst) (al:S.c.k=11) {bc:List UInt8}:bR Tryz.prog 59 [.ptr aE 0] h fun x aa=>∃bg bq,cR ao aa aE bg bq bp pm (S.step bc) steps:=by
 obtain ⟨hQ,eq,gu,dv,M⟩:=M
 obtain ⟨gR,co,bl,bs,aY,rfl,cX,ea,cQ,df⟩:=M.co.open
 have cO:=M.get
 rw [al] at df
 have lc:=df h M.rep.ext
 refine np rfl (b9 ?_)
 unfold mu
 simp +contextual only [cO,lc.1,↓ai,aq,simprocAttr]
 refine bm (nn M a6 c5.n2) ?_
 rintro x ab ⟨iY,fO,a',eG,fj,h3⟩
 obtain ⟨ki,ee,lj,my,lR,h4⟩:=av.kL S S.c.a
 have hL:=O.atoms S.c.a c5.at_
 have eR:=a'.get
 have bY:=df ab a'.rep.ext
 have cZ:S.step bc=(S.atoms S.c.a).1.ew bc (S.atoms S.c.a).2:=rfl
 generalize (S.atoms S.c.a).1=T at *
 generalize (S.atoms S.c.a).2=bd at *
 have dF:fV ab fO bd x:=⟨eG.v,fj⟩
 have hC:T.c.k=11:=by rw [ee];exact al
 have du:=M.rep.ext.next
 have h7:=c5.gb (by omega)
 obtain ⟨ug,EE,xI⟩:=gO.en cQ (k:=.i64) (i:=0) (by omega)
 obtain ⟨aG,EG,xJ⟩:=gO.en cQ (k:=.i64) (i:=1) (by omega)
 have EF:gy 7 aY (.int .i64 0)=some ug:=EE
 have EH:gy 7 aY (.int .i64 1)=some aG:=EG
 have uc:=xI.one
 have ra:=xJ.one
 have iv:=a'.fX.one
 have W:=a'.wr
 obtain ⟨us,eE,di,iW,m'⟩:=W
 have Uk:T.w.length≤1000000000:=by rw [lj];exact hw
 obtain ⟨dE,aK,b_,b1,cy,gB,hV⟩:=oo (size:=4) (cs:=[.bool true,.int .i64 S.c.x,aG,eq]) (by omega) eE a'.rep.ext.next (by unfold top;omega) rfl (by simp only [fg,ra.1,iv.1,Bool.and_self];rfl)
 obtain ⟨qm,cm⟩:=a'.waited (a:=⟨true,S.c.x,S.c.l[1]'(by omega),T.e⟩) xJ a'.fX eE b1 cy (fun b q=>by rcases hV b q with r | r;exact .inl r;exact .inr (by omega)) ⟨us,rfl,iW,m'⟩
 have c0:=cm.next {T with w:=⟨true,S.c.x,S.c.l[1]'(by omega),T.e⟩::T.w,c:=S.c.l[0]'(by omega)} steps ug eq dE dv rfl xI cm.fX cm.wr cm.fB
 have eD:=b1.v.one
 have gK:(ak ab.next=aE)=False:=kt a'.b4.2 (Nat.le_refl _)
 have mQ:=df _ (a'.rep.ext.trans ((Ext.refl ab).new (.ar [.bool true,.int .i64 S.c.x,aG,eq] 0 false)))
 simp only [dT] at mQ
 have mF:aK.get aE=_:=(cy.get aE a'.b4.2 (fun q=>by have:=di aE q;rw [a'.fq] at this;cases this)).trans eR
 have c6:Ext ao aK:=⟨by have:=a'.rep.ext.next;omega,fun b ah=>(cy.get b (Nat.lt_of_lt_of_le ah a'.rep.ext.next) (fun q=>by have:=eE.base q;unfold Old at ah;omega)).trans (a'.rep.ext.get b ah)⟩
 have mP:=df aK c6
 have nS:=df _ cm.rep.ext
 simp only [cM] at nS
 simp +contextual only [cO,eR,lc.1,bY.1,bY.2.1,bY.2.2.2.2.2.2,EF,EH,uc.1,uc.2.1,uc.2.2,ra.1,ra.2.1,ra.2.2,iv.1,iv.2.1,iv.2.2,gK,mQ.1,mQ.2.1,mQ.2.2.2.2.2.2,b_,mF,mP.1,mP.2.1,mP.2.2.2.2.2.2,nS.2.2.2.2.2.2,eD.1,eD.2.1,↓ai,aq,simprocAttr]
 refine ⟨qm,fO,?_⟩
 rw [cZ]
 have oQ:T.en 0=S.c.l[0]'(by omega):=by
  simp only [av.en,ee]
  rw [List.getD_eq_getElem?_getD,List.getElem?_eq_getElem (by omega)];rfl
 have kU:T.en 1=S.c.l[1]'(by omega):=by
  simp only [av.en,ee]
  rw [List.getD_eq_getElem?_getD,List.getElem?_eq_getElem (by omega)];rfl
 have:T.ew bc bd={T with w:=⟨true,S.c.x,S.c.l[1]'(by omega),T.e⟩::T.w,c:=S.c.l[0]'(by omega)}:=by
  simp only [av.ew,hC,↓reduceIte,Int.reduceEq,reduceCtorEq,false_or,or_false,or_true,true_or,av.waits,oQ,kU]
  rw [ee]
  rfl
 rw [this]
 exact ⟨_,_,_,_,c0⟩
theorem acp (M:cR ao h aE K aD bp pm S steps) (O:Ok S) (hw:S.w.length≤1000000000) (c5:Shape S.c) (a6:∀a ∈ S.c.a,a.k=1→a.n ∈ S.e.map Prod.fst) (jg:1≤S.c.k∧S.c.k≤12)
 (D:yP ao pm) {bc:List UInt8} (iX:cF ao 1 bp bc.length (dZ bc)) (hlen:bc.length≤1073741824) (qX:S.read≤bc.length):bR Tryz.prog 59 [.ptr aE 0] h fun x aa=>∃bg bq,cR ao aa aE bg bq bp pm (S.step bc) steps:=by
 have:S.c.k=1∨S.c.k=2∨S.c.k=3∨S.c.k=4∨S.c.k=5∨S.c.k=6∨S.c.k=7∨S.c.k=8∨S.c.k=9∨S.c.k=10∨S.c.k=11∨S.c.k=12:=by omega
 rcases this with al | al | al | al | al | al | al | al | al | al | al | al
 · exact step_ret M O hw c5 a6 al
 · exact acs M O hw c5 a6 al
 · exact acv M O hw c5 a6 D iX hlen qX al
 · exact acu M O hw c5 a6 al
 · exact acr M O hw c5 a6 al
 · exact acn M O hw c5 a6 al
 · exact acq M O hw c5 a6 al
 · exact acx M O hw c5 a6 al
 · exact acy M O hw c5 a6 al
 · exact aco M O hw c5 a6 al
 · exact acz M O hw c5 a6 al
 · exact acw M O hw c5 a6 al
end
end Go.Proofs.YtjbiefneffiogaaGreat
namespace Go.Proofs.YtjbiefneffiogaaGreat
open Go ba
def fY:List Int→Nat→List ig
 | [],_=>[]
 | x::l,n=>⟨.int .i64 x,.bool true,n⟩::fY l (n+1)
theorem J1 {k:Int}:∀(l:List Int) (n:Nat),ll ep.int.eq (.int .i64 k) (fY l n)=some (if l.contains k then some (.bool true) else none)
 | [],_=>rfl
 | x::l,n=>by
   have bb:=J1 (k:=k) l (n+1)
   simp only [fY,ll,ep.eq,mA,V.dD,show lk .i64 .i64=true from rfl,cond_true,mz,List.contains_cons] at bb ⊢
   by_cases h:k=x
   · subst h;simp
   · have ah:(k == x)=false:=by simpa using h
     rw [decide_eq_false h,ah,Bool.false_or]
     exact bb
theorem MV {k:Int} {c:Nat}:∀(l:List Int) (n:Nat),l.contains k=false→kx ep.int.eq (.int .i64 k) (.bool true) c (fY l n)=some (fY l n++[⟨.int .i64 k,.bool true,c⟩],true)
 | [],_,_=>rfl
 | x::l,n,h=>by
   rw [List.contains_cons,Bool.or_eq_false_iff] at h
   have bb:=MV (k:=k) (c:=c) l (n+1) h.2
   have an:¬k=x:=by simpa using h.1
   simp only [fY,kx,ep.eq,mA,V.dD,show lk .i64 .i64=true from rfl,cond_true,mz,decide_eq_false an,cond_false] at bb ⊢
   rw [bb]
   rfl
theorem JQ:∀(l:List Int) (n:Nat) (k:Int),fY l n++[⟨.int .i64 k,.bool true,n+l.length⟩]=fY (l++[k]) n
 | [],n,k=>rfl
 | x::l,n,k=>by
   rw [fY,List.cons_append,List.cons_append,fY,←JQ l (n+1) k,List.length_cons]
   congr 4
   omega
theorem Zf {h:ag} {b:aN} {l:List Int} {c:Nat} (a1:h.get b=.mp (fY l 0) c) (k:Int):jL ep.int.eq (.bool false) false h (.map b) (.int .i64 k)=some (.bool (l.contains k)):=by
 simp only [jL,pT,a1,cp.m0,J1,cond_false]
 cases l.contains k<;>rfl
theorem F_ {h:ag} {b:aN} {l:List Int} (a1:h.get b=.mp (fY l 0) l.length) {k:Int} (al:l.contains k=false):jR ep.int.eq h (.map b) (.int .i64 k) (.bool true)=some (h.set b (.mp (fY (l++[k]) 0) (l++[k]).length)):=by
 simp only [jR,a1,cp.m0,MV l 0 al,cond_true,Option.some.injEq]
 rw [←JQ l 0 k,Nat.zero_add,List.length_append]
 rfl
def sz (gW:Bool):List Int→List Int→Bool
 | _,[]=>true
 | seen,t::l=>(if gW then pV t else eN t)&&!seen.contains t&&sz gW (seen++[t]) l
theorem Oi (gW:Bool):∀(l seen:List Int),sz gW seen l=(p_ gW l&&l.all fun t=>!seen.contains t)
 | [],seen=>by simp [sz,p_,diff]
 | t::l,seen=>by
   rw [sz,Oi gW l (seen++[t])]
   have:(l.all fun u=>!(seen++[t]).contains u)=((l.all fun u=>!seen.contains u)&&!l.contains t):=by
    rw [Bool.eq_iff_iff]
    simp only [List.all_eq_true,Bool.and_eq_true,Bool.not_eq_true',List.contains_eq_mem,decide_eq_false_iff_not,List.mem_append,List.mem_singleton,not_or]
    constructor
    · intro h;exact ⟨fun x an=>(h x an).1,fun aI=>(h t aI).2 rfl⟩
    · rintro ⟨ab,af⟩ x an;exact ⟨ab x an,fun e=>af (e ▸ an)⟩
   rw [this]
   simp only [p_,List.all_cons,diff]
   generalize (if gW=true then pV t else eN t)=p
   generalize seen.contains t=q
   generalize l.contains t=r
   cases p<;>cases q<;>cases r<;>simp [Bool.and_assoc,Bool.and_comm,Bool.and_left_comm]
theorem acH (gW:Bool) (l:List Int):sz gW [] l=p_ gW l:=by rw [Oi];simp
theorem Oh (c:aw) (ad:List V) (h:ag) (H:eF h c ad) (aB:c.t.length≤4611686018427387903) (h7:c.l.length≤4611686018427387903):bR Tryz.prog 123 [.agg ad] h fun x aa=>x=.bool (p' c)∧Ext h aa:=by
 obtain ⟨bl,bs,aY,rfl,cX,ea,cQ⟩:=H.open
 refine Q4 rfl (b9 ?_)
 unfold HP
 have b5:Ext h (h.new (.ar [.int .i64 c.k,.int .i64 c.x,.int .i64 c.n,.str c.s,bl,bs,aY] 0 false)):=(Ext.refl h).new _
 simp +contextual only [show ∀g:ag,nW none g=.val (.map (ak g.next)) (g.new (.mp [] 0)) from fun g=>rfl,ea.len,↓ai,aq,simprocAttr]
 refine gz (fun r aa=>Ext h aa∧aa.get (ak h.next)=.ar [.int .i64 c.k,.int .i64 c.x,.int .i64 c.n,.str c.s,bl,bs,aY] 0 false∧h.next+2≤aa.next∧r 1=.ptr (ak h.next) 0∧r 3=.map (ak (h.next+1))∧r 9=bs∧r 10=.int .i64 c.t.length∧
  ∃i:Nat,r 11=.int .i64 i∧i≤c.t.length∧aa.get (ak (h.next+1))=.mp (fY (c.t.take i) 0) (c.t.take i).length∧p_ (decide (c.k=10)) c.t=sz (decide (c.k=10)) (c.t.take i) (c.t.drop i)) (fun r aa=>c.t.length - (r 11).hf) ?_ ?_
 · refine ⟨(b5.new _),?_,?_,by simp only [↓ai,a2,simprocAttr],by simp only [↓ai,a2,simprocAttr],by simp only [↓ai,a2,simprocAttr],by simp only [↓ai,a2,simprocAttr],0,by simp only [↓ai,a2,simprocAttr]<;>rfl,by omega,?_,?_⟩
   · simp only [↓ai,aq,simprocAttr]
   · simp only [cH];omega
   · simp only [↓ai,aq,simprocAttr];rfl
   · rw [List.take_zero,List.drop_zero,acH]
 · rintro r aa ⟨an,ah,aX,bf,ch,gh,hW,i,jr,ax,hm,b7⟩
   unfold HQ
   by_cases aS:i<c.t.length
   · have bP:((i:Int) < (c.t.length:Int))=True:=eq_true (by omega)
     obtain ⟨b,o,cl,c7⟩:=ints_at (ea.ext an) (k:=.i64) aS
     rw [List.drop_eq_getElem_cons aS,sz] at b7
     have w:=hg aS (by omega)
     have iQ:=Zf hm c.t[i]
     have eL:(h.next=h.next+1)=False:=eq_false (by omega)
     have xE:(h.next+1=h.next)=False:=eq_false (by omega)
     have iK:=an.set (i:=h.next+1) (by omega) (.mp (fY (c.t.take i++[c.t[i]]) 0) (c.t.take i++[c.t[i]]).length)
     have lZ:c.t.take (i+1)=c.t.take i++[c.t[i]]:=by rw [List.take_add_one,List.getElem?_eq_getElem aS];rfl
     have km:(aa.set (ak (h.next+1)) (.mp (fY (c.t.take i++[c.t[i]]) 0) (c.t.take i++[c.t[i]]).length)).get (ak h.next)=.ar [.int .i64 c.k,.int .i64 c.x,.int .i64 c.n,.str c.s,bl,bs,aY] 0 false:=by
      rw [cM,if_neg (by rw [gg];omega)];exact ah
     have KN:(aa.set (ak (h.next+1)) (.mp (fY (c.t.take i++[c.t[i]]) 0) (c.t.take i++[c.t[i]]).length)).get (ak (h.next+1))=.mp (fY (c.t.take i++[c.t[i]]) 0) (c.t.take i++[c.t[i]]).length:=by
      rw [cM,if_pos rfl]
     simp +contextual only [bf,ch,gh,hW,jr,bP,cl,c7,↓ai,aq,simprocAttr]
     refine qD (Gf _ _) ?_
     have KT:(decide (-1073741824≤c.t[i])&&decide (c.t[i]≤1073741823))=pV c.t[i]:=rfl
     generalize xi:(if (decide (c.k=10))=true then pV c.t[i] else eN c.t[i])=ek at b7
     have xq:ek=true→(c.t.take i).contains c.t[i]=false→p_ (decide (c.k=10)) c.t=sz (decide (c.k=10)) (c.t.take (i+1)) (c.t.drop (i+1)):=by
      intro aG az
      rw [b7,aG,az,lZ];rfl
     have qM:(!ek||(c.t.take i).contains c.t[i])=true→p' c=false:=by
      intro q
      have:p_ (decide (c.k=10)) c.t=false:=by
       rw [b7]
       revert q
       cases ek<;>cases (c.t.take i).contains c.t[i]<;>simp
      rw [p',this,Bool.false_and]
     by_cases al:c.k=10
     · have kU:=eq_true al
       have mL:pV c.t[i]=ek:=by rw [←xi,if_pos (decide_eq_true al)]
       simp +contextual only [bf,ch,gh,hW,jr,ah,kU,KT,mL,iQ,↓ai,aq,simprocAttr]
       cases ek with
       | false=>
         have s9:=qM (by simp)
         simp +contextual only [bf,ch,gh,hW,jr,s9,↓ai,aq,simprocAttr]
         exact an
       | true=>
         cases bk:(c.t.take i).contains c.t[i] with
         | true=>
           have s9:=qM (by rw [bk];rfl)
           simp +contextual only [bf,ch,gh,hW,jr,iQ,bk,s9,↓ai,aq,simprocAttr]
           exact an
         | false=>
           have hu:=F_ hm bk
           simp +contextual only [bf,ch,gh,hW,jr,iQ,bk,hu,w,↓ai,aq,simprocAttr]
           exact ⟨⟨iK,ah,aX,⟨i+1,rfl,aS,by rw [lZ],by have:=xq rfl bk;simpa only [kU,decide_true,decide_false] using this⟩⟩,by omega⟩
     · have kU:=eq_false al
       have mL:eN c.t[i]=ek:=by rw [←xi,if_neg (by simp [al])]
       simp +contextual only [bf,ch,gh,hW,jr,ah,kU,KT,mL,iQ,↓ai,aq,simprocAttr]
       cases ek with
       | false=>
         have s9:=qM (by simp)
         simp +contextual only [bf,ch,gh,hW,jr,s9,↓ai,aq,simprocAttr]
         exact an
       | true=>
         cases bk:(c.t.take i).contains c.t[i] with
         | true=>
           have s9:=qM (by rw [bk];rfl)
           simp +contextual only [bf,ch,gh,hW,jr,iQ,bk,s9,↓ai,aq,simprocAttr]
           exact an
         | false=>
           have hu:=F_ hm bk
           simp +contextual only [bf,ch,gh,hW,jr,iQ,bk,hu,w,↓ai,aq,simprocAttr]
           exact ⟨⟨iK,ah,aX,⟨i+1,rfl,aS,by rw [lZ],by have:=xq rfl bk;simpa only [kU,decide_true,decide_false] using this⟩⟩,by omega⟩
   · have bP:((i:Int) < (c.t.length:Int))=False:=eq_false (by omega)
     rw [List.drop_eq_nil_of_le (by omega)] at b7
     have c2:=(cQ.ext an).len
     have eg:=(ea.ext an).len
     have di:IntKind.i64.wrap ((c.t.length:Int)+1)=(c.t.length:Int)+1:=by rw [wrap_i64 (by omega) (by omega)]
     simp +contextual only [bf,ch,gh,hW,jr,bP,ah,c2,eg,di,↓ai,aq,simprocAttr]
     refine ⟨?_,an⟩
     rw [p',b7]
     rfl
theorem aaw {b:Bool} {c:aw} (h:d_ c.k=none):cx b c=false:=by simp [cx,h]
set_option maxHeartbeats 2000000 in
theorem MI (b:Bool) (c:aw) (ad:List V) (h:ag) (H:eF h c ad) (ab:c.t.length≤4611686018427387903) (af:c.l.length≤4611686018427387903) (aK:c.a.length≤4611686018427387903):
 bR Tryz.prog 61 [.agg ad,.bool b] h fun x aa=>x=.bool (cx b c)∧Ext h aa:=by
 obtain ⟨bl,bs,aY,rfl,cX,ea,cQ⟩:=H.open
 refine RB rfl (b9 ?_)
 unfold IG
 simp +contextual only [↓ai,aq,simprocAttr]
 refine bm (abN c.k _) ?_
 rintro x bF ⟨rfl,et⟩
 have b5:Ext h (h.new (.ar [.int .i64 c.k,.int .i64 c.x,.int .i64 c.n,.str c.s,bl,bs,aY] 0 false)):=(Ext.refl h).new _
 have an:=b5.trans et
 have ah:bF.get (ak h.next)=.ar [.int .i64 c.k,.int .i64 c.x,.int .i64 c.n,.str c.s,bl,bs,aY] 0 false:=by rw [et.get _ (dC (by rw [cH];omega)),gT]
 have aS:h.next<bF.next:=by have:=et.next;rw [cH] at this;omega
 have fb:(bF.next=h.next)=False:=eq_false (by omega)
 have gf:(h.next=bF.next)=False:=eq_false (by omega)
 cases aT:d_ c.k with
 | none=>
   have aH:=aaw (b:=b) aT
   simp +contextual only [aT,aH,Option.getD,Option.isSome,h2.enc,h2.none,ah,fb,gf,↓ai,aq,simprocAttr]
   exact (an.new _).set (by omega) _
 | some r=>
   obtain ⟨rx,p3,rs,rt,a0,bB,b',bY⟩:=r
   have ik:cx b c=(eN c.x&&(rx||decide (c.x=0))&&(p3||b||decide (c.n=0))&&(rs||decide (c.s=[]))&&(rt||decide (c.t=[]))&&
    (qe c.a.length a0 bB&&qe c.l.length b' bY&&eN c.n)&&
    (!(decide (c.k=5)&&decide (1024≤c.n))&&!(decide (c.k=3)&&!decide (ib c.s=c.a.length))&&(!rt||p' c))&&c.a.all e5):=by
    simp only [cx,aT]
   have aeS:(c.t=[])↔c.t.length=0:=by rw [List.length_eq_zero_iff]
   simp +contextual only [aT,Option.getD,Option.isSome,h2.enc,ah,fb,gf,↓ai,aq,simprocAttr]
   refine qD (Gf _ _) ?_
   cases aeU:eN c.x with
   | false=>
     have au:cx b c=false:=by rw [ik];grind
     simp +contextual only [ah,fb,gf,au,↓ai,aq,simprocAttr]
     exact (an.new _).set (by omega) _
   | true=>
   cases aG:(!rx&&!decide (c.x=0)) with
   | true=>
     have au:cx b c=false:=by rw [ik];grind
     simp +contextual only [ah,fb,gf,aG,au,↓ai,aq,simprocAttr]
     exact (an.new _).set (by omega) _
   | false=>
   cases az:(!p3&&!b&&!decide (c.n=0)) with
   | true=>
     have au:cx b c=false:=by rw [ik];grind
     simp +contextual only [ah,fb,gf,aG,az,au,↓ai,aq,simprocAttr]
     exact (an.new _).set (by omega) _
   | false=>
   cases aW:(!rs&&!decide (c.s=[])) with
   | true=>
     have au:cx b c=false:=by rw [ik];grind
     simp +contextual only [ah,fb,gf,aG,az,aW,au,↓ai,aq,simprocAttr]
     exact (an.new _).set (by omega) _
   | false=>
   have xh:=(ea.ext an).len
   cases bZ:(!rt&&decide (0 < (c.t.length:Int))) with
   | true=>
     have au:cx b c=false:=by rw [ik];grind
     simp +contextual only [ah,fb,gf,aG,az,aW,bZ,xh,au,↓ai,aq,simprocAttr]
     exact (an.new _).set (by omega) _
   | false=>
   have T_:=(cX.ext an).len
   have fx:∀g dK:ag,Ext g dK→bF.next<g.next∧g.get (ak h.next)=.ar [.int .i64 c.k,.int .i64 c.x,.int .i64 c.n,.str c.s,bl,bs,aY] 0 false∧g.get (ak bF.next)=.ar [.bool rx,.bool p3,.bool rs,.bool rt,.int .i64 a0,.int .i64 bB,.int .i64 b',.int .i64 bY] 0 false→
    bF.next<dK.next∧dK.get (ak h.next)=.ar [.int .i64 c.k,.int .i64 c.x,.int .i64 c.n,.str c.s,bl,bs,aY] 0 false∧dK.get (ak bF.next)=.ar [.bool rx,.bool p3,.bool rs,.bool rt,.int .i64 a0,.int .i64 bB,.int .i64 b',.int .i64 bY] 0 false:=by
    rintro g dK e ⟨bT,b8,fp⟩
    exact ⟨Nat.lt_of_lt_of_le bT e.next,by rw [e.get _ (dC (by omega))];exact b8,by rw [e.get _ (dC bT)];exact fp⟩
   simp +contextual only [ah,fb,gf,aG,az,aW,bZ,xh,T_,↓ai,aq,simprocAttr]
   have s1:Ext h ((bF.new (cp.ar [V.bool false,V.bool false,V.bool false,V.bool false,V.int IntKind.i64 0,V.int IntKind.i64 0,V.int IntKind.i64 0,V.int IntKind.i64 0] 0 false)).set (ak bF.next) (.ar [.bool rx,.bool p3,.bool rs,.bool rt,.int .i64 a0,.int .i64 bB,.int .i64 b',.int .i64 bY] 0 false)):=(an.new _).set (by omega) _
   have bT:bF.next < ((bF.new (cp.ar [V.bool false,V.bool false,V.bool false,V.bool false,V.int IntKind.i64 0,V.int IntKind.i64 0,V.int IntKind.i64 0,V.int IntKind.i64 0] 0 false)).set (ak bF.next) (.ar [.bool rx,.bool p3,.bool rs,.bool rt,.int .i64 a0,.int .i64 bB,.int .i64 b',.int .i64 bY] 0 false)).next∧((bF.new (cp.ar [V.bool false,V.bool false,V.bool false,V.bool false,V.int IntKind.i64 0,V.int IntKind.i64 0,V.int IntKind.i64 0,V.int IntKind.i64 0] 0 false)).set (ak bF.next) (.ar [.bool rx,.bool p3,.bool rs,.bool rt,.int .i64 a0,.int .i64 bB,.int .i64 b',.int .i64 bY] 0 false)).get (ak h.next)=.ar [.int .i64 c.k,.int .i64 c.x,.int .i64 c.n,.str c.s,bl,bs,aY] 0 false∧((bF.new (cp.ar [V.bool false,V.bool false,V.bool false,V.bool false,V.int IntKind.i64 0,V.int IntKind.i64 0,V.int IntKind.i64 0,V.int IntKind.i64 0] 0 false)).set (ak bF.next) (.ar [.bool rx,.bool p3,.bool rs,.bool rt,.int .i64 a0,.int .i64 bB,.int .i64 b',.int .i64 bY] 0 false)).get (ak bF.next)=.ar [.bool rx,.bool p3,.bool rs,.bool rt,.int .i64 a0,.int .i64 bB,.int .i64 b',.int .i64 bY] 0 false:=by
    refine ⟨by rw [fA,cH];omega,?_,?_⟩
    · rw [cM,if_neg (by rw [gg];omega),dT,if_neg (by rw [gg];omega)];exact ah
    · rw [cM,if_pos rfl]
   generalize (bF.new (cp.ar [V.bool false,V.bool false,V.bool false,V.bool false,V.int IntKind.i64 0,V.int IntKind.i64 0,V.int IntKind.i64 0,V.int IntKind.i64 0] 0 false)).set (ak bF.next) (.ar [.bool rx,.bool p3,.bool rs,.bool rt,.int .i64 a0,.int .i64 bB,.int .i64 b',.int .i64 bY] 0 false)=rD at *
   refine bm (OO _ _ _ rD) ?_
   rintro x bz ⟨rfl,lv⟩
   obtain ⟨b8,fu,d2⟩:=fx rD bz lv bT
   have s2:=s1.trans lv
   have Uh:=(cQ.ext s2).len
   cases eE:qe (c.a.length:Int) a0 bB with
   | false=>
     have au:cx b c=false:=by rw [ik];grind
     simp +contextual only [fu,d2,fb,gf,eE,au,↓ai,aq,simprocAttr]
     exact s2
   | true=>
   simp +contextual only [fu,d2,fb,gf,eE,Uh,↓ai,aq,simprocAttr]
   refine bm (OO _ _ _ bz) ?_
   rintro x b6 ⟨rfl,qZ⟩
   obtain ⟨fp,jc,d3⟩:=fx bz b6 qZ ⟨b8,fu,d2⟩
   have iT:=s2.trans qZ
   cases di:qe (c.l.length:Int) b' bY with
   | false=>
     have au:cx b c=false:=by rw [ik];grind
     simp +contextual only [jc,d3,fb,gf,di,au,↓ai,aq,simprocAttr]
     exact iT
   | true=>
   simp +contextual only [jc,d3,fb,gf,di,↓ai,aq,simprocAttr]
   refine qD (Gf _ _) ?_
   cases Wd:eN c.n with
   | false=>
     have au:cx b c=false:=by rw [ik];grind
     simp +contextual only [jc,d3,fb,gf,au,↓ai,aq,simprocAttr]
     exact iT
   | true=>
   have zU:=(cX.ext iT).len
   cases iW:(decide (c.k=5)&&decide (1024≤c.n)) with
   | true=>
     have au:cx b c=false:=by rw [ik];grind
     simp +contextual only [jc,d3,fb,gf,iW,au,↓ai,aq,simprocAttr]
     exact iT
   | false=>
   by_cases DZ:c.k=3
   · have xu:=eq_true DZ
     have D0:(c.k=5)=False:=eq_false (by omega)
     simp +contextual only [jc,d3,fb,gf,xu,D0,zU,↓ai,aq,simprocAttr]
     refine bm (aaK b6) ?_
     rintro x fP ⟨rfl,Vg,Ew⟩
     have iQ:=Zg Vg c.s
     obtain ⟨h8,rP,d4⟩:=fx b6 fP Ew ⟨fp,jc,d3⟩
     have ss:=iT.trans Ew
     have Kr:=(cX.ext ss).len
     have TB:=Ew.next
     by_cases La:ib c.s=c.a.length
     · have Er:=eq_true La
       simp +contextual only [jc,d3,rP,d4,fb,gf,xu,D0,zU,Kr,iQ,Er,CL,↓ai,aq,simprocAttr]
       cases rt with
       | false=>
         simp +contextual only [rP,d4,fb,gf,↓ai,aq,simprocAttr]
         refine bm (zr c.a bl fP (cX.ext ss) (by omega)) ?_
         rintro x jD ⟨rfl,q0⟩
         have au:cx b c=c.a.all e5:=by rw [ik];grind
         simp +contextual only [au,Bool.not_not,↓ai,aq,simprocAttr]
         exact (ss).trans q0
       | true=>
         simp +contextual only [rP,d4,fb,gf,↓ai,aq,simprocAttr]
         refine bm (Oh c _ fP (H.ext ss) ab af) ?_
         rintro x jD ⟨rfl,q0⟩
         obtain ⟨mO,uU,d5⟩:=fx fP jD q0 ⟨by have:=fp;have:=TB;omega,rP,d4⟩
         have uj:=(ss).trans q0
         cases V1:p' c with
         | false=>
           have au:cx b c=false:=by rw [ik];grind
           simp +contextual only [uU,d5,fb,gf,au,↓ai,aq,simprocAttr]
           exact uj
         | true=>
           simp +contextual only [uU,d5,fb,gf,↓ai,aq,simprocAttr]
           refine bm (zr c.a bl jD (cX.ext uj) (by omega)) ?_
           rintro x mC ⟨rfl,Ex⟩
           have au:cx b c=c.a.all e5:=by rw [ik];grind
           simp +contextual only [au,Bool.not_not,↓ai,aq,simprocAttr]
           exact uj.trans Ex
     · have Er:=eq_false La
       have au:cx b c=false:=by rw [ik];grind
       simp +contextual only [jc,d3,rP,d4,fb,gf,xu,D0,zU,Kr,iQ,Er,au,CL,↓ai,aq,simprocAttr]
       exact ss
   · have xu:=eq_false DZ
     have TA:=qZ.next
     simp +contextual only [jc,d3,fb,gf,iW,xu,zU,CL,↓ai,aq,simprocAttr]
     cases rt with
     | false=>
       simp +contextual only [jc,d3,fb,gf,↓ai,aq,simprocAttr]
       refine bm (zr c.a bl b6 (cX.ext iT) (by omega)) ?_
       rintro x jD ⟨rfl,q0⟩
       have au:cx b c=c.a.all e5:=by rw [ik];grind
       simp +contextual only [au,Bool.not_not,↓ai,aq,simprocAttr]
       exact (iT).trans q0
     | true=>
       simp +contextual only [jc,d3,fb,gf,↓ai,aq,simprocAttr]
       refine bm (Oh c _ b6 (H.ext iT) ab af) ?_
       rintro x jD ⟨rfl,q0⟩
       obtain ⟨mO,uU,d5⟩:=fx b6 jD q0 ⟨by have:=fp;have:=TA;omega,jc,d3⟩
       have uj:=(iT).trans q0
       cases V1:p' c with
       | false=>
         have au:cx b c=false:=by rw [ik];grind
         simp +contextual only [uU,d5,fb,gf,au,↓ai,aq,simprocAttr]
         exact uj
       | true=>
         simp +contextual only [uU,d5,fb,gf,↓ai,aq,simprocAttr]
         refine bm (zr c.a bl jD (cX.ext uj) (by omega)) ?_
         rintro x mC ⟨rfl,Ex⟩
         have au:cx b c=c.a.all e5:=by rw [ik];grind
         simp +contextual only [au,Bool.not_not,↓ai,aq,simprocAttr]
         exact uj.trans Ex
theorem ZM {c:aw} {u:List V} {g:ag} {r:Bool} (H:eF g c u) (aA:∀dK,Ext g dK→bR Tryz.prog 44 [.agg u] dK fun x aa=>x=.bool r∧Ext dK aa):bR Tryz.prog 63 [.agg u] g fun x aa=>x=.bool (!r)∧Ext g aa:=by
 refine RD rfl (b9 ?_)
 unfold II
 obtain ⟨bl,bs,aY,rfl,_⟩:=H.open
 simp +contextual only [↓ai,aq,simprocAttr]
 have b5:=(Ext.refl g).new (.ar [.int .i64 c.k,.int .i64 c.x,.int .i64 c.n,.str c.s,bl,bs,aY] 0 false)
 refine bm (aA _ b5) ?_
 rintro x ab ⟨rfl,et⟩
 simp +contextual only [↓ai,aq,simprocAttr]
 exact b5.trans et
theorem WE (l:List aw) (v:V) (h:ag) (H:ic h l v) (aB:l.length≤4611686018427387904)
 (aA:∀(i:Nat) (c:aw) (g:ag) (u:List V),l[i]? =some c→Ext h g→eF g c u→bR Tryz.prog 44 [.agg u] g fun x aa=>x=.bool (may cx c)∧Ext g aa):
 bR Tryz.prog 127 [v,.func 63 []] h fun x aa=>(∃i:Int,x=.int .i64 i∧decide (0≤i)=!h' cx l)∧Ext h aa:=by
 refine Q8 rfl (b9 ?_)
 unfold HU
 simp +contextual only [H.len,↓ai,aq,simprocAttr]
 refine gz (fun r aa=>Ext h aa∧r 0=v∧r 1=.func 63 []∧r 7=.int .i64 l.length∧∃i:Nat,r 8=.int .i64 i∧i≤l.length∧h' cx l=h' cx (l.drop i)) (fun r aa=>l.length - (r 8).hf) ?_ ?_
 · exact ⟨Ext.refl h,by simp only [↓ai,a2,simprocAttr],by simp only [↓ai,a2,simprocAttr],by simp only [↓ai,a2,simprocAttr],0,by simp only [↓ai,a2,simprocAttr]<;>rfl,by omega,rfl⟩
 · rintro r aa ⟨an,cj,bf,fU,i,iS,ax,b7⟩
   unfold HV
   by_cases aS:i<l.length
   · have bP:((i:Int) < (l.length:Int))=True:=eq_true (by omega)
     obtain ⟨b,o,u,cl,hu,c7,_⟩:=(H.ext an).at (k:=.i64) aS
     rw [List.drop_eq_getElem_cons aS,h'] at b7
     have w:=hg aS aB
     simp +contextual only [cj,bf,fU,iS,bP,cl,c7,↓ai,aq,simprocAttr]
     refine bm (ZM hu fun dK a1=>aA i l[i] dK u (List.getElem?_eq_getElem aS) (an.trans a1) (hu.ext a1)) ?_
     rintro x ab ⟨rfl,et⟩
     cases bH:may cx l[i] with
     | true=>
       simp +contextual only [cj,bf,fU,iS,w,↓ai,aq,simprocAttr]
       exact ⟨⟨an.trans et,⟨i+1,rfl,aS,by rw [b7,bH,Bool.true_and]⟩⟩,by omega⟩
     | false=>
       simp +contextual only [cj,bf,fU,iS,w,↓ai,aq,simprocAttr]
       refine ⟨⟨i,rfl,?_⟩,an.trans et⟩
       rw [b7,bH]
       simp
   · have bP:((i:Int) < (l.length:Int))=False:=eq_false (by omega)
     rw [List.drop_eq_nil_of_le (by omega)] at b7
     simp +contextual only [cj,bf,fU,iS,bP,↓ai,aq,simprocAttr]
     exact ⟨⟨-1,rfl,by rw [b7];rfl⟩,an⟩
theorem SM (l:List aw) (v:V) (h:ag) (H:ic h l v) (aB:l.length≤4611686018427387904)
 (aA:∀(i:Nat) (c:aw) (g:ag) (u:List V),l[i]? =some c→Ext h g→eF g c u→bR Tryz.prog 44 [.agg u] g fun x aa=>x=.bool (may cx c)∧Ext g aa):
 bR Tryz.prog 62 [v,.func 63 []] h fun x aa=>x=.bool (!h' cx l)∧Ext h aa:=by
 refine RC rfl (b9 ?_)
 unfold IH
 simp +contextual only [↓ai,aq,simprocAttr]
 refine bm (WE l v h H aB aA) ?_
 rintro x ab ⟨⟨i,rfl,ax⟩,et⟩
 simp +contextual only [ax,↓ai,aq,simprocAttr]
 exact et
mutual
def fit (m:Nat):aw→Prop
 | .mk k x n s a t l=>s.length≤m∧a.length≤m∧t.length≤m∧l.length≤m∧(∀q ∈ a,q.s.length≤m)∧fits m l
def fits (m:Nat):List aw→Prop
 | []=>True
 | c::cs=>fit m c∧fits m cs
end
theorem oF {m:Nat}:∀{l:List aw} {i:Nat} {c:aw},fits m l→l[i]? =some c→fit m c
 | [],_,_,_,h=>by simp at h
 | d::l,0,c,au,h=>by simp only [List.getElem?_cons_zero,Option.some.injEq] at h;subst h;exact au.1
 | d::l,i+1,c,au,h=>oF au.2 (by simpa using h)
theorem fit.kids {m:Nat} {c:aw} (h:fit m c):c.s.length≤m∧c.a.length≤m∧c.t.length≤m∧c.l.length≤m∧fits m c.l:=by
 cases c
 exact ⟨h.1,h.2.1,h.2.2.1,h.2.2.2.1,h.2.2.2.2.2⟩
mutual
theorem JU {m k:Nat} (hm:m≤k):∀c:aw,fit m c→zE k c
 | .mk _ _ _ _ _ _ l,h=>⟨Nat.le_trans h.2.2.2.1 hm,JV hm l h.2.2.2.2.2⟩
theorem JV {m k:Nat} (hm:m≤k):∀l:List aw,fits m l→u3 k l
 | [],_=>trivial
 | c::cs,h=>⟨JU hm c h.1,JV hm cs h.2⟩
end
theorem rl {l:List aw} {i:Nat} {c:aw} (h:l[i]? =some c):size c≤ju l:=v8 (List.mem_of_getElem? h)
theorem sw (c:aw):size c=1+ju c.l:=by cases c;rfl
theorem aaz {c:aw} (cn:c.k=7) (h:cx true c=true):c.l.length=1:=by
 have:d' true c=true:=by rw [←MJ,h,decide_eq_true cn];rfl
 simp only [d',if_true,lU,Bool.and_eq_true] at this
 exact of_decide_eq_true this.2
theorem Zp (c:aw) (h:0<c.l.length):ir cx c=may cx c.l[0]:=by
 obtain ⟨k,x,n,s,a,t,l⟩:=c
 cases l with
 | nil=>simp [aw.l] at h
 | cons d l=>simp only [ir,mX,aw.l,List.getElem_cons_zero]
theorem Zv {own:Bool→aw→Bool} {c:aw} (h:c.k≠8):may own c=(own false c&&h' own c.l):=by
 obtain ⟨k,x,n,s,a,t,l⟩:=c
 simp only [aw.k] at h
 rw [may,if_neg h]
 rfl
theorem Zu {own:Bool→aw→Bool} {c:aw} (h:c.k=8):may own c=(sU c&&decide (2≤c.l.length)&&fy own c.l):=by
 obtain ⟨k,x,n,s,a,t,l⟩:=c
 simp only [aw.k] at h
 rw [may,if_pos h]
 rfl
theorem Zs {own:Bool→aw→Bool} {l:List aw} {i:Nat} (h:i+1<l.length):fy own (l.drop i)=((decide (l[i].k=7)&&own true l[i])&&ir own l[i]&&fy own (l.drop (i+1))):=by
 rw [List.drop_eq_getElem_cons (by omega),List.drop_eq_getElem_cons h]
 rw [fy]
theorem Zt {own:Bool→aw→Bool} {l:List aw} {i:Nat} (h:i+1=l.length):fy own (l.drop i)=may own (l[i]'(by omega)):=by
 rw [List.drop_eq_getElem_cons (by omega),List.drop_eq_nil_of_le (by omega)]
 rw [fy]
set_option maxHeartbeats 2000000 in
theorem E2:∀(N:Nat) (c:aw),size c≤N→fit 1048576 c→∀(ad:List V) (h:ag),eF h c ad→bR Tryz.prog 44 [.agg ad] h fun x aa=>x=.bool (may cx c)∧Ext h aa
 | 0,c,bk,_,_,_,_=>by have:=size_pos c;omega
 | N+1,c,bk,au,ad,h,H=>by
   obtain ⟨f1,f2,f3,f4,f5⟩:=au.kids
   have oW:=sw c
   have en:∀(i:Nat) (d:aw) (g:ag) (u:List V),c.l[i]? =some d→Ext h g→eF g d u→bR Tryz.prog 44 [.agg u] g fun x aa=>x=.bool (may cx d)∧Ext g aa:=
    fun i d g u ax a1 hu=>E2 N d (by have:=rl ax;omega) (oF f5 ax) u g hu
   obtain ⟨bl,bs,aY,rfl,cX,ea,cQ⟩:=H.open
   refine Rt rfl (b9 ?_)
   unfold Iu
   have b5:Ext h (h.new (.ar [.int .i64 c.k,.int .i64 c.x,.int .i64 c.n,.str c.s,bl,bs,aY] 0 false)):=(Ext.refl h).new _
   by_cases al:c.k=8
   · have eK:=eq_true al
     have pB:=(cX.ext b5).len
     have eg:=(ea.ext b5).len
     have c2:=(cQ.ext b5).len
     have eY:=Zu (own:=cx) al
     by_cases vl:c.l.length=0
     · have au:may cx c=false:=by rw [eY,vl];simp
       have aJ:IntKind.i64.wrap (((0:Nat):Int)-1)=-1:=by rw [wrap_i64 (by omega) (by omega)];rfl
       have t0:((-1:Int)<1)=True:=eq_true (by decide)
       rw [vl] at c2
       simp +contextual only [eK,pB,eg,c2,aJ,t0,au,Bool.or_true,↓ai,a2,cr.ends,dS,oneOf,top,↓reduceIte,Nat.reduceEqDiff,Nat.reduceLeDiff,Nat.reduceAdd,Nat.reduceSub,Nat.reduceMul,reduceCtorEq,Int.reduceEq,Int.reduceLT,Int.reduceLE,Int.reduceNeg]
       exact b5
     have aJ:IntKind.i64.wrap ((c.l.length:Int)-1)=((c.l.length-1:Nat):Int):=by rw [wrap_i64 (by omega) (by omega)];omega
     cases qM:(!decide (c.x=0)||!decide (c.n=0)||!decide (c.s=[])||decide (0 < (c.t.length:Int))||decide (0 < (c.a.length:Int))||decide (((c.l.length-1:Nat):Int)<1)) with
     | true=>
       have au:may cx c=false:=by
        rw [eY]
        have aL:(c.t=[])↔c.t.length=0:=by rw [List.length_eq_zero_iff]
        have bo:(c.a=[])↔c.a.length=0:=by rw [List.length_eq_zero_iff]
        simp only [sU]
        grind
       simp +contextual only [eK,pB,eg,c2,aJ,qM,au,↓ai,a2,cr.ends,dS,oneOf,top,↓reduceIte,Nat.reduceEqDiff,Nat.reduceLeDiff,Nat.reduceAdd,Nat.reduceSub,Nat.reduceMul,reduceCtorEq,Int.reduceEq,Int.reduceLT,Int.reduceLE,Int.reduceNeg]
       exact b5
     | false=>
       have mL:may cx c=fy cx c.l:=by
        rw [eY]
        have aL:(c.t=[])↔c.t.length=0:=by rw [List.length_eq_zero_iff]
        have bo:(c.a=[])↔c.a.length=0:=by rw [List.length_eq_zero_iff]
        simp only [sU]
        grind
       have hlen:2≤c.l.length:=by
        have:¬(((c.l.length-1:Nat):Int)<1):=by
         intro q
         rw [decide_eq_true q,Bool.or_true] at qM
         cases qM
        omega
       obtain ⟨dE,C6,w2⟩:=(cQ.ext b5).cut (k:=.i64) (m:=c.l.length-1) (by omega)
       have xg:=w2.len
       rw [List.length_take,Nat.min_eq_left (Nat.sub_le _ _)] at xg
       simp +contextual only [eK,pB,eg,c2,aJ,qM,C6,xg,↓ai,a2,cr.ends,dS,oneOf,top,↓reduceIte,Nat.reduceEqDiff,Nat.reduceLeDiff,Nat.reduceAdd,Nat.reduceSub,Nat.reduceMul,reduceCtorEq,Int.reduceEq,Int.reduceLT,Int.reduceLE,Int.reduceNeg]
       refine gz (fun r aa=>Ext h aa∧aa.get (ak h.next)=.ar [.int .i64 c.k,.int .i64 c.x,.int .i64 c.n,.str c.s,bl,bs,aY] 0 false∧h.next<aa.next∧r 1=.ptr (ak h.next) 0∧r 3=.int .i64 ((c.l.length-1:Nat):Int)∧r 52=dE∧r 53=.int .i64 ((c.l.length-1:Nat):Int)∧
        ∃i:Nat,r 54=.int .i64 i∧i≤c.l.length-1∧fy cx c.l=fy cx (c.l.drop i)) (fun r aa=>c.l.length - (r 54).hf) ?_ ?_
       · exact ⟨b5,by simp only [↓ai,a2,↓reduceIte,Nat.reduceEqDiff,reduceCtorEq],by rw [cH];omega,by simp only [↓ai,a2,↓reduceIte,Nat.reduceEqDiff,reduceCtorEq],by simp only [↓ai,a2,↓reduceIte,Nat.reduceEqDiff,reduceCtorEq],by simp only [↓ai,a2,↓reduceIte,Nat.reduceEqDiff,reduceCtorEq],by simp only [↓ai,a2,↓reduceIte,Nat.reduceEqDiff,reduceCtorEq],0,by simp only [↓ai,a2,↓reduceIte,Nat.reduceEqDiff,reduceCtorEq]<;>rfl,by omega,rfl⟩
       · rintro r aa ⟨an,ah,aX,bf,ch,m1,A8,i,A9,ax,b7⟩
         unfold Iv
         by_cases aS:i<c.l.length-1
         · have bP:((i:Int) < ((c.l.length-1:Nat):Int))=True:=eq_true (by omega)
           have th:i<c.l.length:=by omega
           have vn:i < (c.l.take (c.l.length-1)).length:=by rw [List.length_take];omega
           have S':Ext (h.new (.ar [.int .i64 c.k,.int .i64 c.x,.int .i64 c.n,.str c.s,bl,bs,aY] 0 false)) aa:=⟨by rw [cH];omega,fun b eI=>by
            by_cases q:b=ak h.next
            · subst q;rw [ah,gT]
            · have bt:Old h b:=by
               unfold Old at eI ⊢
               rw [cH] at eI
               have:cd b≠h.next:=fun e=>q (by rw [←e,aaF])
               omega
              rw [an.get _ bt,dT,if_neg (fun e=>q e.symm)]⟩
           obtain ⟨b,o,u,cl,hu,c7,_⟩:=(w2.ext S').at (k:=.i64) vn
           rw [List.getElem_take] at hu
           rw [Zs (by omega)] at b7
           generalize vh:c.l[i]=f at *
           have g9:c.l[i]? =some f:=by rw [List.getElem?_eq_getElem th,vh]
           obtain ⟨cf,ef,cu,rfl,oa,ob,nd⟩:=hu.open
           have w:=hg th (by omega)
           have Tj:=oF f5 g9
           obtain ⟨aej,aek,ael,aem,Tk⟩:=Tj.kids
           have ff:=oa.one.1
           have fT:=ob.one.1
           have gA:=nd.one.1
           have xW:(aa.next=h.next)=False:=eq_false (by omega)
           have xX:(h.next=aa.next)=False:=eq_false (by omega)
           by_cases cn:f.k=7
           · have Dw:=eq_true cn
             simp +contextual only [bf,ch,m1,A8,A9,bP,cl,c7,Dw,ff,fT,gA,Bool.and_self,↓ai,a2,cr.ends,dS,oneOf,top,↓reduceIte,Nat.reduceEqDiff,Nat.reduceLeDiff,Nat.reduceAdd,Nat.reduceSub,Nat.reduceMul,reduceCtorEq,Int.reduceEq,Int.reduceLT,Int.reduceLE,Int.reduceNeg]
             have et:Ext aa ((aa.new (.ar [.int .i64 0,.int .i64 0,.int .i64 0,.str [],.aF,.aF,.aF] 0 false)).set (ak aa.next) (.ar [.int .i64 f.k,.int .i64 f.x,.int .i64 f.n,.str f.s,cf,ef,cu] 0 false)):=((Ext.refl aa).new _).set (Nat.le_refl _) _
             have kP:((aa.new (.ar [.int .i64 0,.int .i64 0,.int .i64 0,.str [],.aF,.aF,.aF] 0 false)).set (ak aa.next) (.ar [.int .i64 f.k,.int .i64 f.x,.int .i64 f.n,.str f.s,cf,ef,cu] 0 false)).get (ak aa.next)=.ar [.int .i64 f.k,.int .i64 f.x,.int .i64 f.n,.str f.s,cf,ef,cu] 0 false:=by rw [cM,if_pos rfl]
             have oG:((aa.new (.ar [.int .i64 0,.int .i64 0,.int .i64 0,.str [],.aF,.aF,.aF] 0 false)).set (ak aa.next) (.ar [.int .i64 f.k,.int .i64 f.x,.int .i64 f.n,.str f.s,cf,ef,cu] 0 false)).next=aa.next+1:=by rw [fA,cH]
             generalize ((aa.new (.ar [.int .i64 0,.int .i64 0,.int .i64 0,.str [],.aF,.aF,.aF] 0 false)).set (ak aa.next) (.ar [.int .i64 f.k,.int .i64 f.x,.int .i64 f.n,.str f.s,cf,ef,cu] 0 false))=rD at *
             refine bm (MI true f _ rD (hu.ext et) (by omega) (by omega) (by omega)) ?_
             rintro x bz ⟨rfl,lv⟩
             have Ah:=et.trans lv
             have qJ:bz.get (ak aa.next)=.ar [.int .i64 f.k,.int .i64 f.x,.int .i64 f.n,.str f.s,cf,ef,cu] 0 false:=by rw [lv.get _ (dC (by omega))];exact kP
             have km:bz.get (ak h.next)=.ar [.int .i64 c.k,.int .i64 c.x,.int .i64 c.n,.str c.s,bl,bs,aY] 0 false:=by rw [Ah.get _ (dC (by omega))];exact ah
             cases bt:cx true f with
             | false=>
               have ta:may cx c=false:=by rw [mL,b7,bt,Bool.and_false,Bool.false_and,Bool.false_and]
               simp +contextual only [qJ,ta,xW,xX,↓ai,a2,cr.ends,dS,oneOf,top,↓reduceIte,Nat.reduceEqDiff,Nat.reduceLeDiff,Nat.reduceAdd,Nat.reduceSub,Nat.reduceMul,reduceCtorEq,Int.reduceEq,Int.reduceLT,Int.reduceLE,Int.reduceNeg]
               exact an.trans Ah
             | true=>
               have gx:=aaz cn bt
               obtain ⟨bN,dI,yz,oY,fI,xQ,_⟩:=(nd.ext Ah).at (k:=.i64) (i:=0) (by omega)
               have KJ:f.l[0]? =some f.l[0]:=List.getElem?_eq_getElem (by omega)
               have c_:gy 7 cu (.int .i64 0)=some (.ptr bN dI):=by simpa using oY
               have dg:mR 7 (bz.get bN) dI=some (.agg yz):=by simpa using xQ
               simp +contextual only [qJ,xW,xX,c_,dg,↓ai,a2,cr.ends,dS,oneOf,top,↓reduceIte,Nat.reduceEqDiff,Nat.reduceLeDiff,Nat.reduceAdd,Nat.reduceSub,Nat.reduceMul,reduceCtorEq,Int.reduceEq,Int.reduceLT,Int.reduceLE,Int.reduceNeg]
               refine bm (E2 N f.l[0] (by have:=rl g9;have:=rl KJ;have:=sw f;omega) (oF Tk KJ) yz bz fI) ?_
               rintro x b6 ⟨rfl,qZ⟩
               have Ai:=Ah.trans qZ
               rw [Zp f (by omega)] at b7
               cases hm:may cx f.l[0] with
               | false=>
                 have ta:may cx c=false:=by rw [mL,b7,hm,Bool.and_false,Bool.false_and]
                 simp +contextual only [ta,↓ai,a2,cr.ends,dS,oneOf,top,↓reduceIte,Nat.reduceEqDiff,Nat.reduceLeDiff,Nat.reduceAdd,Nat.reduceSub,Nat.reduceMul,reduceCtorEq,Int.reduceEq,Int.reduceLT,Int.reduceLE,Int.reduceNeg]
                 exact an.trans Ai
               | true=>
                 simp +contextual only [bf,ch,m1,A8,A9,w,↓ai,a2,cr.ends,dS,oneOf,top,↓reduceIte,Nat.reduceEqDiff,Nat.reduceLeDiff,Nat.reduceAdd,Nat.reduceSub,Nat.reduceMul,reduceCtorEq,Int.reduceEq,Int.reduceLT,Int.reduceLE,Int.reduceNeg]
                 exact ⟨⟨an.trans Ai,by rw [Ai.get _ (dC (by omega))];exact ah,by have:=Ai.next;omega,⟨i+1,rfl,by omega,by rw [b7,decide_eq_true cn,bt,hm];rfl⟩⟩,by omega⟩
           · have Dw:=eq_false cn
             have ta:may cx c=false:=by rw [mL,b7,decide_eq_false cn];rfl
             simp +contextual only [bf,ch,m1,A8,A9,bP,cl,c7,Dw,ta,ff,fT,gA,Bool.and_self,↓ai,a2,cr.ends,dS,oneOf,top,↓reduceIte,Nat.reduceEqDiff,Nat.reduceLeDiff,Nat.reduceAdd,Nat.reduceSub,Nat.reduceMul,reduceCtorEq,Int.reduceEq,Int.reduceLT,Int.reduceLE,Int.reduceNeg]
             exact (an.new _).set (i:=aa.next) (by have:=an.next;omega) _
         · have bP:((i:Int) < ((c.l.length-1:Nat):Int))=False:=eq_false (by omega)
           obtain rfl:i=c.l.length-1:=by omega
           obtain ⟨b,o,u,cl,hu,c7,_⟩:=(cQ.ext an).at (k:=.i64) (i:=c.l.length-1) (by omega)
           simp +contextual only [bf,ch,m1,A8,A9,bP,ah,cl,c7,↓ai,a2,cr.ends,dS,oneOf,top,↓reduceIte,Nat.reduceEqDiff,Nat.reduceLeDiff,Nat.reduceAdd,Nat.reduceSub,Nat.reduceMul,reduceCtorEq,Int.reduceEq,Int.reduceLT,Int.reduceLE,Int.reduceNeg]
           refine bm (en (c.l.length-1) _ aa u (List.getElem?_eq_getElem (by omega)) an hu) ?_
           rintro x bz ⟨rfl,lv⟩
           have ta:may cx c=may cx (c.l[c.l.length-1]'(by omega)):=by rw [mL,b7,Zt (by omega)]
           simp +contextual only [ta,↓ai,a2,cr.ends,dS,oneOf,top,↓reduceIte,Nat.reduceEqDiff,Nat.reduceLeDiff,Nat.reduceAdd,Nat.reduceSub,Nat.reduceMul,reduceCtorEq,Int.reduceEq,Int.reduceLT,Int.reduceLE,Int.reduceNeg]
           exact an.trans lv
   · have eK:=eq_false al
     simp +contextual only [eK,↓ai,a2,cr.ends,dS,oneOf,top,↓reduceIte,Nat.reduceEqDiff,Nat.reduceLeDiff,Nat.reduceAdd,Nat.reduceSub,Nat.reduceMul,reduceCtorEq,Int.reduceEq,Int.reduceLT,Int.reduceLE,Int.reduceNeg]
     refine bm (MI false c _ _ (H.ext b5) (by omega) (by omega) (by omega)) ?_
     rintro x bF ⟨rfl,et⟩
     have an:=b5.trans et
     have ah:bF.get (ak h.next)=.ar [.int .i64 c.k,.int .i64 c.x,.int .i64 c.n,.str c.s,bl,bs,aY] 0 false:=by rw [et.get _ (dC (by rw [cH];omega)),gT]
     rw [Zv al]
     cases bt:cx false c with
     | false=>
       simp +contextual only [Bool.false_and,↓ai,a2,cr.ends,dS,oneOf,top,↓reduceIte,Nat.reduceEqDiff,Nat.reduceLeDiff,Nat.reduceAdd,Nat.reduceSub,Nat.reduceMul,reduceCtorEq,Int.reduceEq,Int.reduceLT,Int.reduceLE,Int.reduceNeg]
       exact an
     | true=>
       simp +contextual only [ah,↓ai,a2,cr.ends,dS,oneOf,top,↓reduceIte,Nat.reduceEqDiff,Nat.reduceLeDiff,Nat.reduceAdd,Nat.reduceSub,Nat.reduceMul,reduceCtorEq,Int.reduceEq,Int.reduceLT,Int.reduceLE,Int.reduceNeg]
       refine bm (SM c.l aY bF (cQ.ext an) (by omega) fun i d g u ax a1 hu=>en i d g u ax (an.trans a1) hu) ?_
       rintro x bz ⟨rfl,lv⟩
       simp +contextual only [Bool.not_not,Bool.true_and,↓ai,a2,cr.ends,dS,oneOf,top,↓reduceIte,Nat.reduceEqDiff,Nat.reduceLeDiff,Nat.reduceAdd,Nat.reduceSub,Nat.reduceMul,reduceCtorEq,Int.reduceEq,Int.reduceLT,Int.reduceLE,Int.reduceNeg]
       exact an.trans lv
end Go.Proofs.YtjbiefneffiogaaGreat
namespace Go.Proofs.YtjbiefneffiogaaGreat
theorem BC {b:List Int} {a:List At}:jw b a=[]↔∀q ∈ a,q.k=1→q.n ∈ b:=by
 unfold jw
 rw [List.map_eq_nil_iff,List.filter_eq_nil_iff]
 constructor
 · intro h q aM al
   have:=h q aM
   simp only [al,decide_true,Bool.true_and,Bool.not_eq_true',Bool.not_eq_false] at this
   simpa using this
 · intro h q aM
   by_cases al:q.k=1
   · have:=h q aM al
     simp [al,this]
   · simp [al]
mutual
theorem s5:∀(c:aw) {b bN:List Int},(∀z ∈ b,z ∈ bN)→free c b=[]→free c bN=[]
 | .mk k x n s a t l,b,bN,ah,h=>by
   simp only [free,List.append_eq_nil_iff] at h ⊢
   refine ⟨BC.2 fun q aM al=>ah _ (BC.1 h.1 q aM al),Ka l (fun z aV=>?_) h.2⟩
   rcases List.mem_append.1 aV with r | r
   · exact List.mem_append.2 (.inl (ah z r))
   · exact List.mem_append.2 (.inr r)
theorem Ka:∀(l:List aw) {late:Bool} {x:Int} {b bN:List Int} {i:Nat},(∀z ∈ b,z ∈ bN)→hB late x l b i=[]→hB late x l bN i=[]
 | [],_,_,_,_,_,_,_=>rfl
 | c::cs,late,x,b,bN,i,ah,h=>by
   simp only [hB,List.append_eq_nil_iff] at h ⊢
   refine ⟨s5 c (fun z aV=>?_) h.1,Ka cs ah h.2⟩
   split at aV
   · rename_i q
     rw [if_pos q]
     rcases List.mem_append.1 aV with r | r
     · exact List.mem_append.2 (.inl (ah z r))
     · exact List.mem_append.2 (.inr r)
   · rename_i q
     rw [if_neg q]
     exact ah z aV
end
theorem Dk:∀{l:List aw} {x:Int} {b:List Int} {i:Nat},hB false x l b i=[]→∀c ∈ l,free c b=[]
 | [],_,_,_,_,c,aA=>by cases aA
 | d::l,x,b,i,h,c,aA=>by
   simp only [hB,Bool.false_and,Bool.false_eq_true,if_false,List.append_eq_nil_iff] at h
   rcases List.mem_cons.1 aA with rfl | aA
   · exact h.1
   · exact Dk h.2 c aA
theorem L1 {own:Bool→aw→Bool}:∀{l:List aw},h' own l=true→∀c ∈ l,may own c=true
 | [],_,c,aA=>by cases aA
 | d::l,h,c,aA=>by
   simp only [h',Bool.and_eq_true] at h
   rcases List.mem_cons.1 aA with rfl | aA
   · exact h.1
   · exact L1 h.2 c aA
theorem AF {own:Bool→aw→Bool}:∀{l:List aw},fy own l=true→(∀f ∈ l.dropLast,f.k=7∧own true f=true∧ir own f=true)∧∀c ∈ l.getLast?,may own c=true
 | [],_=>⟨fun f au=>(by cases au),fun c aA=>(by cases aA)⟩
 | [c],h=>by
   simp only [fy] at h
   exact ⟨fun f au=>(by cases au),fun d bE=>(by simp at bE;subst bE;exact h)⟩
 | c::d::l,h=>by
   have aa:((decide (c.k=7)&&own true c)&&ir own c&&fy own (d::l))=true:=by simpa only [fy] using h
   simp only [Bool.and_eq_true,decide_eq_true_eq] at aa
   obtain ⟨i1,i2⟩:=AF (l:=d::l) aa.2
   refine ⟨fun f au=>?_,fun e he=>i2 e (by simpa using he)⟩
   rw [List.dropLast_cons_cons] at au
   rcases List.mem_cons.1 au with rfl | au
   · exact ⟨aa.1.1.1,aa.1.1.2,aa.1.2⟩
   · exact i1 f au
theorem zK {m:Nat}:∀{l:List aw},fits m l→∀c ∈ l,fit m c
 | [],_,c,aA=>by cases aA
 | d::l,h,c,aA=>by
   rcases List.mem_cons.1 aA with rfl | aA
   · exact h.1
   · exact zK h.2 c aA
theorem aaD {c:aw} (h:d' false c=true):(c.k=1∨c.k=2∨c.k=3∨c.k=4∨c.k=5∨c.k=6∨c.k=7∨c.k=9∨c.k=10∨c.k=11∨c.k=12)∧(c.a.all e5=true)∧
 (c.k=1∨c.k=5∨c.k=9∨c.k=10∨c.k=12→(c.a.length:Int)=1)∧(c.k=6→(c.a.length:Int)=2)∧(c.k=2∨c.k=11→c.l.length=2)∧(c.k=3→(c.a.length:Int)=ib c.s∧0<ib c.s)∧
 (c.k=5→0≤c.n∧c.n≤1048575)∧(c.k=7→c.l.length=1)∧(c.k=9∨c.k=10→diff c.t=true):=by
 obtain ⟨k,x,n,s,a,t,l⟩:=c
 simp only [d',Bool.false_eq_true,if_false,sR,lU,aw.k,aw.x,aw.n,aw.s,aw.a,aw.t,aw.l,hasB,ot,u5,p_] at h ⊢
 by_cases ab:k=1
 · subst ab;simp at h ⊢;grind
 by_cases af:k=2
 · subst af;simp at h ⊢;grind
 by_cases aK:k=3
 · subst aK;simp at h ⊢;grind
 by_cases bM:k=4
 · subst bM;simp at h ⊢;grind
 by_cases e8:k=5
 · subst e8;simp at h ⊢;grind
 by_cases fZ:k=6
 · subst fZ;simp at h ⊢;grind
 by_cases cn:k=7
 · subst cn;simp at h ⊢;grind
 by_cases nA:k=9
 · subst nA;simp at h ⊢;grind
 by_cases oH:k=10
 · subst oH;simp at h ⊢;grind
 by_cases nz:k=11
 · subst nz;simp at h ⊢;grind
 by_cases s7:k=12
 · subst s7;simp at h ⊢;grind
 simp [ab,af,aK,bM,e8,fZ,cn,nA,oH,nz,s7] at h
structure gv (b:List Int) (c:aw):Prop where
 EY:may (fun b c=>d' b c) c=true
 Th:free c b=[]
 acG:fit 1048576 c
theorem gv.mono {b bN:List Int} {c:aw} (H:gv b c) (h:∀z ∈ b,z ∈ bN):gv bN c:=⟨H.EY,s5 c h H.Th,H.acG⟩
theorem Fp {c:aw} (h:d' true c=true):c.k=7∧c.l.length=1:=by
 simp only [d',if_true,lU,Bool.and_eq_true] at h
 exact ⟨of_decide_eq_true h.1.1.1.1.1,of_decide_eq_true h.2⟩
theorem gv.shape {b:List Int} {c:aw} (H:gv b c):Shape c∧(1≤c.k∧c.k≤12)∧∀a ∈ c.a,a.k=1→a.n ∈ b:=by
 obtain ⟨ab,af,aK⟩:=H
 obtain ⟨f1,f2,f3,f4,f5⟩:=aK.kids
 obtain ⟨k,x,n,s,a,t,l⟩:=c
 simp only [free,List.append_eq_nil_iff] at af
 simp only [may] at ab
 by_cases al:k=8
 · subst al
   rw [if_pos rfl] at ab
   simp only [Bool.and_eq_true,sU,decide_eq_true_eq,aw.a,aw.t,aw.x,aw.n,aw.s] at ab
   obtain ⟨⟨⟨_,bH⟩,aB⟩,aT⟩:=ab
   obtain ⟨bf,bV⟩:=AF aT
   refine ⟨⟨f2,f3,f4,fun q aM=>?_,by simp [aw.k],by simp [aw.k],by simp [aw.k],by simp [aw.k],by simp [aw.k],by simp [aw.k],fun _=>⟨aB,fun f au=>(Fp (bf f au).2.1).2⟩,by simp [aw.k],by simp [aw.k]⟩,by simp [aw.k],BC.1 af.1⟩
   have Dz:a=[]:=of_decide_eq_true bH
   simp only [aw.a,Dz] at aM
   cases aM
 · rw [if_neg al] at ab
   simp only [Bool.and_eq_true] at ab
   obtain ⟨ff,fT,gA,sj,vP,xZ,x0,ZS,ZT⟩:=aaD ab.1
   exact ⟨⟨f2,f3,f4,fun q aM=>List.all_eq_true.1 fT q aM,fun e=>by have:=gA e;omega,fun e=>by have:=sj e;omega,vP,xZ,x0,ZS,fun e=>absurd e al,ZT,by omega⟩,by omega,BC.1 af.1⟩
theorem gv.kids {b:List Int} {c:aw} (H:gv b c):(c.k=2∨c.k=11→∀p q,c.l=[p,q]→gv b p∧gv (c.x::b) q)∧(c.k=7→∀p,c.l=[p]→gv (c.x::b) p)∧
 (c.k=9∨c.k=10→∀p ∈ c.l,gv b p)∧(c.k=8→(∀f ∈ c.l.dropLast,gv (f.x::(c.l.dropLast.map aw.n++b)) (f.l.headD f))∧∀p ∈ c.l.getLast?,gv (c.l.dropLast.map aw.n++b) p):=by
 obtain ⟨ab,af,aK⟩:=H
 have f5:=aK.kids.2.2.2.2
 obtain ⟨k,x,n,s,a,t,l⟩:=c
 simp only [free,List.append_eq_nil_iff] at af
 simp only [may] at ab
 simp only [aw.k,aw.l,aw.x] at f5 ⊢
 by_cases al:k=8
 · subst al
   rw [if_pos rfl] at ab
   simp only [Bool.and_eq_true] at ab
   obtain ⟨bf,bV⟩:=AF ab.2
   have mJ:∀c ∈ l,free c (b++l.dropLast.map aw.n)=[]:=by
    have:=af.2
    simp only [dL,ownNames] at this
    exact Dk (by simpa using this)
   refine ⟨by simp,by simp,by simp,fun _=>⟨fun f au=>?_,fun p aH=>?_⟩⟩
   · obtain ⟨aG,az,aW⟩:=bf f au
     have im:=(List.dropLast_sublist l).mem au
     have bF:=mJ f im
     have bz:=(zK f5 f im).kids.2.2.2.2
     have gx:=(Fp az).2
     obtain ⟨mB,aes,fn,bw,cf,ef,Tl⟩:=f
     simp only [aw.k,aw.l,aw.x] at aG gx bz ⊢
     subst aG
     match Tl,gx with
     | [p],_=>
       simp only [ir,mX] at aW
       simp only [free,List.append_eq_nil_iff,hB,dL,ownNames] at bF
       refine ⟨aW,s5 p (fun z aV=>?_) bF.2.1,bz.1⟩
       simp at aV ⊢
       grind
   · have mN:p ∈ l:=List.mem_of_getLast? aH
     refine ⟨bV p aH,s5 p (fun z aV=>?_) (mJ p mN),zK f5 p mN⟩
     simp at aV ⊢
     grind
 · rw [if_neg al] at ab
   simp only [Bool.and_eq_true] at ab
   refine ⟨fun e p q aB=>?_,fun e p aB=>?_,fun e p aH=>?_,fun e=>absurd e al⟩
   · subst aB
     have jh:dL k=true:=by simp only [dL];rcases e with rfl | rfl<;>rfl
     have f_:ownNames k x [p,q]=[]:=by simp only [ownNames];rcases e with rfl | rfl<;>rfl
     have:=af.2
     rw [jh,f_] at this
     simp only [hB,List.append_eq_nil_iff] at this
     have hm:=ab.2
     simp only [h',Bool.and_eq_true] at hm
     refine ⟨⟨hm.1,s5 p (fun z aV=>?_) this.1,f5.1⟩,⟨hm.2.1,s5 q (fun z aV=>?_) this.2.1,f5.2.1⟩⟩
     · simpa using aV
     · simp at aV ⊢;grind
   · subst aB
     subst e
     have:=af.2
     simp only [hB,List.append_eq_nil_iff,dL,ownNames] at this
     have hm:=ab.2
     simp only [h',Bool.and_eq_true] at hm
     refine ⟨hm.1,s5 p (fun z aV=>?_) this.1,f5.1⟩
     simp at aV ⊢;grind
   · have jh:dL k=false:=by simp only [dL];rcases e with rfl | rfl<;>rfl
     have f_:ownNames k x l=[]:=by simp only [ownNames];rcases e with rfl | rfl<;>rfl
     have:=af.2
     rw [jh,f_,List.append_nil] at this
     exact ⟨L1 ab.2 p aH,Dk this p aH,zK f5 p aH⟩
def keys (e:gP):List Int:=e.map Prod.fst
structure cG (S:av) (n:Nat) (bc:List UInt8):Prop where
 c:gv (keys S.e) S.c
 w:∀a ∈ S.w,gv (a.x::keys a.e) a.c
 fns:∀v ∈ S.st,∀x c e,v=.fn x c e→gv (x::keys e) c
 ints:∀v ∈ S.st,∀n,v=.int n→-1073741824≤n∧n≤1073741823
 texts:∀v ∈ S.st,∀s,v=.text s→s.length≤4096
 wl:S.w.length≤n
 out:S.out.length≤4096 * n
 read:S.read≤bc.length
theorem wo (n:Int):-1073741824≤wr n∧wr n≤1073741823:=by unfold wr;omega
theorem av.Gd {S:av} {j:Nat}:S.val j ∈ S.st∨S.val j=.int 0:=by
 unfold av.val
 by_cases h:j<S.st.length
 · rw [List.getD_eq_getElem?_getD,List.getElem?_eq_getElem h];exact .inl (List.getElem_mem h)
 · rw [List.getD_eq_getElem?_getD,List.getElem?_eq_none (by omega)];exact .inr rfl
section
variable {S:av} {n:Nat} {bc:List UInt8}
theorem cG.BE (H:cG S n bc) {j:Nat} {m:Int} (h:S.val j=.int m):-1073741824≤m∧m≤1073741823:=by
 rcases av.Gd (S:=S) (j:=j) with q | q
 · exact H.ints _ q m h
 · rw [h] at q;cases q;omega
theorem cG.Ge (H:cG S n bc) {j:Nat} {s:List UInt8} (h:S.val j=.text s):s.length≤4096:=by
 rcases av.Gd (S:=S) (j:=j) with q | q
 · exact H.texts _ q s h
 · rw [h] at q;cases q
theorem cG.ac7 (H:cG S n bc) {j:Nat} {x:Int} {c:aw} {e:gP} (h:S.val j=.fn x c e):gv (x::keys e) c:=by
 rcases av.Gd (S:=S) (j:=j) with q | q
 · exact H.fns _ q x c e h
 · rw [h] at q;cases q
theorem cG.ok (H:cG S n bc) (aX:n≤1000000):Ok S:=⟨fun j m h=>H.BE h,fun j s h=>H.Ge h,by have:=H.wl;omega,by have:=H.out;omega⟩
theorem cG.up (H:cG S n bc) {m:Nat} (h:n≤m):cG S m bc:=⟨H.c,H.w,H.fns,H.ints,H.texts,Nat.le_trans H.wl h,by have:=H.out;omega,H.read⟩
def sJ (v:dk):Prop:=(∀x c e,v=.fn x c e→gv (x::keys e) c)∧(∀n,v=.int n→-1073741824≤n∧n≤1073741823)∧∀s,v=.text s→s.length≤4096
theorem mG {m:Int} (h:-1073741824≤m∧m≤1073741823):sJ (.int m):=⟨fun _ _ _ q=>(by cases q),fun _ q=>(by cases q;exact h),fun _ q=>(by cases q)⟩
theorem zT {s:List UInt8} (h:s.length≤4096):sJ (.text s):=⟨fun _ _ _ q=>(by cases q),fun _ q=>(by cases q),fun _ q=>(by cases q;exact h)⟩
theorem ln (t:Int) (bw:List Nat):sJ (.dt t bw):=⟨fun _ _ _ q=>(by cases q),fun _ q=>(by cases q),fun _ q=>(by cases q)⟩
theorem Kj {x:Int} {c:aw} {e:gP} (h:gv (x::keys e) c):sJ (.fn x c e):=⟨fun _ _ _ q=>(by cases q;exact h),fun _ q=>(by cases q),fun _ q=>(by cases q)⟩
theorem cG.fa (H:cG S n bc) {v:dk} (h:sJ v):cG (S.fa v) n bc:=by
 refine ⟨H.c,H.w,fun u hu=>?_,fun u hu=>?_,fun u hu=>?_,H.wl,H.out,H.read⟩<;>simp only [av.fa,List.mem_append,List.mem_singleton] at hu<;>rcases hu with hu | rfl
 · exact H.fns u hu
 · exact h.1
 · exact H.ints u hu
 · exact h.2.1
 · exact H.texts u hu
 · exact h.2.2
theorem cG.ends (H:cG S n bc) (r_:Int):cG (S.ends r_) n bc:=⟨H.c,H.w,H.fns,H.ints,H.texts,H.wl,H.out,H.read⟩
theorem cG.l9 (H:cG S n bc) (j:Nat):cG (S.l9 j) n bc:=by
 have key:∀w:List hN,(∀a ∈ w,a ∈ S.w)→w.length≤S.w.length→cG (S.qa j w) n bc:=by
  intro w
  induction w with
  | nil=>intro _ _;exact ⟨H.c,fun a bH=>(by cases bH),H.fns,H.ints,H.texts,Nat.zero_le _,H.out,H.read⟩
  | cons a w bb=>
    intro hw aB
    simp only [List.length_cons] at aB
    simp only [av.qa]
    split
    · exact bb (fun b ah=>hw b (by simp [ah])) (by omega)
    · exact ⟨H.w a (hw a (by simp)),fun b ah=>H.w b (hw b (by simp [show b ∈ w from ah])),H.fns,H.ints,H.texts,by have:=H.wl;simp only [av.zS];omega,H.out,H.read⟩
 exact key S.w (fun _ h=>h) (Nat.le_refl _)
theorem cG.o8 (H:cG S n bc) (j:Nat):cG (S.o8 j) n bc:=by
 have key:∀w:List hN,(∀a ∈ w,a ∈ S.w)→w.length≤S.w.length→cG (S.k5 j w) n bc:=by
  intro w
  induction w with
  | nil=>
    intro _ _
    simp only [av.k5]
    split<;>exact ⟨H.c,fun a bH=>(by cases bH),H.fns,H.ints,H.texts,Nat.zero_le _,H.out,H.read⟩
  | cons a w bb=>
    intro hw aB
    simp only [List.length_cons] at aB
    simp only [av.k5]
    split
    · exact ⟨H.w a (hw a (by simp)),fun b ah=>H.w b (hw b (by simp [show b ∈ w from ah])),H.fns,H.ints,H.texts,by have:=H.wl;simp only [av.zS];omega,H.out,H.read⟩
    · exact bb (fun b ah=>hw b (by simp [ah])) (by omega)
 exact key S.w (fun _ h=>h) (Nat.le_refl _)
theorem cG.dw (H:cG S n bc) {v:dk} (h:sJ v):cG (S.dw v) n bc:=(H.fa h).l9 _
theorem cG.k6 (H:cG S n bc) {v:dk} (h:sJ v):cG (S.k6 v) n bc:=(H.fa h).o8 _
theorem cG.ME (H:cG S n bc) {o:List UInt8} (h:o.length≤4096):cG {S with out:=S.out++o} (n+1) bc:=
 ⟨H.c,H.w,H.fns,H.ints,H.texts,by have:=H.wl;simp only;omega,by have:=H.out;simp only [List.length_append];omega,H.read⟩
theorem cG.atoms (H:cG S n bc) (l:List At) (h:∀a ∈ l,e5 a=true):cG (S.atoms l).1 n bc:=by
 have key:∀(l:List At) (p:av × List Nat),(∀a ∈ l,e5 a=true)→cG p.1 n bc→cG (l.foldl av.j0 p).1 n bc:=by
  intro l
  induction l with
  | nil=>intro p _ h;exact h
  | cons a l bb=>
    intro p bH aH
    rw [List.foldl_cons]
    refine bb _ (fun b ah=>bH b (by simp [ah])) ?_
    have f':=bH a (by simp)
    simp only [av.j0,av.atom]
    by_cases bT:a.k=1
    · rw [if_pos bT];exact aH
    · rw [if_neg bT]
      by_cases b8:a.k=2
      · rw [if_pos b8]
        refine aH.fa (mG ?_)
        simp only [e5,if_neg bT,if_pos b8,Bool.and_eq_true,pV,decide_eq_true_eq] at f'
        omega
      · rw [if_neg b8]
        refine aH.fa (zT ?_)
        simp only [e5,if_neg bT,if_neg b8] at f'
        by_cases fp:a.k=3
        · rw [if_pos fp] at f'
          simp only [Bool.and_eq_true,decide_eq_true_eq] at f'
          omega
        · rw [if_neg fp] at f';cases f'
 exact key l (S,[]) h H
theorem hS {p:Prop} [Decidable p] {A B:av} (ab:cG A n bc) (af:cG B n bc):cG (if p then A else B) n bc:=by split<;>assumption
theorem cG.lC (H:cG S n bc) (s:List UInt8) (bd:List Nat):cG (S.lC bc s bd) (n+1) bc:=by
 have U:=H.up (Nat.le_succ n)
 have T:=U.ends 6
 have gV:∀k:Int→Int→av,(∀a b,-1073741824≤a∧a≤1073741823→-1073741824≤b∧b≤1073741823→cG (k a b) (n+1) bc)→cG (S.gV bd k) (n+1) bc:=by
  intro k al
  simp only [av.gV]
  split
  · rename_i a b ab af;exact al a b (H.BE ab) (H.BE af)
  · exact T
 have jm:∀k:Int→av,(∀a,-1073741824≤a∧a≤1073741823→cG (k a) (n+1) bc)→cG (S.jm bd k) (n+1) bc:=by
  intro k al
  simp only [av.jm]
  split
  · rename_i a ab;exact al a (H.BE ab)
  · exact T
 have k_:∀k:List UInt8→av,(∀a,a.length≤4096→cG (k a) (n+1) bc)→cG (S.k_ bd k) (n+1) bc:=by
  intro k al
  simp only [av.k_]
  split
  · rename_i a ab;exact al a (H.Ge ab)
  · exact T
 unfold av.lC
 refine hS (gV _ fun a b _ _=>U.dw (mG (wo _))) ?_
 refine hS (gV _ fun a b _ _=>U.dw (mG (wo _))) ?_
 refine hS (gV _ fun a b _ _=>U.dw (mG (wo _))) ?_
 refine hS (gV _ fun a b _ _=>U.dw (ln _ _)) ?_
 refine hS (gV _ fun a b _ _=>U.dw (ln _ _)) ?_
 refine hS (gV _ fun a b _ _=>U.dw (ln _ _)) ?_
 refine hS ?_ ?_
 · refine gV _ fun a b _ _=>?_
   split
   · exact U.k6 (ln _ _)
   · exact U.dw (mG (wo _))
 refine hS ?_ ?_
 · refine gV _ fun a b _ _=>?_
   split
   · exact U.k6 (ln _ _)
   · exact U.dw (mG (wo _))
 refine hS (jm _ fun a _=>U.dw (mG (wo _))) ?_
 refine hS ?_ ?_
 · unfold av.u'
   split
   · exact U.dw (mG (by omega))
   · rename_i aT
     have V:cG {S with read:=S.read+1} (n+1) bc:=⟨U.c,U.w,U.fns,U.ints,U.texts,U.wl,U.out,by simp only;omega⟩
     refine V.dw (mG ?_)
     have:=(bc[S.read]?.getD 0).toNat_lt
     omega
 refine hS (jm _ fun a _=>(H.ME (by simp)).dw (ln _ _)) ?_
 refine hS (k_ _ fun a bH=>(H.ME bH).dw (ln _ _)) ?_
 refine hS (k_ _ fun a bH=>U.dw (mG (by omega))) ?_
 refine hS (jm _ fun a _=>U.dw (zT (by simp))) ?_
 refine hS ?_ ?_
 · unfold av.qB
   split
   · split
     · rename_i s i _ _ _
       refine U.dw (mG ?_)
       have:=(s[i.toNat]?.getD 0).toNat_lt
       omega
     · exact U.k6 (ln _ _)
   · exact T
 refine hS ?_ ?_
 · unfold av.cut
   split
   · split
     · rename_i s a b ab _ _ _
       have:=H.Ge ab
       refine U.dw (zT ?_)
       rw [List.length_take,List.length_drop]
       omega
     · exact U.k6 (ln _ _)
   · exact T
 refine hS ?_ ?_
 · unfold av.join
   split
   · split
     · refine U.dw (zT ?_)
       rw [List.length_append];assumption
     · exact U.k6 (ln _ _)
   · exact T
 refine hS ?_ ?_
 · unfold av.su
   split
   · split
     · have V:cG {S with st:=S.st.set (bd.getD 0 0) (.dt 0 [bd.getD 1 0])} (n+1) bc:=by
        refine ⟨U.c,U.w,fun u hu=>?_,fun u hu=>?_,fun u hu=>?_,U.wl,U.out,U.read⟩
        · rcases List.mem_or_eq_of_mem_set hu with q | rfl
          · exact U.fns u q
          · exact (ln _ _).1
        · rcases List.mem_or_eq_of_mem_set hu with q | rfl
          · exact U.ints u q
          · exact (ln _ _).2.1
        · rcases List.mem_or_eq_of_mem_set hu with q | rfl
          · exact U.texts u q
          · exact (ln _ _).2.2
       exact V.dw (ln _ _)
     · exact T
   · exact T
 exact U
theorem cG.call (H:cG S n bc) (f v:Nat):cG (S.call f v) n bc:=by
 unfold av.call
 split
 · rename_i x c e h
   exact ⟨H.ac7 h,H.w,H.fns,H.ints,H.texts,H.wl,H.out,H.read⟩
 · exact H.ends 6
theorem cG.mD (H:cG S n bc) (m:Int) (j:Nat):cG (S.mD m j) n bc:=by
 unfold av.mD
 split
 · split
   · exact H.ends 6
   · exact H.l9 _
 · exact H.ends 6
theorem cG.lW (H:cG S n bc) (h:∀p ∈ S.c.l,gv (keys S.e) p) (i:Nat):cG (S.lW i) n bc:=by
 unfold av.lW
 split
 · rename_i d bE
   exact ⟨h d (List.mem_of_getElem? bE),H.w,H.fns,H.ints,H.texts,H.wl,H.out,H.read⟩
 · exact H.ends 6
theorem cG.iC (H:cG S n bc) (h:∀p ∈ S.c.l,gv (keys S.e) p) (b:Bool) (j:Nat):cG (S.iC b j) n bc:=by
 unfold av.iC
 split
 · split
   · exact H.ends 6
   · exact H.lW h _
 · split
   · exact H.lW h _
   · exact H.ends 6
 · exact H.ends 6
theorem abf (S:av) (l:List aw):(∀z,z ∈ keys (S.e1 l).e↔z ∈ l.map aw.n∨z ∈ keys S.e):=by
 induction l generalizing S with
 | nil=>intro z;simp [av.e1]
 | cons f l bb=>
   intro z
   have:=bb (S.gX f) z
   show z ∈ keys ((S.gX f).e1 l).e↔_
   rw [this]
   simp only [av.gX,keys,List.map_cons,List.mem_cons]
   grind
theorem abg (S:av) (l:List aw):(S.e1 l).w=S.w∧(S.e1 l).c=S.c∧(S.e1 l).out=S.out∧(S.e1 l).read=S.read∧(S.e1 l).st=S.st++l.map fun f=>dk.fn f.x (f.l.headD f) []:=by
 induction l generalizing S with
 | nil=>simp [av.e1]
 | cons f l bb=>
   obtain ⟨bB,bJ,a3,a4,a5⟩:=bb (S.gX f)
   refine ⟨bB,bJ,a3,a4,?_⟩
   show ((S.gX f).e1 l).st=_
   rw [a5]
   simp [av.gX,av.fa]
theorem Nx (e:gP):∀(l:List aw) (pre:List dk) (v:dk),v ∈ av.hX e pre.length (pre++l.map fun f=>dk.fn f.x (f.l.headD f) []) l→v ∈ pre∨∃f ∈ l,v=.fn f.x (f.l.headD f) e
 | [],pre,v,h=>by simpa [av.hX] using h
 | f::l,pre,v,h=>by
   rw [av.hX,List.map_cons] at h
   have bk:(pre++dk.fn f.x (f.l.headD f) []::l.map fun f=>dk.fn f.x (f.l.headD f) []).set pre.length (.fn f.x (f.l.headD f) e)=(pre++[.fn f.x (f.l.headD f) e])++l.map fun f=>dk.fn f.x (f.l.headD f) []:=by
    rw [List.set_append_right _ _ (Nat.le_refl _),Nat.sub_self];simp
   have aB:pre.length+1=(pre++[dk.fn f.x (f.l.headD f) e]).length:=by simp
   rw [bk,aB] at h
   rcases Nx e l _ v h with q | ⟨g,a1,rfl⟩
   · simp only [List.mem_append,List.mem_singleton] at q
     rcases q with q | rfl
     · exact .inl q
     · exact .inr ⟨f,by simp,rfl⟩
   · exact .inr ⟨g,by simp [a1],rfl⟩
theorem cG.n0 (H:cG S n bc) (er:S.c.k=8) (aB:S.c.l≠[]):cG S.n0 n bc:=by
 obtain ⟨bT,b8⟩:=H.c.kids.2.2.2 er
 obtain ⟨bf,bV,ch,dr,e0⟩:=abg S S.c.l.dropLast
 have abu:=abf S S.c.l.dropLast
 have K':∀z,z ∈ S.c.l.dropLast.map aw.n++keys S.e→z ∈ keys (S.e1 S.c.l.dropLast).e:=fun z aV=>(abu z).2 (List.mem_append.1 aV)
 have tj:∀v ∈ av.hX (S.e1 S.c.l.dropLast).e S.st.length (S.e1 S.c.l.dropLast).st S.c.l.dropLast,v ∈ S.st∨∃f ∈ S.c.l.dropLast,v=.fn f.x (f.l.headD f) (S.e1 S.c.l.dropLast).e:=by
  intro v a6
  rw [e0] at a6
  exact Nx _ _ _ v a6
 unfold av.n0
 refine ⟨?_,by simp only [bf];exact H.w,fun v a6=>?_,fun v a6=>?_,fun v a6=>?_,by simp only [bf];exact H.wl,by simp only [ch];exact H.out,by simp only [dr];exact H.read⟩
 · have:S.c.l.getLastD S.c ∈ S.c.l.getLast? :=by
    rw [List.getLastD_eq_getLast?]
    cases aM:S.c.l.getLast? with
    | none=>exact absurd (List.getLast?_eq_none_iff.1 aM) aB
    | some d=>simp
   exact (b8 _ this).mono K'
 · rcases tj v a6 with q | ⟨f,au,rfl⟩
   · exact H.fns v q
   · exact (Kj ((bT f au).mono fun z aV=>by
      rcases List.mem_cons.1 aV with rfl | aV
      · simp
      · exact List.mem_cons.2 (.inr (K' z aV)))).1
 · rcases tj v a6 with q | ⟨f,au,rfl⟩
   · exact H.ints v q
   · intro m q;cases q
 · rcases tj v a6 with q | ⟨f,au,rfl⟩
   · exact H.texts v q
   · intro m q;cases q
theorem cG.waits (H:cG S n bc) (h:S.c.k=2∨S.c.k=11):cG S.waits (n+1) bc:=by
 obtain ⟨p4,_,_⟩:=H.c.shape
 have aB:=p4.gb h
 obtain ⟨p,q,Ei⟩:∃p q,S.c.l=[p,q]:=by
  match hh:S.c.l,aB with
  | [p,q],_=>exact ⟨p,q,rfl⟩
 obtain ⟨bT,b8⟩:=H.c.kids.1 h p q Ei
 have b5:S.en 0=p:=by simp [av.en,Ei]
 have aL:S.en 1=q:=by simp [av.en,Ei]
 unfold av.waits
 refine ⟨by simp only [b5];exact bT,fun a bH=>?_,H.fns,H.ints,H.texts,by have:=H.wl;simp only [List.length_cons];omega,by have:=H.out;simp only;omega,H.read⟩
 rcases List.mem_cons.1 bH with rfl | bH
 · simp only [aL];exact b8
 · exact H.w a bH
theorem cG.step (H:cG S n bc):cG (S.step bc) (n+1) bc:=by
 obtain ⟨p4,al,a6⟩:=H.c.shape
 have A:=H.atoms S.c.a p4.at_
 obtain ⟨ki,ee,lj,my,lR,h4⟩:=av.kL S S.c.a
 unfold av.step
 generalize (S.atoms S.c.a).1=T at *
 generalize (S.atoms S.c.a).2=bd at *
 have U:=A.up (Nat.le_succ n)
 unfold av.ew
 refine hS (U.l9 _) ?_
 by_cases af:T.c.k=2∨T.c.k=11
 · rw [if_pos af];exact A.waits af
 rw [if_neg af]
 refine hS (A.lC _ _) ?_
 refine hS (U.dw (ln _ _)) ?_
 refine hS (U.mD _ _) ?_
 refine hS (U.call _ _) ?_
 by_cases cn:T.c.k=7
 · rw [if_pos cn]
   have aB:=p4.EO (by rw [←ee];exact cn)
   rw [←ee] at aB
   obtain ⟨p,aH⟩:∃p,T.c.l=[p]:=by
    match hh:T.c.l,aB with
    | [p],_=>exact ⟨p,rfl⟩
   have b5:T.en 0=p:=by simp [av.en,aH]
   rw [b5]
   exact U.dw (Kj (U.c.kids.2.1 cn p aH))
 rw [if_neg cn]
 by_cases er:T.c.k=8
 · rw [if_pos er]
   have aB:=(p4.Ly (by rw [←ee];exact er)).1
   exact U.n0 er (by rw [ee];intro q;rw [q] at aB;simp at aB)
 rw [if_neg er]
 by_cases nA:T.c.k=9
 · rw [if_pos nA];exact U.iC (U.c.kids.2.2.1 (.inl nA)) _ _
 rw [if_neg nA]
 by_cases oH:T.c.k=10
 · rw [if_pos oH];exact U.iC (U.c.kids.2.2.1 (.inr oH)) _ _
 rw [if_neg oH]
 exact hS (U.o8 _) U
theorem cG.start {c:aw} (h:gv [] c):cG (start c) 0 bc:=⟨h,fun _ q=>(by cases q),fun _ q=>(by cases q),fun _ q=>(by cases q),fun _ q=>(by cases q),Nat.le_refl _,Nat.le_refl _,Nat.zero_le _⟩
theorem cG.nth {c:aw} (h:gv [] c):∀i,cG ((Go.Proofs.YtjbiefneffiogaaGreat.start c).nth bc i) i bc
 | 0=>cG.start h
 | i+1=>(cG.nth h i).step
end
end Go.Proofs.YtjbiefneffiogaaGreat
namespace Go.Proofs.YtjbiefneffiogaaGreat
open Go ba
theorem Ll (l m:List Int):cC (l++m)=cC l++cC m:=by simp [cC]
theorem An (l:List Int):fg (cC l)=true:=by
 induction l with
 | nil=>rfl
 | cons x l bb=>exact bb
theorem AS (h:ag) (x:Int) (B:Nat) (du:B≤h.next):ca B (h.new (.ar [.int .i64 x] 0 false)) 1 (.slice (ak h.next) 0 1 1) 1 (cC [x]):=
 ⟨rfl,rfl,by rw [cA];exact du,dC (by rw [cH];omega),Nat.le_refl _,by unfold top;omega,[.int .i64 x],0,false,gT _,by simp,rfl⟩
theorem Hk (c:aw) (ad:List V) (h:ag) (H:eF h c ad) (au:fit 1048576 c) (er:c.k=8→1≤c.l.length) (Ko:c.k≠14):
 bR Tryz.prog 65 [.agg ad] h fun x aa=>ca (h.next+1) aa 1 x (ownNames c.k c.x c.l).length (cC (ownNames c.k c.x c.l))∧Ext h aa:=by
 obtain ⟨f1,f2,f3,f4,f5⟩:=au.kids
 obtain ⟨bl,bs,aY,rfl,cX,ea,cQ⟩:=H.open
 refine RF rfl (b9 ?_)
 unfold IL
 have b5:Ext h (h.new (.ar [.int .i64 c.k,.int .i64 c.x,.int .i64 c.n,.str c.s,bl,bs,aY] 0 false)):=(Ext.refl h).new _
 have zy:=eq_false Ko
 by_cases cn:c.k=7
 · have kN:=eq_true cn
   simp +contextual only [kN,↓ai,aq,simprocAttr]
   rw [show ownNames c.k c.x c.l=[c.x] from by rw [ownNames,if_pos cn]]
   exact ⟨AS (h.new (.ar [.int .i64 c.k,.int .i64 c.x,.int .i64 c.n,.str c.s,bl,bs,aY] 0 false)) c.x _ (by rw [cH];omega),b5.new _⟩
 have kN:=eq_false cn
 by_cases al:c.k=8
 · have kh:=eq_true al
   have gx:=er al
   have c2:=(cQ.ext b5).len
   have aJ:IntKind.i64.wrap ((c.l.length:Int)-1)=((c.l.length-1:Nat):Int):=by rw [wrap_i64 (by omega) (by omega)];omega
   obtain ⟨dE,C6,w2⟩:=(cQ.ext b5).cut (k:=.i64) (m:=c.l.length-1) (by omega)
   have xg:=w2.len
   rw [List.length_take,Nat.min_eq_left (Nat.sub_le _ _)] at xg
   simp +contextual only [kN,kh,c2,aJ,C6,xg,↓ai,aq,simprocAttr]
   have f_:ownNames c.k c.x c.l=c.l.dropLast.map aw.n:=by rw [ownNames,if_neg cn,if_pos al]
   refine gz (fun r aa=>Ext (h.new (.ar [.int .i64 c.k,.int .i64 c.x,.int .i64 c.n,.str c.s,bl,bs,aY] 0 false)) aa∧r 23=dE∧r 24=.int .i64 ((c.l.length-1:Nat):Int)∧
    ∃(i:Nat) (v:V),r 25=.int .i64 i∧i≤c.l.length-1∧r 3=v∧ca (h.next+1) aa 1 v i (cC ((c.l.take i).map aw.n))) (fun r aa=>c.l.length - (r 25).hf) ?_ ?_
   · exact ⟨Ext.refl _,by simp only [↓ai,a2,simprocAttr],by simp only [↓ai,a2,simprocAttr],0,.aF,by simp only [↓ai,a2,simprocAttr]<;>rfl,by omega,by simp only [↓ai,a2,simprocAttr],⟨rfl,rfl⟩⟩
   · rintro r aa ⟨an,re,rf,i,v,rh,ax,ch,a6⟩
     unfold IM
     by_cases aS:i<c.l.length-1
     · have bP:((i:Int) < ((c.l.length-1:Nat):Int))=True:=eq_true (by omega)
       have th:i<c.l.length:=by omega
       have vn:i < (c.l.take (c.l.length-1)).length:=by rw [List.length_take];omega
       obtain ⟨b,o,u,cl,hu,c7,_⟩:=(w2.ext an).at (k:=.i64) vn
       rw [List.getElem_take] at hu
       have lZ:(c.l.take (i+1)).map aw.n=(c.l.take i).map aw.n++[c.l[i].n]:=by rw [List.take_add_one,List.getElem?_eq_getElem th,List.map_append];rfl
       generalize vh:c.l[i]=f at *
       obtain ⟨cf,ef,cu,rfl,oa,ob,nd⟩:=hu.open
       have w:=hg th (by omega)
       have ff:=oa.one.1
       have fT:=ob.one.1
       have gA:=nd.one.1
       have et:Ext aa ((aa.new (.ar [.int .i64 0,.int .i64 0,.int .i64 0,.str [],.aF,.aF,.aF] 0 false)).set (ak aa.next) (.ar [.int .i64 f.k,.int .i64 f.x,.int .i64 f.n,.str f.s,cf,ef,cu] 0 false)):=((Ext.refl aa).new _).set (Nat.le_refl _) _
       have KS:=an.next
       rw [cH] at KS
       have oG:((aa.new (.ar [.int .i64 0,.int .i64 0,.int .i64 0,.str [],.aF,.aF,.aF] 0 false)).set (ak aa.next) (.ar [.int .i64 f.k,.int .i64 f.x,.int .i64 f.n,.str f.s,cf,ef,cu] 0 false)).next=aa.next+1:=by rw [fA,cH]
       simp +contextual only [ch,re,rf,rh,bP,cl,c7,ff,fT,gA,Bool.and_self,↓ai,aq,simprocAttr]
       obtain ⟨v3,aK,aG,az,aW,bZ,dW⟩:=oo (cs:=[.int .i64 f.n]) (by omega) (a6.ext et) (by rw [oG];omega) (by unfold top;omega) rfl rfl
       rw [oG] at aG
       simp +contextual only [aG,re,rf,rh,w,↓ai,aq,simprocAttr]
       have qZ:Ext (h.new (.ar [.int .i64 c.k,.int .i64 c.x,.int .i64 c.n,.str c.s,bl,bs,aY] 0 false)) aK:=(an.trans et).jk aW (fun b ah=>by rw [cH];exact a6.base ah)
       exact ⟨⟨qZ,⟨i+1,v3,rfl,by omega,rfl,by rw [lZ,Ll];exact az⟩⟩,by omega⟩
     · have bP:((i:Int) < ((c.l.length-1:Nat):Int))=False:=eq_false (by omega)
       obtain rfl:i=c.l.length-1:=by omega
       simp +contextual only [ch,re,rf,rh,bP,↓ai,aq,simprocAttr]
       rw [f_,List.dropLast_eq_take,List.length_map,List.length_take,Nat.min_eq_left (Nat.sub_le _ _)]
       exact ⟨a6,b5.trans an⟩
 · have kh:=eq_false al
   simp +contextual only [kN,kh,zy,↓ai,aq,simprocAttr]
   rw [show ownNames c.k c.x c.l=[] from by rw [ownNames,if_neg cn,if_neg al]]
   exact ⟨⟨rfl,rfl⟩,b5⟩
theorem CB {M N:aN→Prop} {h ab af:ag} (m:Mod M h ab) (e:Mod N ab af) (dU:∀b,Old h b→N b→M b):Mod M h af:=
 ⟨Nat.le_trans m.next e.next,fun b ah hm=>(e.get b (m.b4 ah) (fun q=>hm (dU b ah q))).trans (m.get b ah hm)⟩
structure nh (g:FuncId) (ah h:ag) (cb cL:aN) (acc:List Int) (bW:V):Prop where
 ext:Ext ah h
 kV:h.get cb=.ar [bW] 0 false
 nI:h.get cL=.ar [.func g [.ptr cb 0,.ptr cL 0]] 0 false
 ub:Old h cb
 ua:Old h cL
 Fb:ah.next≤cd cb
 Mc:ah.next≤cd cL
 ne:cb≠cL
 own:ca ah.next h 1 bW acc.length (cC acc)
 vI:∀b,bW.a_ b→b≠cb∧b≠cL
theorem nh.fx {g:FuncId} {ah h aa:ag} {cb cL:aN} {acc:List Int} {bW:V} (O:nh g ah h cb cL acc bW) (e:Ext h aa):nh g ah aa cb cL acc bW:=
 ⟨O.ext.trans e,by rw [e.get _ O.ub];exact O.kV,by rw [e.get _ O.ua];exact O.nI,e.b4 O.ub,e.b4 O.ua,O.Fb,O.Mc,O.ne,O.own.ext e,O.vI⟩
theorem nh.push {g:FuncId} {ah h aK:ag} {cb cL:aN} {acc m:List Int} {bW v3:V} (O:nh g ah h cb cL acc bW) (az:ca ah.next aK 1 v3 (acc.length+m.length) (cC acc++cC m)) (aW:Mod bW.a_ h aK) (dW:∀b,v3.a_ b→bW.a_ b∨h.next≤cd b):
 nh g ah (aK.set cb (.ar [v3] 0 false)) cb cL (acc++m) v3∧Mod (fun b=>b=cb∨bW.a_ b) h (aK.set cb (.ar [v3] 0 false)):=by
 have r7:Mod (fun b=>b=cb∨bW.a_ b) h (aK.set cb (.ar [v3] 0 false)):=(aW.mono fun b _ ah=>.inr ah).set (fun _=>.inl rfl) _
 have xp:Ext ah (aK.set cb (.ar [v3] 0 false)):=O.ext.jk r7 (fun b ah=>by
  rcases ah with rfl | ah
  · exact O.Fb
  · exact O.own.base ah)
 have OB:∀b,v3.a_ b→b≠cb∧b≠cL:=by
  intro b ah
  rcases dW b ah with q | q
  · exact O.vI b q
  · have ab:=O.ub
    have af:=O.ua
    unfold Old at ab af
    exact ⟨fun e=>by rw [e] at q;omega,fun e=>by rw [e] at q;omega⟩
 refine ⟨⟨xp,by rw [cM,if_pos rfl],?_,?_,?_,O.Fb,O.Mc,O.ne,?_,OB⟩,r7⟩
 · rw [cM,if_neg O.ne,aW.get _ O.ua (fun q=>(O.vI _ q).2 rfl)];exact O.nI
 · exact aW.b4 O.ub
 · exact aW.b4 O.ua
 · rw [List.length_append,Ll]
   exact az.mod (M:=fun b=>b=cb) ((Mod.refl (fun b=>b=cb) aK).set (b:=cb) (fun _=>rfl) (.ar [v3] 0 false)) (fun b ah=>(OB b ah).1)
theorem MC (N:Nat) (bb:∀c:aw,size c≤N→(order c).length+1≤3 * size c) (late:Bool) (x:Int):∀(l:List aw) (i:Nat),(∀d ∈ l,size d≤N)→(hk late x l i).length+l.length≤3 * ju l + (if late=true∧i≤1 then 1 else 0)
 | [],i,_=>by simp [hk]
 | d::l,i,bE=>by
   have ab:=bb d (bE d (by simp))
   have af:=MC N bb late x l (i+1) (fun e he=>bE e (by simp [he]))
   simp only [hk,ju,List.length_append,List.length_cons]
   by_cases aA:late=true
   · subst aA
     by_cases ao:i=0
     · subst ao
       simp at af ⊢
       omega
     · by_cases jE:i=1
       · subst jE
         simp at af ⊢
         omega
       · have aL:(i == 1)=false:=by simpa using jE
         have bo:¬(i≤1):=by omega
         have c6:¬(i+1≤1):=by omega
         simp [aL,bo,ao] at af ⊢
         omega
   · have:late=false:=by simpa using aA
     subst this
     simp at af ⊢
     omega
theorem My:∀(N:Nat) (c:aw),size c≤N→(order c).length+1≤3 * size c
 | 0,c,h=>by have:=size_pos c;omega
 | N+1,c,h=>by
   obtain ⟨k,x,n,s,a,t,l⟩:=c
   simp only [size] at h ⊢
   have ab:=MC N (My N) (dL k) x l 0 (fun d bE=>by have:=v8 bE;omega)
   simp only [order,List.length_append]
   by_cases cn:k=7
   · subst cn
     have aL:(ownNames 7 x l).length=1:=rfl
     have bo:dL 7=false:=rfl
     rw [bo] at ab ⊢
     simp at ab
     omega
   · by_cases er:k=8
     · subst er
       have aL:(ownNames 8 x l).length≤l.length:=by rw [ownNames,if_neg (by decide),if_pos rfl,List.length_map,List.length_dropLast];omega
       have bo:dL 8=false:=rfl
       rw [bo] at ab ⊢
       simp at ab
       omega
     · have aL:(ownNames k x l).length=0:=by rw [ownNames,if_neg cn,if_neg er];rfl
       have c6:(if dL k=true∧0≤1 then 1 else 0)≤1:=by split<;>omega
       omega
theorem Fm (c:aw):(order c).length≤3 * size c:=by have:=My _ c (Nat.le_refl _);omega
theorem AR:∀{l:List aw} {i:Nat} {c:aw},pY l→l[i]? =some c→o5 c
 | [],_,_,_,h=>by simp at h
 | d::l,0,c,au,h=>by simp only [List.getElem?_cons_zero,Option.some.injEq] at h;subst h;exact au.1
 | d::l,i+1,c,au,h=>AR au.2 (by simpa using h)
theorem Mx:∀(N:Nat) (c:aw),size c≤N→fit 1048576 c→o5 c→∀(ad:List V) (ah:ag),eF ah c ad→∀(h:ag) (cb cL:aN) (acc:List Int) (bW:V),nh 64 ah h cb cL acc bW→acc.length + (order c).length≤8000000→
 bR Tryz.prog 64 [.agg ad,.ptr cb 0,.ptr cL 0] h fun x aa=>∃m9,nh 64 ah aa cb cL (acc++order c) m9∧(∀b,m9.a_ b→bW.a_ b∨h.next≤cd b)∧Mod (fun b=>b=cb∨bW.a_ b) h aa
 | 0,c,bk,_,_,_,_,_,_,_,_,_,_,_,_=>by have:=size_pos c;omega
 | N+1,c,bk,au,b7,ad,ah,H,h,cb,cL,acc,bW,O,aB=>by
   obtain ⟨f1,f2,f3,f4,f5⟩:=au.kids
   have oW:=sw c
   obtain ⟨bl,bs,aY,rfl,cX,ea,cQ⟩:=H.open
   have hJ:=H
   refine RE rfl (b9 ?_)
   unfold IJ
   have b5:Ext h (h.new (.ar [.int .i64 c.k,.int .i64 c.x,.int .i64 c.n,.str c.s,bl,bs,aY] 0 false)):=(Ext.refl h).new _
   have CC:=O.fx b5
   simp +contextual only [CC.kV,↓ai,a2,cr.ends,dS,oneOf,top,↓reduceIte,Nat.reduceEqDiff,Nat.reduceLeDiff,Nat.reduceAdd,Nat.reduceSub,Nat.reduceMul,reduceCtorEq,Int.reduceEq,Int.reduceLT,Int.reduceLE,Int.reduceNeg]
   have xG:(c.k=8→1≤c.l.length)∧c.k≠14∧(dL c.k=true→c.l.length=2)∧pY c.l:=by cases c;exact b7
   obtain ⟨bT,b8,fp,h8⟩:=xG
   refine bm (Hk c _ _ (H.ext (O.ext.trans b5)) au bT b8) ?_
   rintro x bF ⟨f_,et⟩
   have hL:=CC.fx et
   have Wl:=b5.trans et
   have Kh:h.next<bF.next:=by have:=et.next;rw [cH] at this;omega
   have ed:bF.get (ak h.next)=.ar [.int .i64 c.k,.int .i64 c.x,.int .i64 c.n,.str c.s,bl,bs,aY] 0 false:=by rw [et.get _ (dC (by rw [cH];omega)),gT]
   have aeO:=Fm c
   have aeP:(ownNames c.k c.x c.l).length≤(order c).length:=by
    cases c
    simp only [order,List.length_append,aw.k,aw.x,aw.l]
    omega
   obtain ⟨v3,aK,aG,az,aW,dW⟩:=CJ (by omega) hL.own f_.v (hL.ext.next) (by unfold top;omega) (An _)
   obtain ⟨rH,dV⟩:=hL.push az aW dW
   have KW:cd cb<h.next:=O.ub
   have r':∀b,bW.a_ b→cd b<h.next:=fun b ah=>O.own.v.b4 ah
   have Eh:(ak h.next=cb)=False:=eq_false (fun e=>by rw [←e,cA] at KW;omega)
   have jc:(aK.set cb (.ar [v3] 0 false)).get (ak h.next)=.ar [.int .i64 c.k,.int .i64 c.x,.int .i64 c.n,.str c.s,bl,bs,aY] 0 false:=by
    have aX:¬(ak h.next=cb∨bW.a_ (ak h.next)):=by
     rintro (e | e)
     · exact Eh.mp e
     · have:=r' _ e
       rw [cA] at this
       omega
    rw [dV.get _ (dC Kh) aX]
    exact ed
   have T8:aK.get cb=.ar [bW] 0 false:=by rw [aW.get _ hL.ub (fun q=>(O.vI _ q).1 rfl)];exact hL.kV
   have V_:v3.one=true:=az.v.one.1
   have V9:v3.cells=[v3]:=az.v.one.2.1
   have Ui:=(cQ.ext rH.ext).len
   simp +contextual only [CC.kV,hL.kV,T8,ed,jc,aG,V_,V9,Ui,↓ai,a2,cr.ends,dS,oneOf,top,↓reduceIte,Nat.reduceEqDiff,Nat.reduceLeDiff,Nat.reduceAdd,Nat.reduceSub,Nat.reduceMul,reduceCtorEq,Int.reduceEq,Int.reduceLT,Int.reduceLE,Int.reduceNeg]
   generalize aK.set cb (.ar [v3] 0 false)=GK at *
   have aaT:∀b,v3.a_ b→bW.a_ b∨h.next≤cd b:=fun b ah=>(dW b ah).imp id (fun q=>by omega)
   have Zi:Mod (fun b=>b=cb∨bW.a_ b) h GK:=(Wl.mod _).trans dV
   have TN:h.next<GK.next:=by have:=dV.next;omega
   have Vy:cd cL<h.next:=O.ua
   refine gz (fun r aa=>r 1=.ptr cb 0∧r 2=.ptr cL 0∧r 3=.ptr (ak h.next) 0∧r 11=aY∧r 12=.int .i64 c.l.length∧h.next<aa.next∧aa.get (ak h.next)=.ar [.int .i64 c.k,.int .i64 c.x,.int .i64 c.n,.str c.s,bl,bs,aY] 0 false∧Mod (fun b=>b=cb∨bW.a_ b) h aa∧
    ∃(i:Nat) (done:List Int) (w:V),r 13=.int .i64 i∧i≤c.l.length∧nh 64 ah aa cb cL done w∧(∀b,w.a_ b→(bW.a_ b∨h.next≤cd b)∧b≠ak h.next)∧done++hk (dL c.k) c.x (c.l.drop i) i=acc++order c) (fun r aa=>c.l.length - (r 13).hf) ?_ ?_
   · refine ⟨by simp only [↓ai,a2,↓reduceIte,Nat.reduceEqDiff,reduceCtorEq],by simp only [↓ai,a2,↓reduceIte,Nat.reduceEqDiff,reduceCtorEq],by simp only [↓ai,a2,↓reduceIte,Nat.reduceEqDiff,reduceCtorEq],by simp only [↓ai,a2,↓reduceIte,Nat.reduceEqDiff,reduceCtorEq],by simp only [↓ai,a2,↓reduceIte,Nat.reduceEqDiff,reduceCtorEq],TN,jc,Zi,0,acc++ownNames c.k c.x c.l,v3,by simp only [↓ai,a2,↓reduceIte,Nat.reduceEqDiff,reduceCtorEq]<;>rfl,by omega,rH,fun b ah=>⟨aaT b ah,?_⟩,?_⟩
     · rintro rfl
       rcases dW _ ah with q | q
       · have:=r' _ q;rw [cA] at this;omega
       · rw [cA] at q;omega
     · cases c
       simp only [order,List.append_assoc,List.drop_zero,aw.k,aw.x,aw.l]
   · rintro r aa ⟨bf,bV,ch,jr,h_,aX,lo,r7,i,done,w,ia,ax,qs,hw,qO⟩
     unfold IK
     by_cases aS:i<c.l.length
     · have bP:((i:Int) < (c.l.length:Int))=True:=eq_true (by omega)
       obtain ⟨b,o,u,cl,hu,o1⟩:=cQ.rM (k:=.i64) aS
       have c7:=(o1 aa qs.ext).1
       rw [List.drop_eq_getElem_cons aS,hk] at qO
       have g9:c.l[i]? =some c.l[i]:=List.getElem?_eq_getElem aS
       generalize vh:c.l[i]=f at *
       obtain ⟨cf,ef,cu,rfl,oa,ob,nd⟩:=hu.open
       have gi:=hg aS (by omega)
       have ff:=oa.one.1
       have fT:=ob.one.1
       have gA:=nd.one.1
       have et:Ext aa ((aa.new (.ar [.int .i64 0,.int .i64 0,.int .i64 0,.str [],.aF,.aF,.aF] 0 false)).set (ak aa.next) (.ar [.int .i64 f.k,.int .i64 f.x,.int .i64 f.n,.str f.s,cf,ef,cu] 0 false)):=((Ext.refl aa).new _).set (Nat.le_refl _) _
       have oG:((aa.new (.ar [.int .i64 0,.int .i64 0,.int .i64 0,.str [],.aF,.aF,.aF] 0 false)).set (ak aa.next) (.ar [.int .i64 f.k,.int .i64 f.x,.int .i64 f.n,.str f.s,cf,ef,cu] 0 false)).next=aa.next+1:=by rw [fA,cH]
       have kP:((aa.new (.ar [.int .i64 0,.int .i64 0,.int .i64 0,.str [],.aF,.aF,.aF] 0 false)).set (ak aa.next) (.ar [.int .i64 f.k,.int .i64 f.x,.int .i64 f.n,.str f.s,cf,ef,cu] 0 false)).get (ak aa.next)=.ar [.int .i64 f.k,.int .i64 f.x,.int .i64 f.n,.str f.s,cf,ef,cu] 0 false:=by rw [cM,if_pos rfl]
       have xW:(aa.next=h.next)=False:=eq_false (by omega)
       have xX:(h.next=aa.next)=False:=eq_false (by omega)
       have vK:(ak aa.next=cL)=False:=eq_false (fun e=>by rw [←e,cA] at Vy;omega)
       have tT:(ak aa.next=cb)=False:=eq_false (fun e=>by rw [←e,cA] at KW;omega)
       have xD:∀(w:V),(∀b,w.a_ b→b≠ak h.next)→¬(ak h.next=cb∨w.a_ (ak h.next)):=by
        rintro w hw (e | e)
        · exact Eh.mp e
        · exact hw _ e rfl
       have after:∀(G:ag) (w5:List Int) (aC:V),nh 64 ah G cb cL w5 aC→h.next<G.next→G.get (ak h.next)=.ar [.int .i64 c.k,.int .i64 c.x,.int .i64 c.n,.str c.s,bl,bs,aY] 0 false→Mod (fun b=>b=cb∨bW.a_ b) h G→
        (∀b,aC.a_ b→(bW.a_ b∨h.next≤cd b)∧b≠ak h.next)→w5.length + (order f).length≤8000000→
        bR Tryz.prog 64 [.agg [.int .i64 f.k,.int .i64 f.x,.int .i64 f.n,.str f.s,cf,ef,cu],.ptr cb 0,.ptr cL 0] G fun x bz=>∃di,nh 64 ah bz cb cL (w5++order f) di∧h.next<bz.next∧bz.get (ak h.next)=.ar [.int .i64 c.k,.int .i64 c.x,.int .i64 c.n,.str c.s,bl,bs,aY] 0 false∧Mod (fun b=>b=cb∨bW.a_ b) h bz∧
         (∀b,di.a_ b→(bW.a_ b∨h.next≤cd b)∧b≠ak h.next):=by
        intro G w5 aC pg h6 Uc Ue Dx Ud
        refine (Mx N f (by have:=rl g9;omega) (oF f5 g9) (AR h8 g9) _ ah hu G cb cL w5 aC pg Ud).mono ?_
        rintro x bz ⟨di,mh,b_,b1⟩
        refine ⟨di,mh,by have:=b1.next;omega,?_,?_,?_⟩
        · rw [b1.get _ (dC h6) (xD aC fun b ah=>(Dx b ah).2)];exact Uc
        · refine CB Ue b1 fun b ah dU=>?_
          rcases dU with e | e
          · exact .inl e
          · rcases (Dx b e).1 with q | q
            · exact .inr q
            · unfold Old at ah;omega
        · intro b ah
          rcases b_ b ah with q | q
          · exact Dx b q
          · exact ⟨.inr (by omega),by rintro rfl;rw [cA] at q;omega⟩
       have KO:Mod (fun b=>b=cb∨bW.a_ b) h ((aa.new (.ar [.int .i64 0,.int .i64 0,.int .i64 0,.str [],.aF,.aF,.aF] 0 false)).set (ak aa.next) (.ar [.int .i64 f.k,.int .i64 f.x,.int .i64 f.n,.str f.s,cf,ef,cu] 0 false)):=CB r7 (et.mod fun _=>False) (fun _ _ q=>q.elim)
       have Kz:((aa.new (.ar [.int .i64 0,.int .i64 0,.int .i64 0,.str [],.aF,.aF,.aF] 0 false)).set (ak aa.next) (.ar [.int .i64 f.k,.int .i64 f.x,.int .i64 f.n,.str f.s,cf,ef,cu] 0 false)).get (ak h.next)=.ar [.int .i64 c.k,.int .i64 c.x,.int .i64 c.n,.str c.s,bl,bs,aY] 0 false:=by rw [et.get _ (dC aX)];exact lo
       have pg:=qs.fx et
       by_cases jh:dL c.k=true∧i=1
       · obtain ⟨tf,rfl⟩:=jh
         have oM:(if (dL c.k&&(1:Nat) == 1)=true then [c.x] else [])=[c.x]:=by
          rw [if_pos]
          rw [tf];rfl
         rw [oM] at qO
         have hlen:=congrArg List.length qO
         simp only [List.length_append,List.length_cons,List.length_nil] at hlen
         have r1:(decide (c.k=2)||decide (c.k=11))=true:=by simpa [dL] using tf
         have nF:(((1:Nat):Int)=1)=True:=eq_true rfl
         obtain ⟨BD,mH,bB,bJ,a3,a4,a5⟩:=oo (cs:=[.int .i64 c.x]) (by omega) pg.own pg.ext.next (by unfold top;omega) rfl rfl
         rw [oG] at bB
         obtain ⟨Ps,jM⟩:=pg.push (m:=[c.x]) bJ a3 (fun b ah=>(a5 b ah).imp id (fun q=>by omega))
         have Wa:BD.one=true:=bJ.v.one.1
         have V':BD.cells=[BD]:=bJ.v.one.2.1
         have T9:mH.get cb=.ar [w] 0 false:=by rw [a3.get _ pg.ub (fun q=>(qs.vI _ q).1 rfl)];exact pg.kV
         have T7:mH.get cL=.ar [.func 64 [.ptr cb 0,.ptr cL 0]] 0 false:=by rw [a3.get _ pg.ua (fun q=>(qs.vI _ q).2 rfl)];exact pg.nI
         have Vw:Old ((aa.new (.ar [.int .i64 0,.int .i64 0,.int .i64 0,.str [],.aF,.aF,.aF] 0 false)).set (ak aa.next) (.ar [.int .i64 f.k,.int .i64 f.x,.int .i64 f.n,.str f.s,cf,ef,cu] 0 false)) (ak aa.next):=dC (by rw [oG];omega)
         have Wg:∀b,w.a_ b→cd b<aa.next:=fun b ah=>qs.own.v.b4 ah
         have T6:mH.get (ak aa.next)=.ar [.int .i64 f.k,.int .i64 f.x,.int .i64 f.n,.str f.s,cf,ef,cu] 0 false:=by
          rw [a3.get _ Vw (fun q=>by have:=Wg _ q;rw [cA] at this;omega)];exact kP
         have Kp:mH.get (ak h.next)=.ar [.int .i64 c.k,.int .i64 c.x,.int .i64 c.n,.str c.s,bl,bs,aY] 0 false:=by
          rw [a3.get _ (dC (by rw [oG];omega)) (fun q=>(hw _ q).2 rfl)];exact Kz
         have K0:(cb=ak h.next)=False:=eq_false (fun e=>Eh.mp e.symm)
         have ZE:(cb=ak aa.next)=False:=eq_false (fun e=>tT.mp e.symm)
         have ZN:(cb=cL)=False:=eq_false O.ne
         simp +contextual only [bf,bV,ch,jr,h_,ia,lo,qs.kV,qs.nI,nF,bP,cl,c7,ff,fT,gA,xW,xX,vK,tT,r1,Bool.and_self,bB,Wa,V',T9,T7,T6,Kp,K0,ZE,ZN,↓ai,a2,cr.ends,dS,oneOf,top,↓reduceIte,Nat.reduceEqDiff,Nat.reduceLeDiff,Nat.reduceAdd,Nat.reduceSub,Nat.reduceMul,reduceCtorEq,Int.reduceEq,Int.reduceLT,Int.reduceLE,Int.reduceNeg]
         refine bm (after _ (done++[c.x]) BD Ps (by rw [fA];have:=a3.next;rw [oG] at this;omega) (by rw [cM,if_neg (fun e=>K0.mp e)];exact Kp) (CB KO jM fun b ah dU=>?_) (fun b ah=>?_) (by simp only [List.length_append,List.length_cons,List.length_nil];omega)) ?_
         · rcases dU with e | e
           · exact .inl e
           · rcases (hw b e).1 with q | q
             · exact .inr q
             · unfold Old at ah;omega
         · rcases a5 b ah with q | q
           · exact hw b q
           · rw [oG] at q
             exact ⟨.inr (by omega),by rintro rfl;rw [cA] at q;omega⟩
         rintro x bz ⟨di,mh,b_,b1,cy,gB⟩
         simp +contextual only [bf,bV,ch,jr,h_,ia,gi,↓ai,a2,cr.ends,dS,oneOf,top,↓reduceIte,Nat.reduceEqDiff,Nat.reduceLeDiff,Nat.reduceAdd,Nat.reduceSub,Nat.reduceMul,reduceCtorEq,Int.reduceEq,Int.reduceLT,Int.reduceLE,Int.reduceNeg]
         exact ⟨⟨b_,b1,cy,2,done++[c.x]++order f,di,rfl,aS,mh,gB,by rw [←qO];simp only [List.append_assoc]⟩,by omega⟩
       · have oM:(if (dL c.k&&i == 1)=true then [c.x] else [])=([]:List Int):=by
          rw [if_neg]
          simp only [Bool.and_eq_true,beq_iff_eq]
          exact jh
         rw [oM,List.nil_append] at qO
         have hlen:=congrArg List.length qO
         simp only [List.length_append,List.length_cons,List.length_nil] at hlen
         have r1:(decide ((i:Int)=1)&&(decide (c.k=2)||decide (c.k=11)))=false:=by
          rw [Bool.and_eq_false_iff]
          by_cases ab:i=1
          · right
            have:¬dL c.k=true:=fun q=>jh ⟨q,ab⟩
            simpa [dL] using this
          · left
            exact decide_eq_false (by omega)
         simp +contextual only [bf,bV,ch,jr,h_,ia,lo,qs.nI,bP,cl,c7,ff,fT,gA,xW,xX,vK,tT,r1,Bool.and_self,↓ai,a2,cr.ends,dS,oneOf,top,↓reduceIte,Nat.reduceEqDiff,Nat.reduceLeDiff,Nat.reduceAdd,Nat.reduceSub,Nat.reduceMul,reduceCtorEq,Int.reduceEq,Int.reduceLT,Int.reduceLE,Int.reduceNeg]
         refine bm (after _ done w pg (by rw [oG];omega) Kz KO hw (by omega)) ?_
         rintro x bz ⟨di,mh,b_,b1,cy,gB⟩
         simp +contextual only [bf,bV,ch,jr,h_,ia,gi,↓ai,a2,cr.ends,dS,oneOf,top,↓reduceIte,Nat.reduceEqDiff,Nat.reduceLeDiff,Nat.reduceAdd,Nat.reduceSub,Nat.reduceMul,reduceCtorEq,Int.reduceEq,Int.reduceLT,Int.reduceLE,Int.reduceNeg]
         exact ⟨⟨b_,b1,cy,i+1,done++order f,di,rfl,aS,mh,gB,by rw [List.append_assoc];exact qO⟩,by omega⟩
     · have bP:((i:Int) < (c.l.length:Int))=False:=eq_false (by omega)
       rw [List.drop_eq_nil_of_le (by omega),hk,List.append_nil] at qO
       simp +contextual only [bf,bV,ch,jr,h_,ia,bP,↓ai,a2,cr.ends,dS,oneOf,top,↓reduceIte,Nat.reduceEqDiff,Nat.reduceLeDiff,Nat.reduceAdd,Nat.reduceSub,Nat.reduceMul,reduceCtorEq,Int.reduceEq,Int.reduceLT,Int.reduceLE,Int.reduceNeg]
       rw [←qO]
       exact ⟨w,qs,fun b ah=>(hw b ah).1,r7⟩
theorem CE (c:aw) (ad:List V) (h:ag) (H:eF h c ad) (au:fit 1048576 c) (b7:o5 c) (aB:(order c).length≤8000000):
 bR Tryz.prog 45 [.agg ad] h fun x aa=>ca h.next aa 1 x (order c).length (cC (order c))∧Ext h aa:=by
 obtain ⟨bl,bs,aY,rfl,cX,ea,cQ⟩:=H.open
 refine Ru rfl (b9 ?_)
 unfold Iw
 simp +contextual only [↓ai,aq,simprocAttr]
 generalize h6:((((h.new (.ar [.int .i64 c.k,.int .i64 c.x,.int .i64 c.n,.str c.s,bl,bs,aY] 0 false)).new (.ar [.aF] 0 false)).new (.ar [.jl] 0 false)).set (ak (h.next+2)) (.ar [.func 64 [.ptr (ak (h.next+1)) 0,.ptr (ak (h.next+2)) 0]] 0 false))=G at *
 have an:Ext h G:=by rw [←h6];exact (((Ext.refl h).new _).new _ |>.new _).set (by omega) _
 have aX:G.next=h.next+3:=by rw [←h6];simp only [fA,cH]
 have bF:G.get (ak (h.next+1))=.ar [.aF] 0 false:=by
  rw [←h6,cM,if_neg (by rw [gg];omega),dT,if_neg (by simp only [cH];rw [gg];omega),dT,if_pos (by simp only [cH])]
 have bz:G.get (ak (h.next+2))=.ar [.func 64 [.ptr (ak (h.next+1)) 0,.ptr (ak (h.next+2)) 0]] 0 false:=by rw [←h6,cM,if_pos rfl]
 have O:nh 64 h G (ak (h.next+1)) (ak (h.next+2)) [] .aF:=⟨an,bF,bz,dC (by omega),dC (by omega),by rw [cA];omega,by rw [cA];omega,by rw [Ne,gg];omega,⟨rfl,rfl⟩,fun b ah=>ah.elim⟩
 refine bm (Mx (size c) c (Nat.le_refl _) au b7 _ h H G _ _ [] .aF O (by simpa using aB)) ?_
 rintro x aa ⟨w,y6,b_,b1⟩
 rw [List.nil_append] at y6
 simp +contextual only [y6.kV,↓ai,aq,simprocAttr]
 exact ⟨y6.own,y6.ext⟩
theorem aas {x:Int}:∀{l:List aw} (h:l.length=2),hk true x l 0=order (l[0]'(by omega))++[x]++order (l[1]'(by omega))
 | [p,q],_=>by simp [hk]
structure Grown (ah ao:ag) (v0:V) (h:ag) (l:List Int) (v:V):Prop where
 ext:Ext ah h
 own:ca ah.next h 1 v l.length (cC l)
 mod:Mod v0.a_ ao h
 new:∀b,v.a_ b→v0.a_ b∨ao.next≤cd b
theorem wrap_add {a b:Nat} (h:a+b≤4611686018427387904):IntKind.i64.wrap ((a:Int) + (b:Int))=((a+b:Nat):Int):=by
 rw [wrap_i64 (by omega) (by omega)]
 push_cast;rfl
theorem N1:∀(N:Nat) (c:aw),size c≤N→size c≤4611686018427387904→∀(ad:List V) (h:ag),eF h c ad→
 bR Tryz.prog 49 [.agg ad] h fun x aa=>x=.int .i64 (size c)∧Ext h aa
 | 0,c,bk,_,_,_,_=>by have:=size_pos c;omega
 | N+1,c,bk,au,ad,h,H=>by
   have oW:=sw c
   obtain ⟨bl,bs,aY,rfl,cX,ea,cQ⟩:=H.open
   have fQ:=FX c.l
   refine Rw rfl (b9 ?_)
   unfold Iy
   have b5:Ext h (h.new (.ar [.int .i64 c.k,.int .i64 c.x,.int .i64 c.n,.str c.s,bl,bs,aY] 0 false)):=(Ext.refl h).new _
   have c2:=(cQ.ext b5).len
   simp +contextual only [c2,↓ai,aq,simprocAttr]
   refine gz (fun r aa=>Ext h aa∧r 7=aY∧r 8=.int .i64 c.l.length∧∃i a:Nat,r 9=.int .i64 i∧i≤c.l.length∧r 3=.int .i64 a∧a+ju (c.l.drop i)=size c) (fun r aa=>c.l.length - (r 9).hf) ?_ ?_
   · exact ⟨b5,by simp only [↓ai,a2,simprocAttr],by simp only [↓ai,a2,simprocAttr],0,1,by simp only [↓ai,a2,simprocAttr]<;>rfl,by omega,by simp only [↓ai,a2,simprocAttr]<;>rfl,by cases c;simp only [size,List.drop_zero,aw.l]⟩
   · rintro r aa ⟨an,fU,iS,i,a,gh,ax,ch,bH⟩
     unfold Iz
     by_cases aS:i<c.l.length
     · have bP:((i:Int) < (c.l.length:Int))=True:=eq_true (by omega)
       obtain ⟨b,o,u,cl,hu,o1⟩:=cQ.rM (k:=.i64) aS
       have c7:=(o1 aa an).1
       rw [List.drop_eq_getElem_cons aS,ju] at bH
       have g9:c.l[i]? =some c.l[i]:=List.getElem?_eq_getElem aS
       have eC:=rl g9
       generalize vh:c.l[i]=f at *
       obtain ⟨cf,ef,cu,rfl,oa,ob,nd⟩:=hu.open
       have gi:=hg aS (by omega)
       have dd:=wrap_add (a:=a) (b:=size f) (by omega)
       have ff:=oa.one.1
       have fT:=ob.one.1
       have gA:=nd.one.1
       have et:Ext aa ((aa.new (.ar [.int .i64 0,.int .i64 0,.int .i64 0,.str [],.aF,.aF,.aF] 0 false)).set (ak aa.next) (.ar [.int .i64 f.k,.int .i64 f.x,.int .i64 f.n,.str f.s,cf,ef,cu] 0 false)):=((Ext.refl aa).new _).set (Nat.le_refl _) _
       simp +contextual only [ch,fU,iS,gh,bP,cl,c7,ff,fT,gA,↓ai,aq,simprocAttr]
       refine bm (N1 N f (by omega) (by omega) _ _ (hu.ext (an.trans et))) ?_
       rintro x bz ⟨rfl,lv⟩
       simp +contextual only [ch,fU,iS,gh,gi,dd,↓ai,aq,simprocAttr]
       exact ⟨⟨(an.trans et).trans lv,i+1,a+size f,rfl,aS,rfl,by omega⟩,by omega⟩
     · have bP:((i:Int) < (c.l.length:Int))=False:=eq_false (by omega)
       rw [List.drop_eq_nil_of_le (by omega),ju] at bH
       simp +contextual only [ch,fU,iS,gh,bP,↓ai,aq,simprocAttr]
       exact ⟨by rw [←bH];rfl,an⟩
theorem ca.empty {B:Nat} {h:ag} (size:Nat) (du:B≤h.next):ca B (h.new (.ar [] 0 false)) size (.slice (ak h.next) 0 0 0) 0 []:=
 ⟨by simp,rfl,by rw [cA];exact du,dC (by rw [cH];omega),Nat.le_refl _,Nat.zero_le _,[],0,false,gT _,by simp,by simp⟩
theorem cF.Se {h:ag} {B size:Nat} {v:V} {n:Nat} {ad:List V} (H:ca B h size v n ad):∀b off l c,v=.slice b off l c→l≤c:=by
 intro b off l c e
 subst e
 obtain ⟨_,rfl,_,_,q,_⟩:=H
 exact q
theorem Ln (l:List Int) (k:Nat):(cC l).take k=cC (l.take k):=by
 induction l generalizing k with
 | nil=>simp [cC]
 | cons x l bb=>cases k<;>simp [cC,bb]
theorem ac3 (b:List Int) (q:At) (a:List At):jw b (q::a)=(if q.k=1∧b.contains q.n=false then [q.n] else [])++jw b a:=by
 unfold jw
 by_cases ab:q.k=1
 · by_cases af:q.n ∈ b
   · simp [List.filter_cons,ab,af]
   · simp [List.filter_cons,ab,af]
 · simp [List.filter_cons,ab]
theorem MB (late:Bool) (x:Int):∀(l:List aw) (j i:Nat) (d:aw),l[i]? =some d→(order d).length + (if (late&&j+i == 1)=true then 1 else 0)≤(hk late x l j).length
 | [],_,_,_,h=>by simp at h
 | c::l,j,0,d,h=>by
   simp only [List.getElem?_cons_zero,Option.some.injEq] at h
   subst h
   simp only [hk,List.length_append,Nat.add_zero]
   split<;>simp<;>omega
 | c::l,j,i+1,d,h=>by
   have:=MB late x l (j+1) i d (by simpa using h)
   simp only [hk,List.length_append]
   rw [show j+1+i=j + (i+1) from by omega] at this
   omega
def nv:List (Int × Int × Nat)→List ig
 | []=>[]
 | (x,v,n)::l=>⟨.int .i64 x,.int .i64 v,n⟩::nv l
def mv (k:Int):List (Int × Int × Nat)→Bool
 | []=>false
 | (x,_,_)::l=>decide (k=x)||mv k l
def kM (k:Int):List (Int × Int × Nat)→Int
 | []=>0
 | (x,v,_)::l=>if k=x then v else kM k l
def rT (k v:Int) (c:Nat):List (Int × Int × Nat)→List (Int × Int × Nat)
 | []=>[(k,v,c)]
 | (x,w,n)::l=>if k=x then (x,v,n)::l else (x,w,n)::rT k v c l
theorem Jo {k:Int}:∀{l:List (Int × Int × Nat)},mv k l=false→kM k l=0
 | [],_=>rfl
 | (x,v,n)::l,h=>by
   simp only [mv,Bool.or_eq_false_iff,decide_eq_false_iff_not] at h
   simp only [kM,if_neg h.1,Jo h.2]
theorem Jp (k v:Int) (c:Nat) (bK:Int):∀l:List (Int × Int × Nat),kM bK (rT k v c l)=if bK=k then v else kM bK l
 | []=>by simp only [rT,kM]
 | (x,w,n)::l=>by
   have bb:=Jp k v c bK l
   by_cases h:k=x
   · subst h
     rw [rT,if_pos rfl,kM,kM]
     split<;>simp_all
   · simp only [rT,if_neg h,kM,bb]
     by_cases aa:bK=x
     · have:¬bK=k:=by omega
       simp only [if_pos aa,if_neg this]
     · simp only [if_neg aa]
theorem J0 {k:Int}:∀(l:List (Int × Int × Nat)),ll ep.int.eq (.int .i64 k) (nv l)=some (if mv k l then some (.int .i64 (kM k l)) else none)
 | []=>rfl
 | (x,v,n)::l=>by
   have bb:=J0 (k:=k) l
   by_cases h:k=x
   · subst h
     rw [show mv k ((k,v,n)::l)=true from by simp [mv],if_pos rfl,show kM k ((k,v,n)::l)=v from by simp [kM]]
     simp only [nv,ll,ep.eq,mA,V.dD,show lk .i64 .i64=true from rfl,cond_true,mz]
     simp
   · rw [show mv k ((x,v,n)::l)=mv k l from by simp [mv,h],show kM k ((x,v,n)::l)=kM k l from by simp [kM,h],←bb]
     simp only [nv,ll,ep.eq,mA,V.dD,show lk .i64 .i64=true from rfl,cond_true,mz]
     rw [decide_eq_false h,cond_false]
theorem MU {k v:Int} {c:Nat}:∀(l:List (Int × Int × Nat)),kx ep.int.eq (.int .i64 k) (.int .i64 v) c (nv l)=some (nv (rT k v c l),!mv k l)
 | []=>rfl
 | (x,w,n)::l=>by
   have bb:=MU (k:=k) (v:=v) (c:=c) l
   simp only [nv,mv,rT,kx,ep.eq,mA,V.dD,show lk .i64 .i64=true from rfl,cond_true,mz] at bb ⊢
   by_cases h:k=x
   · subst h;simp [nv]
   · rw [decide_eq_false h,if_neg h,cond_false,bb]
     simp [nv]
def n' (h:ag) (b:aN) (f:Int→Int):Prop:=∃L c,h.get b=.mp (nv L) c∧∀k,kM k L=f k
theorem n'.look {h:ag} {b:aN} {f:Int→Int} (H:n' h b f) (k:Int):jL ep.int.eq (.int .i64 0) false h (.map b) (.int .i64 k)=some (.int .i64 (f k)):=by
 obtain ⟨L,c,ab,af⟩:=H
 simp only [jL,pT,ab,cp.m0,J0,cond_false,←af k]
 cases e:mv k L with
 | true=>rfl
 | false=>rw [Jo e];rfl
theorem n'.dM {h:ag} {b:aN} {f:Int→Int} (H:n' h b f) (k v:Int):∃B,jR ep.int.eq h (.map b) (.int .i64 k) (.int .i64 v)=some (h.set b B)∧n' (h.set b B) b (fun n=>if n=k then v else f n):=by
 obtain ⟨L,c,ab,af⟩:=H
 refine ⟨.mp (nv (rT k v c L)) (bif !mv k L then c+1 else c),by simp only [jR,ab,cp.m0,MU],_,_,by rw [cM,if_pos rfl],fun n=>?_⟩
 rw [Jp,af]
theorem n'.mod {h aa:ag} {b:aN} {f g:Int→Int} (H:n' h b f) (e:aa.get b=h.get b) (au:∀n,f n=g n):n' aa b g:=by
 obtain ⟨L,c,ab,af⟩:=H
 exact ⟨L,c,e.trans ab,fun k=>(af k).trans (au k)⟩
theorem MW {k:Int} {c:Nat}:∀(l:List Int) (n:Nat),l.contains k=true→kx ep.int.eq (.int .i64 k) (.bool true) c (fY l n)=some (fY l n,false)
 | [],_,h=>by simp at h
 | x::l,n,h=>by
   have bb:=MW (k:=k) (c:=c) l (n+1)
   simp only [fY,kx,ep.eq,mA,V.dD,show lk .i64 .i64=true from rfl,cond_true,mz] at bb ⊢
   by_cases an:k=x
   · subst an;simp
   · rw [decide_eq_false an,cond_false,bb (by simpa [an] using h)]
def mo (l:List Int) (k:Int):List Int:=if l.contains k then l else l++[k]
theorem Zw {l:List Int} {k z:Int}:z ∈ mo l k↔z ∈ l∨z=k:=by
 unfold mo
 split
 · rename_i h
   rw [List.contains_iff_mem] at h
   constructor
   · exact .inl
   · rintro (q | rfl)
     · exact q
     · exact h
 · simp
theorem P4 {l:List Int} {k:Int} (h:l.Nodup):(mo l k).Nodup:=by
 unfold mo
 split
 · exact h
 · rename_i al
   have eK:k ∉ l:=by simpa using al
   rw [List.nodup_append]
   exact ⟨h,by simp,fun a bH b ah=>by simp only [List.mem_singleton] at ah;subst ah;exact fun e=>eK (e ▸ bH)⟩
theorem ac1 {h:ag} {b:aN} {l:List Int} (a1:h.get b=.mp (fY l 0) l.length) (k:Int):jR ep.int.eq h (.map b) (.int .i64 k) (.bool true)=some (h.set b (.mp (fY (mo l k) 0) (mo l k).length)):=by
 cases al:l.contains k with
 | false=>rw [F_ a1 al,mo,if_neg (by rw [al];simp)]
 | true=>
   simp only [jR,a1,cp.m0,MW l 0 al,cond_false]
   rw [mo,if_pos al]
structure mm (ah h:ag) (dx cb cL aE c4:aN) (f:Int→Int) (l:List Int):Prop where
 ext:Ext ah h
 lu:h.get dx=.ar [.map aE] 0 false
 kV:h.get cb=.ar [.map c4] 0 false
 nI:h.get cL=.ar [.func 66 [.ptr dx 0,.ptr cb 0,.ptr cL 0]] 0 false
 b4:∀b,b=dx∨b=cb∨b=cL∨b=aE∨b=c4→Old h b∧ah.next≤cd b
 kY:∀b,b=dx∨b=cb∨b=cL→b≠aE∧b≠c4
 iu:aE≠c4
 ov:n' h aE f
 out:h.get c4=.mp (fY l 0) l.length
 vJ:l.Nodup
def oi (aE c4:aN) (b:aN):Prop:=b=aE∨b=c4
theorem mm.fx {ah h aa:ag} {dx cb cL aE c4:aN} {f:Int→Int} {l:List Int} (S:mm ah h dx cb cL aE c4 f l) (e:Ext h aa):mm ah aa dx cb cL aE c4 f l:=
 ⟨S.ext.trans e,by rw [e.get _ (S.b4 _ (by simp)).1];exact S.lu,by rw [e.get _ (S.b4 _ (by simp)).1];exact S.kV,by rw [e.get _ (S.b4 _ (by simp)).1];exact S.nI,
   fun b ah=>⟨e.b4 (S.b4 b ah).1,(S.b4 b ah).2⟩,S.kY,S.iu,S.ov.mod (e.get _ (S.b4 _ (by simp)).1) fun _=>rfl,by rw [e.get _ (S.b4 _ (by simp)).1];exact S.out,S.vJ⟩
theorem mm.inc {ah h:ag} {dx cb cL aE c4:aN} {f:Int→Int} {l:List Int} (S:mm ah h dx cb cL aE c4 f l) (k v:Int):
 ∃aa,jR ep.int.eq h (.map aE) (.int .i64 k) (.int .i64 v)=some aa∧mm ah aa dx cb cL aE c4 (fun n=>if n=k then v else f n) l∧aa.next=h.next∧∀b,b≠aE→aa.get b=h.get b:=by
 obtain ⟨B,ab,af⟩:=S.ov.dM k v
 have a1:∀b,b≠aE→(h.set aE B).get b=h.get b:=fun b ah=>by rw [cM,if_neg (fun e=>ah e.symm)]
 refine ⟨_,ab,⟨?_,?_,?_,?_,fun b ah=>⟨by have:=(S.b4 b ah).1;unfold Old at this ⊢;rw [fA];exact this,(S.b4 b ah).2⟩,S.kY,S.iu,af,?_,S.vJ⟩,fA _ _ _,a1⟩
 · exact S.ext.jk (M:=fun q=>q=aE) ((Mod.refl (fun q=>q=aE) h).set (fun _=>rfl) _) (fun b ah=>by rw [ah];exact (S.b4 _ (by simp)).2)
 · rw [a1 _ (S.kY _ (by simp)).1];exact S.lu
 · rw [a1 _ (S.kY _ (by simp)).1];exact S.kV
 · rw [a1 _ (S.kY _ (by simp)).1];exact S.nI
 · rw [a1 _ (fun e=>S.iu e.symm)];exact S.out
theorem mm.add {ah h:ag} {dx cb cL aE c4:aN} {f:Int→Int} {l:List Int} (S:mm ah h dx cb cL aE c4 f l) (k:Int):
 ∃aa,jR ep.int.eq h (.map c4) (.int .i64 k) (.bool true)=some aa∧mm ah aa dx cb cL aE c4 f (mo l k)∧aa.next=h.next∧∀b,b≠c4→aa.get b=h.get b:=by
 have ab:=ac1 S.out k
 have a1:∀b,b≠c4→(h.set c4 (.mp (fY (mo l k) 0) (mo l k).length)).get b=h.get b:=fun b ah=>by rw [cM,if_neg (fun e=>ah e.symm)]
 refine ⟨_,ab,⟨?_,?_,?_,?_,fun b ah=>⟨by have:=(S.b4 b ah).1;unfold Old at this ⊢;rw [fA];exact this,(S.b4 b ah).2⟩,S.kY,S.iu,?_,by rw [cM,if_pos rfl],P4 S.vJ⟩,fA _ _ _,a1⟩
 · exact S.ext.jk (M:=fun q=>q=c4) ((Mod.refl (fun q=>q=c4) h).set (fun _=>rfl) _) (fun b ah=>by rw [ah];exact (S.b4 _ (by simp)).2)
 · rw [a1 _ (S.kY _ (by simp)).2];exact S.lu
 · rw [a1 _ (S.kY _ (by simp)).2];exact S.kV
 · rw [a1 _ (S.kY _ (by simp)).2];exact S.nI
 · exact S.ov.mod (a1 _ S.iu) fun _=>rfl
structure iB (ah h:ag) (dx cb cL aE c4:aN) (eb:List V) (aa:ag) (f:Int→Int) (l:List Int):Prop where
 s:mm ah aa dx cb cL aE c4 f l
 m:Mod (oi aE c4) h aa
 n:h.next<aa.next
 b:aa.get (ak h.next)=.ar eb 0 false
 jP:∀b,oi aE c4 b→cd b<h.next
theorem iB.ne {ah h:ag} {dx cb cL aE c4:aN} {eb:List V} {aa:ag} {f:Int→Int} {l:List Int} (F:iB ah h dx cb cL aE c4 eb aa f l):ak h.next≠aE∧ak h.next≠c4:=by
 constructor
 · intro e;have:=F.jP aE (.inl rfl);rw [←e,cA] at this;omega
 · intro e;have:=F.jP c4 (.inr rfl);rw [←e,cA] at this;omega
theorem iB.fx {ah h:ag} {dx cb cL aE c4:aN} {eb:List V} {aa e7:ag} {f:Int→Int} {l:List Int} (F:iB ah h dx cb cL aE c4 eb aa f l) (e:Ext aa e7):iB ah h dx cb cL aE c4 eb e7 f l:=
 ⟨F.s.fx e,F.m.trans (e.mod _),Nat.lt_of_lt_of_le F.n e.next,by rw [e.get _ (dC F.n)];exact F.b,F.jP⟩
theorem iB.inc {ah h:ag} {dx cb cL aE c4:aN} {eb:List V} {aa:ag} {f:Int→Int} {l:List Int} (F:iB ah h dx cb cL aE c4 eb aa f l) (k v:Int):
 ∃e7,jR ep.int.eq aa (.map aE) (.int .i64 k) (.int .i64 v)=some e7∧iB ah h dx cb cL aE c4 eb e7 (fun n=>if n=k then v else f n) l∧Mod (oi aE c4) aa e7∧e7.next=aa.next∧(∀b,b≠aE→e7.get b=aa.get b):=by
 obtain ⟨e7,ab,af,aK,bM⟩:=F.s.inc k v
 have hm:Mod (oi aE c4) aa e7:=⟨by omega,fun b ah aX=>bM b (fun e=>aX (.inl e))⟩
 exact ⟨e7,ab,⟨af,F.m.trans hm,by have:=F.n;omega,by rw [bM _ F.ne.1];exact F.b,F.jP⟩,hm,aK,bM⟩
theorem iB.add {ah h:ag} {dx cb cL aE c4:aN} {eb:List V} {aa:ag} {f:Int→Int} {l:List Int} (F:iB ah h dx cb cL aE c4 eb aa f l) (k:Int):
 ∃e7,jR ep.int.eq aa (.map c4) (.int .i64 k) (.bool true)=some e7∧iB ah h dx cb cL aE c4 eb e7 f (mo l k)∧Mod (oi aE c4) aa e7∧e7.next=aa.next∧(∀b,b≠c4→e7.get b=aa.get b):=by
 obtain ⟨e7,ab,af,aK,bM⟩:=F.s.add k
 have hm:Mod (oi aE c4) aa e7:=⟨by omega,fun b ah aX=>bM b (fun e=>aX (.inr e))⟩
 exact ⟨e7,ab,⟨af,F.m.trans hm,by have:=F.n;omega,by rw [bM _ F.ne.2];exact F.b,F.jP⟩,hm,aK,bM⟩
theorem iB.call {ah h:ag} {dx cb cL aE c4:aN} {eb:List V} {aa e7:ag} {f g:Int→Int} {l m:List Int} (F:iB ah h dx cb cL aE c4 eb aa f l) (s:mm ah e7 dx cb cL aE c4 g m) (hm:Mod (oi aE c4) aa e7):iB ah h dx cb cL aE c4 eb e7 g m:=
 ⟨s,F.m.trans hm,Nat.lt_of_lt_of_le F.n hm.next,by rw [hm.get _ (dC F.n) (fun e=>e.elim F.ne.1 F.ne.2)];exact F.b,F.jP⟩
theorem QL {f:Int→Int} {k:Int} {l:List Int} {m:List Int} (h:m=l++[k]):(fun n=>if n=k then (f k + (l.count k:Int))+1 else f n + (l.count n:Int))=fun n=>f n + (m.count n:Int):=by
 funext n
 subst h
 rw [List.count_append,List.count_singleton]
 by_cases e:n=k
 · subst e;simp;omega
 · have:¬(k == n)=true:=by simpa using fun q=>e q.symm
   rw [if_neg e,if_neg this];simp
theorem S9 {f:Int→Int} {k:Int} {l:List Int} {m:List Int} (h:m=k::l):(fun n=>if n=k then (f k + (m.count k:Int))-1 else f n + (m.count n:Int))=fun n=>f n + (l.count n:Int):=by
 funext n
 subst h
 rw [List.count_cons,List.count_cons]
 by_cases e:n=k
 · subst e;simp;omega
 · have:¬(k == n)=true:=by simpa using fun q=>e q.symm
   rw [if_neg e,if_neg this];simp
theorem Hh {h:ag} {l:List At} {v:V} (H:cF h 3 v l.length (gG l)) {k:IntKind} {i:Nat} (ax:i<l.length) {aa:ag} (e:Ext h aa):
 ∃b off,gy 3 v (.int k i)=some (.ptr b (off+i * 3))∧mR 3 (aa.get b) (off+i * 3)=some (.agg [.int .i64 l[i].k,.int .i64 l[i].n,.str l[i].s]):=by
 obtain ⟨b,o,ab,af,_⟩:=uS (H.ext e) (k:=k) ax
 exact ⟨b,o,ab,af⟩
set_option maxHeartbeats 4000000 in
set_option maxRecDepth 20000 in
theorem Ou:∀(N:Nat) (c:aw),size c≤N→fit 1048576 c→o5 c→∀(ad:List V) (ah:ag),eF ah c ad→∀(h:ag) (dx cb cL aE c4:aN) (f:Int→Int) (l b:List Int),mm ah h dx cb cL aE c4 f l→
 (∀n,0≤f n∧f n + (order c).length≤1000000000)→(∀n,f n=0↔n ∉ b)→
 bR Tryz.prog 66 [.agg ad,.ptr dx 0,.ptr cb 0,.ptr cL 0] h fun x aa=>∃fJ,mm ah aa dx cb cL aE c4 f fJ∧(∀z,z ∈ fJ↔z ∈ l∨z ∈ free c b)∧Mod (oi aE c4) h aa
 | 0,c,bk,_,_,_,_,_,_,_,_,_,_,_,_,_,_,_,_,_=>by have:=size_pos c;omega
 | N+1,c,bk,au,b7,ad,ah,H,h,dx,cb,cL,aE,c4,f,l,b,S,r2,lp=>by
   obtain ⟨f1,f2,f3,f4,f5⟩:=au.kids
   have oW:=sw c
   obtain ⟨bl,bs,aY,rfl,cX,ea,cQ⟩:=H.open
   have xG:(c.k=8→1≤c.l.length)∧c.k≠14∧(dL c.k=true→c.l.length=2)∧pY c.l:=by cases c;exact b7
   obtain ⟨bT,b8,fp,h8⟩:=xG
   have Vu:order c=ownNames c.k c.x c.l++hk (dL c.k) c.x c.l 0:=by cases c;rfl
   have oN:free c b=jw b c.a++hB (dL c.k) c.x c.l (b++ownNames c.k c.x c.l) 0:=by cases c;rfl
   have Vv:=congrArg List.length Vu
   rw [List.length_append] at Vv
   refine RH rfl (b9 ?_)
   unfold IN
   have b5:Ext h (h.new (.ar [.int .i64 c.k,.int .i64 c.x,.int .i64 c.n,.str c.s,bl,bs,aY] 0 false)):=(Ext.refl h).new _
   have Ku:=(cX.ext (S.ext.trans b5)).len
   have KV:∀q,oi aE c4 q→cd q<h.next:=fun q aM=>by
    rcases aM with rfl | rfl
    · exact (S.b4 _ (by simp)).1
    · exact (S.b4 _ (by simp)).1
   have nc:iB ah h dx cb cL aE c4 [.int .i64 c.k,.int .i64 c.x,.int .i64 c.n,.str c.s,bl,bs,aY] (h.new (.ar [.int .i64 c.k,.int .i64 c.x,.int .i64 c.n,.str c.s,bl,bs,aY] 0 false)) f l:=
    ⟨S.fx b5,b5.mod _,by rw [cH];omega,gT _,KV⟩
   simp +contextual only [Ku,↓ai,a2,cr.ends,dS,oneOf,top,↓reduceIte,Nat.reduceEqDiff,Nat.reduceLeDiff,Nat.reduceAdd,Nat.reduceSub,Nat.reduceMul,reduceCtorEq,Int.reduceEq,Int.reduceLT,Int.reduceLE,Int.reduceNeg]
   generalize aeB:h.new (.ar [.int .i64 c.k,.int .i64 c.x,.int .i64 c.n,.str c.s,bl,bs,aY] 0 false)=uB at *
   refine gz (fun r aa=>r 1=.ptr dx 0∧r 2=.ptr cb 0∧r 3=.ptr cL 0∧r 4=.ptr (ak h.next) 0∧r 16=bl∧r 17=.int .i64 c.a.length∧∃(i:Nat) (li:List Int),r 18=.int .i64 i∧i≤c.a.length∧iB ah h dx cb cL aE c4 [.int .i64 c.k,.int .i64 c.x,.int .i64 c.n,.str c.s,bl,bs,aY] aa f li∧
    ∀z,(z ∈ li∨z ∈ jw b (c.a.drop i))↔(z ∈ l∨z ∈ jw b c.a)) (fun r aa=>c.a.length - (r 18).hf) ?_ ?_
   · exact ⟨by simp only [↓ai,a2,↓reduceIte,Nat.reduceEqDiff,reduceCtorEq],by simp only [↓ai,a2,↓reduceIte,Nat.reduceEqDiff,reduceCtorEq],by simp only [↓ai,a2,↓reduceIte,Nat.reduceEqDiff,reduceCtorEq],by simp only [↓ai,a2,↓reduceIte,Nat.reduceEqDiff,reduceCtorEq],by simp only [↓ai,a2,↓reduceIte,Nat.reduceEqDiff,reduceCtorEq],by simp only [↓ai,a2,↓reduceIte,Nat.reduceEqDiff,reduceCtorEq],0,l,by simp only [↓ai,a2,↓reduceIte,Nat.reduceEqDiff,reduceCtorEq]<;>rfl,by omega,nc,fun z=>by rw [List.drop_zero]⟩
   · rintro r g ⟨bf,bV,ch,dr,ye,yf,i,li,yg,ax,F,aV⟩
     unfold IP
     by_cases aS:i<c.a.length
     · have bP:((i:Int) < (c.a.length:Int))=True:=eq_true (by omega)
       obtain ⟨lf,o,cl,gd⟩:=Hh cX (k:=.i64) aS F.s.ext
       have gi:=hg aS (by omega)
       rw [List.drop_eq_getElem_cons aS,ac3] at aV
       generalize c.a[i]=q at *
       have aL:Ext g ((g.new (.ar [.int .i64 0,.int .i64 0,.str []] 0 false)).set (ak g.next) (.ar [.int .i64 q.k,.int .i64 q.n,.str q.s] 0 false)):=((Ext.refl g).new _).set (Nat.le_refl _) _
       have mb:=F.fx aL
       have iQ:=mb.s.ov.look q.n
       obtain ⟨bz,m7,mc,qb,yA,wj⟩:=mb.add q.n
       have vO:∀p,p=dx∨p=cb∨p=cL∨p=aE∨p=c4→cd p<g.next:=fun p aH=>(F.s.b4 p aH).1
       have tS:(ak g.next=dx)=False:=eq_false (fun e=>by have:=vO dx (by simp);rw [←e,cA] at this;omega)
       have tT:(ak g.next=cb)=False:=eq_false (fun e=>by have:=vO cb (by simp);rw [←e,cA] at this;omega)
       have AJ:(g.next=h.next)=False:=eq_false (by have:=F.n;omega)
       by_cases aM:q.k=1
       · have eq:=eq_true aM
         by_cases ao:f q.n=0
         · have Dc:=eq_true ao
           have xD:b.contains q.n=false:=by rw [←Bool.not_eq_true,List.contains_iff_mem];exact (lp _).1 ao
           rw [if_pos ⟨aM,xD⟩] at aV
           simp +contextual only [bf,bV,ch,dr,ye,yf,yg,bP,cl,gd,eq,Dc,iQ,m7,tS,tT,F.s.lu,F.s.kV,gi,↓ai,a2,cr.ends,dS,oneOf,top,↓reduceIte,Nat.reduceEqDiff,Nat.reduceLeDiff,Nat.reduceAdd,Nat.reduceSub,Nat.reduceMul,reduceCtorEq,Int.reduceEq,Int.reduceLT,Int.reduceLE,Int.reduceNeg]
           exact ⟨⟨i+1,mo li q.n,rfl,aS,mc,fun z=>by rw [←aV z,Zw];simp only [List.mem_append,List.mem_singleton];grind⟩,by omega⟩
         · have Dc:=eq_false ao
           have xD:b.contains q.n=true:=by
            rw [List.contains_iff_mem]
            exact Decidable.byContradiction fun e=>ao ((lp _).2 e)
           rw [if_neg (fun p=>by rw [xD] at p;exact absurd p.2 (by simp)),List.nil_append] at aV
           simp +contextual only [bf,bV,ch,dr,ye,yf,yg,bP,cl,gd,eq,Dc,iQ,m7,tS,tT,F.s.lu,F.s.kV,gi,↓ai,a2,cr.ends,dS,oneOf,top,↓reduceIte,Nat.reduceEqDiff,Nat.reduceLeDiff,Nat.reduceAdd,Nat.reduceSub,Nat.reduceMul,reduceCtorEq,Int.reduceEq,Int.reduceLT,Int.reduceLE,Int.reduceNeg]
           exact ⟨⟨i+1,li,rfl,aS,mb,aV⟩,by omega⟩
       · have eq:=eq_false aM
         rw [if_neg (fun p=>aM p.1),List.nil_append] at aV
         simp +contextual only [bf,bV,ch,dr,ye,yf,yg,bP,cl,gd,eq,iQ,m7,tS,tT,F.s.lu,F.s.kV,gi,↓ai,a2,cr.ends,dS,oneOf,top,↓reduceIte,Nat.reduceEqDiff,Nat.reduceLeDiff,Nat.reduceAdd,Nat.reduceSub,Nat.reduceMul,reduceCtorEq,Int.reduceEq,Int.reduceLT,Int.reduceLE,Int.reduceNeg]
         exact ⟨⟨i+1,li,rfl,aS,mb,aV⟩,by omega⟩
     · have bP:((i:Int) < (c.a.length:Int))=False:=eq_false (by omega)
       rw [List.drop_eq_nil_of_le (by omega),show jw b []=[] from rfl] at aV
       simp +contextual only [bf,bV,ch,dr,ye,yf,yg,bP,F.b,↓ai,a2,cr.ends,dS,oneOf,top,↓reduceIte,Nat.reduceEqDiff,Nat.reduceLeDiff,Nat.reduceAdd,Nat.reduceSub,Nat.reduceMul,reduceCtorEq,Int.reduceEq,Int.reduceLT,Int.reduceLE,Int.reduceNeg]
       refine bm (Hk c _ _ (H.ext F.s.ext) au bT b8) ?_
       rintro x bF ⟨f_,et⟩
       have mb:=F.fx et
       have Aj:∀z,z ∈ li↔z ∈ l∨z ∈ jw b c.a:=fun z=>by rw [←aV z];simp
       have tu:∀p,x.a_ p→¬oi aE c4 p:=fun p aG az=>by
        have:=f_.base aG
        have:=KV p az
        have:=F.n
        omega
       have Ec:=f_.v
       have zW:=Ec.len
       have qV:(ownNames c.k c.x c.l).length≤(order c).length:=by omega
       generalize Eb:ownNames c.k c.x c.l=own at *
       have aeN:own.length≤1000000000:=by have:=r2 0;omega
       clear f_ Ku aV bP aS ax yg
       simp +contextual only [zW,↓ai,a2,cr.ends,dS,oneOf,top,↓reduceIte,Nat.reduceEqDiff,Nat.reduceLeDiff,Nat.reduceAdd,Nat.reduceSub,Nat.reduceMul,reduceCtorEq,Int.reduceEq,Int.reduceLT,Int.reduceLE,Int.reduceNeg]
       refine gz (fun r aa=>r 1=.ptr dx 0∧r 2=.ptr cb 0∧r 3=.ptr cL 0∧r 4=.ptr (ak h.next) 0∧r 7=x∧r 38=x∧r 39=.int .i64 own.length∧cF aa 1 x own.length (cC own)∧∃(i:Nat),r 40=.int .i64 i∧i≤own.length∧iB ah h dx cb cL aE c4 [.int .i64 c.k,.int .i64 c.x,.int .i64 c.n,.str c.s,bl,bs,aY] aa (fun n=>f n + ((own.take i).count n:Int)) li) (fun r aa=>own.length - (r 40).hf) ?_ ?_
       · exact ⟨by simp only [bf,↓ai,a2,↓reduceIte,Nat.reduceEqDiff,reduceCtorEq],by simp only [bV,↓ai,a2,↓reduceIte,Nat.reduceEqDiff,reduceCtorEq],by simp only [ch,↓ai,a2,↓reduceIte,Nat.reduceEqDiff,reduceCtorEq],by simp only [dr,↓ai,a2,↓reduceIte,Nat.reduceEqDiff,reduceCtorEq],by simp only [↓ai,a2,↓reduceIte,Nat.reduceEqDiff,reduceCtorEq],by simp only [↓ai,a2,↓reduceIte,Nat.reduceEqDiff,reduceCtorEq],by simp only [↓ai,a2,↓reduceIte,Nat.reduceEqDiff,reduceCtorEq],Ec,0,by simp only [↓ai,a2,↓reduceIte,Nat.reduceEqDiff,reduceCtorEq]<;>rfl,by omega,by simpa using mb⟩
       · clear bf bV ch dr ye yf Ec
         rintro r g ⟨bf,bV,ch,dr,fU,Fx,Fy,an,i,Fz,ax,F⟩
         unfold IQ
         by_cases aS:i<own.length
         · have bP:((i:Int) < (own.length:Int))=True:=eq_true (by omega)
           obtain ⟨lf,o,cl,c7⟩:=ints_at an (k:=.i64) aS
           have gi:=hg aS (by omega)
           have lZ:own.take (i+1)=own.take i++[own[i]]:=by rw [List.take_add_one,List.getElem?_eq_getElem aS];rfl
           generalize own[i]=k at *
           have iQ:=F.s.ov.look k
           have kn:(own.take i).count k≤own.length:=Nat.le_trans List.count_le_length (by rw [List.length_take];omega)
           have KH:=r2 k
           have eE:IntKind.i64.wrap (f k + ((own.take i).count k:Int)+1)=f k + ((own.take i).count k:Int)+1:=wrap_i64 (by omega) (by omega)
           obtain ⟨bz,m7,mc,qb,yA,wj⟩:=F.inc k (f k + ((own.take i).count k:Int)+1)
           rw [QL lZ] at mc
           simp +contextual only [bf,bV,ch,dr,fU,Fx,Fy,Fz,bP,cl,c7,F.s.lu,iQ,eE,m7,gi,↓ai,a2,cr.ends,dS,oneOf,top,↓reduceIte,Nat.reduceEqDiff,Nat.reduceLeDiff,Nat.reduceAdd,Nat.reduceSub,Nat.reduceMul,reduceCtorEq,Int.reduceEq,Int.reduceLT,Int.reduceLE,Int.reduceNeg]
           exact ⟨⟨an.mod qb tu,i+1,rfl,aS,mc⟩,by omega⟩
         · have bP:((i:Int) < (own.length:Int))=False:=eq_false (by omega)
           rw [List.take_of_length_le (by omega)] at F
           have Kw:=(cQ.ext F.s.ext).len
           simp +contextual only [bf,bV,ch,dr,fU,Fx,Fy,Fz,bP,F.b,Kw,↓ai,a2,cr.ends,dS,oneOf,top,↓reduceIte,Nat.reduceEqDiff,Nat.reduceLeDiff,Nat.reduceAdd,Nat.reduceSub,Nat.reduceMul,reduceCtorEq,Int.reduceEq,Int.reduceLT,Int.reduceLE,Int.reduceNeg]
           refine gz (fun r aa=>r 1=.ptr dx 0∧r 2=.ptr cb 0∧r 3=.ptr cL 0∧r 4=.ptr (ak h.next) 0∧r 7=x∧r 50=aY∧r 51=.int .i64 c.l.length∧cF aa 1 x own.length (cC own)∧∃(i:Nat) (li:List Int),r 52=.int .i64 i∧i≤c.l.length∧iB ah h dx cb cL aE c4 [.int .i64 c.k,.int .i64 c.x,.int .i64 c.n,.str c.s,bl,bs,aY] aa (fun n=>f n + (own.count n:Int)) li∧
            ∀z,(z ∈ li∨z ∈ hB (dL c.k) c.x (c.l.drop i) (b++own) i)↔(z ∈ l∨z ∈ free c b)) (fun r aa=>c.l.length - (r 52).hf) ?_ ?_
           · exact ⟨by simp only [bf,↓ai,a2,↓reduceIte,Nat.reduceEqDiff,reduceCtorEq],by simp only [bV,↓ai,a2,↓reduceIte,Nat.reduceEqDiff,reduceCtorEq],by simp only [ch,↓ai,a2,↓reduceIte,Nat.reduceEqDiff,reduceCtorEq],by simp only [dr,↓ai,a2,↓reduceIte,Nat.reduceEqDiff,reduceCtorEq],by simp only [fU,↓ai,a2,↓reduceIte,Nat.reduceEqDiff,reduceCtorEq],by simp only [↓ai,a2,↓reduceIte,Nat.reduceEqDiff,reduceCtorEq],by simp only [↓ai,a2,↓reduceIte,Nat.reduceEqDiff,reduceCtorEq],an,0,li,by simp only [↓ai,a2,↓reduceIte,Nat.reduceEqDiff,reduceCtorEq]<;>rfl,by omega,F,fun z=>by rw [oN,List.drop_zero,Aj z,List.mem_append];grind⟩
           · clear bf bV ch dr fU Fx Fy Fz an F Aj aS bP ax mb zW Kw
             rintro r g ⟨bf,bV,ch,dr,fU,so,sq,an,i,li,m1,ax,F,aV⟩
             unfold IS
             by_cases aS:i<c.l.length
             · have bP:((i:Int) < (c.l.length:Int))=True:=eq_true (by omega)
               obtain ⟨lf,o,u,cl,hu,o1⟩:=cQ.rM (k:=.i64) aS
               have c7:=(o1 g F.s.ext).1
               have gi:=hg aS (by omega)
               rw [List.drop_eq_getElem_cons aS,hB] at aV
               have g9:c.l[i]? =some c.l[i]:=List.getElem?_eq_getElem aS
               have KU:=MB (dL c.k) c.x c.l 0 i _ g9
               have eC:=rl g9
               generalize vh:c.l[i]=d at *
               obtain ⟨cf,ef,cu,rfl,oa,ob,nd⟩:=hu.open
               have ff:=oa.one.1
               have fT:=ob.one.1
               have gA:=nd.one.1
               have aL:Ext g ((g.new (.ar [.int .i64 0,.int .i64 0,.int .i64 0,.str [],.aF,.aF,.aF] 0 false)).set (ak g.next) (.ar [.int .i64 d.k,.int .i64 d.x,.int .i64 d.n,.str d.s,cf,ef,cu] 0 false)):=((Ext.refl g).new _).set (Nat.le_refl _) _
               have mb:=F.fx aL
               have et:=an.ext aL
               have oG:((g.new (.ar [.int .i64 0,.int .i64 0,.int .i64 0,.str [],.aF,.aF,.aF] 0 false)).set (ak g.next) (.ar [.int .i64 d.k,.int .i64 d.x,.int .i64 d.n,.str d.s,cf,ef,cu] 0 false)).next=g.next+1:=by rw [fA,cH]
               have kP:((g.new (.ar [.int .i64 0,.int .i64 0,.int .i64 0,.str [],.aF,.aF,.aF] 0 false)).set (ak g.next) (.ar [.int .i64 d.k,.int .i64 d.x,.int .i64 d.n,.str d.s,cf,ef,cu] 0 false)).get (ak g.next)=.ar [.int .i64 d.k,.int .i64 d.x,.int .i64 d.n,.str d.s,cf,ef,cu] 0 false:=by rw [cM,if_pos rfl]
               have vO:∀p,p=dx∨p=cb∨p=cL∨p=aE∨p=c4→cd p<g.next:=fun p aH=>(F.s.b4 p aH).1
               have tS:(ak g.next=dx)=False:=eq_false (fun e=>by have:=vO dx (by simp);rw [←e,cA] at this;omega)
               have vK:(ak g.next=cL)=False:=eq_false (fun e=>by have:=vO cL (by simp);rw [←e,cA] at this;omega)
               have ZD:ak g.next≠aE:=fun e=>by have:=vO aE (by simp);rw [←e,cA] at this;omega
               have AJ:(g.next=h.next)=False:=eq_false (by have:=F.n;omega)
               have E5:(h.next=g.next)=False:=eq_false (by have:=F.n;omega)
               have en:∀(g:ag) (fn:Int→Int) (li zg:List Int),iB ah h dx cb cL aE c4 [.int .i64 c.k,.int .i64 c.x,.int .i64 c.n,.str c.s,bl,bs,aY] g fn li→(∀n,0≤fn n∧fn n + (order d).length≤1000000000)→(∀n,fn n=0↔n ∉ zg)→
                bR Tryz.prog 66 [.agg [.int .i64 d.k,.int .i64 d.x,.int .i64 d.n,.str d.s,cf,ef,cu],.ptr dx 0,.ptr cb 0,.ptr cL 0] g fun y bz=>∃fJ,iB ah h dx cb cL aE c4 [.int .i64 c.k,.int .i64 c.x,.int .i64 c.n,.str c.s,bl,bs,aY] bz fn fJ∧(∀z,z ∈ fJ↔z ∈ li∨z ∈ free d zg)∧Mod (oi aE c4) g bz:=
                fun g fn li zg F aG az=>(Ou N d (by omega) (oF f5 g9) (AR h8 g9) _ ah hu g dx cb cL aE c4 fn li zg F.s aG az).mono fun y bz ⟨fJ,s1,s2,iT⟩=>⟨fJ,F.call s1 iT,s2,iT⟩
               have zY:∀n,(own.count n:Int)≤own.length:=fun n=>by have:=List.count_le_length (a:=n) (l:=own);omega
               have EA:∀n,f n + (own.count n:Int)=0↔n ∉ b++own:=fun n=>by
                have ab:=lp n
                have af:=(r2 n).1
                have aK:own.count n=0↔n ∉ own:=List.count_eq_zero
                rw [List.mem_append]
                grind
               by_cases jh:dL c.k=true∧i=1
               · obtain ⟨tf,rfl⟩:=jh
                 have oM:(if (dL c.k&&(1:Nat) == 1)=true then b++own++[c.x] else b++own)=b++own++[c.x]:=by
                  rw [if_pos]
                  rw [tf];rfl
                 rw [oM] at aV
                 rw [tf] at KU
                 have aeM:(order d).length+1≤(hk (dL c.k) c.x c.l 0).length:=by rw [tf];exact KU
                 have r1:(decide (c.k=2)||decide (c.k=11))=true:=by simpa [dL] using tf
                 have nF:(((1:Nat):Int)=1)=True:=eq_true rfl
                 have iQ:=mb.s.ov.look c.x
                 have KH:=r2 c.x
                 have rZ:=zY c.x
                 have eE:IntKind.i64.wrap (f c.x + (own.count c.x:Int)+1)=f c.x + (own.count c.x:Int)+1:=wrap_i64 (by omega) (by omega)
                 obtain ⟨bz,m7,mc,qb,yA,wj⟩:=mb.inc c.x (f c.x + (own.count c.x:Int)+1)
                 have lv:=et.mod qb tu
                 have qJ:=(wj _ ZD).trans kP
                 simp +contextual only [bf,bV,ch,dr,fU,so,sq,m1,bP,cl,c7,ff,fT,gA,AJ,E5,tS,vK,nF,F.s.lu,F.b,r1,iQ,eE,m7,mc.b,mc.s.nI,qJ,Bool.and_self,↓ai,a2,cr.ends,dS,oneOf,top,↓reduceIte,Nat.reduceEqDiff,Nat.reduceLeDiff,Nat.reduceAdd,Nat.reduceSub,Nat.reduceMul,reduceCtorEq,Int.reduceEq,Int.reduceLT,Int.reduceLE,Int.reduceNeg]
                 refine bm (en bz _ li (b++own++[c.x]) mc (fun n=>?_) (fun n=>?_)) ?_
                 · have:=r2 n
                   have:=zY n
                   split<;>omega
                 · have ab:=EA n
                   rw [List.mem_append,List.mem_singleton]
                   by_cases e:n=c.x
                   · subst e
                     rw [if_pos rfl]
                     simp
                     omega
                   · rw [if_neg e,ab]
                     simp [e]
                 rintro y b6 ⟨fJ,rC,s2,iT⟩
                 have qZ:=lv.mod iT tu
                 have LO:=rC.s.ov.look c.x
                 rw [if_pos rfl] at LO
                 have di:IntKind.i64.wrap (f c.x + (own.count c.x:Int)+1-1)=f c.x + (own.count c.x:Int):=by rw [wrap_i64 (by omega) (by omega)];omega
                 obtain ⟨fP,bB,GI,a3,a4,a5⟩:=rC.inc c.x (f c.x + (own.count c.x:Int))
                 have UM:(fun n=>if n=c.x then f c.x + (own.count c.x:Int) else if n=c.x then f c.x + (own.count c.x:Int)+1 else f n + (own.count n:Int))=fun n=>f n + (own.count n:Int):=by
                  funext n
                  by_cases e:n=c.x
                  · subst e;rw [if_pos rfl]
                  · rw [if_neg e,if_neg e]
                 rw [UM] at GI
                 simp +contextual only [bf,bV,ch,dr,fU,so,sq,m1,rC.s.lu,rC.b,LO,di,bB,gi,↓ai,a2,cr.ends,dS,oneOf,top,↓reduceIte,Nat.reduceEqDiff,Nat.reduceLeDiff,Nat.reduceAdd,Nat.reduceSub,Nat.reduceMul,reduceCtorEq,Int.reduceEq,Int.reduceLT,Int.reduceLE,Int.reduceNeg]
                 exact ⟨⟨qZ.mod a3 tu,2,fJ,rfl,aS,GI,fun z=>by rw [←aV z,s2 z,List.mem_append];grind⟩,by omega⟩
               · have oM:(if (dL c.k&&i == 1)=true then b++own++[c.x] else b++own)=b++own:=by
                  rw [if_neg]
                  simp only [Bool.and_eq_true,beq_iff_eq]
                  exact jh
                 rw [oM] at aV
                 have r1:(decide ((i:Int)=1)&&(decide (c.k=2)||decide (c.k=11)))=false:=by
                  rw [←Bool.not_eq_true,Bool.and_eq_true,decide_eq_true_eq]
                  exact fun ⟨aG,az⟩=>jh ⟨az,by omega⟩
                 by_cases nF:(i:Int)=1
                 · have bn:=eq_true nF
                   have Uw:(decide (c.k=2)||decide (c.k=11))=false:=by
                    rw [decide_eq_true nF,Bool.true_and] at r1
                    exact r1
                   simp +contextual only [bf,bV,ch,dr,fU,so,sq,m1,bP,cl,c7,ff,fT,gA,AJ,E5,tS,vK,bn,Uw,F.s.lu,F.s.nI,F.b,↓ai,a2,cr.ends,dS,oneOf,top,↓reduceIte,Nat.reduceEqDiff,Nat.reduceLeDiff,Nat.reduceAdd,Nat.reduceSub,Nat.reduceMul,reduceCtorEq,Int.reduceEq,Int.reduceLT,Int.reduceLE,Int.reduceNeg]
                   refine bm (en _ _ li (b++own) mb (fun n=>?_) EA) ?_
                   · have:=r2 n
                     have:=zY n
                     omega
                   rintro y b6 ⟨fJ,rC,s2,iT⟩
                   simp +contextual only [bf,bV,ch,dr,fU,so,sq,m1,gi,↓ai,a2,cr.ends,dS,oneOf,top,↓reduceIte,Nat.reduceEqDiff,Nat.reduceLeDiff,Nat.reduceAdd,Nat.reduceSub,Nat.reduceMul,reduceCtorEq,Int.reduceEq,Int.reduceLT,Int.reduceLE,Int.reduceNeg]
                   exact ⟨⟨et.mod iT tu,i+1,fJ,rfl,aS,rC,fun z=>by rw [←aV z,s2 z,List.mem_append];grind⟩,by omega⟩
                 · have bn:=eq_false nF
                   simp +contextual only [bf,bV,ch,dr,fU,so,sq,m1,bP,cl,c7,ff,fT,gA,AJ,E5,tS,vK,bn,F.s.lu,F.s.nI,F.b,↓ai,a2,cr.ends,dS,oneOf,top,↓reduceIte,Nat.reduceEqDiff,Nat.reduceLeDiff,Nat.reduceAdd,Nat.reduceSub,Nat.reduceMul,reduceCtorEq,Int.reduceEq,Int.reduceLT,Int.reduceLE,Int.reduceNeg]
                   refine bm (en _ _ li (b++own) mb (fun n=>?_) EA) ?_
                   · have:=r2 n
                     have:=zY n
                     omega
                   rintro y b6 ⟨fJ,rC,s2,iT⟩
                   simp +contextual only [bf,bV,ch,dr,fU,so,sq,m1,gi,↓ai,a2,cr.ends,dS,oneOf,top,↓reduceIte,Nat.reduceEqDiff,Nat.reduceLeDiff,Nat.reduceAdd,Nat.reduceSub,Nat.reduceMul,reduceCtorEq,Int.reduceEq,Int.reduceLT,Int.reduceLE,Int.reduceNeg]
                   exact ⟨⟨et.mod iT tu,i+1,fJ,rfl,aS,rC,fun z=>by rw [←aV z,s2 z,List.mem_append];grind⟩,by omega⟩
             · have bP:((i:Int) < (c.l.length:Int))=False:=eq_false (by omega)
               rw [List.drop_eq_nil_of_le (by omega),hB] at aV
               have Aj:∀z,z ∈ li↔z ∈ l∨z ∈ free c b:=fun z=>by rw [←aV z];simp
               have zW:=an.len
               simp +contextual only [bf,bV,ch,dr,fU,so,sq,m1,bP,zW,↓ai,a2,cr.ends,dS,oneOf,top,↓reduceIte,Nat.reduceEqDiff,Nat.reduceLeDiff,Nat.reduceAdd,Nat.reduceSub,Nat.reduceMul,reduceCtorEq,Int.reduceEq,Int.reduceLT,Int.reduceLE,Int.reduceNeg]
               refine gz (fun r aa=>r 1=.ptr dx 0∧r 85=x∧r 86=.int .i64 own.length∧cF aa 1 x own.length (cC own)∧∃(i:Nat),r 87=.int .i64 i∧i≤own.length∧iB ah h dx cb cL aE c4 [.int .i64 c.k,.int .i64 c.x,.int .i64 c.n,.str c.s,bl,bs,aY] aa (fun n=>f n + ((own.drop i).count n:Int)) li) (fun r aa=>own.length - (r 87).hf) ?_ ?_
               · exact ⟨by simp only [bf,↓ai,a2,↓reduceIte,Nat.reduceEqDiff,reduceCtorEq],by simp only [↓ai,a2,↓reduceIte,Nat.reduceEqDiff,reduceCtorEq],by simp only [↓ai,a2,↓reduceIte,Nat.reduceEqDiff,reduceCtorEq],an,0,by simp only [↓ai,a2,↓reduceIte,Nat.reduceEqDiff,reduceCtorEq]<;>rfl,by omega,by simpa using F⟩
               · clear bf bV ch dr fU so sq m1 an F ax aS bP
                 rintro r g ⟨bf,Nd,Nf,an,i,Ng,ax,F⟩
                 unfold IT
                 by_cases aS:i<own.length
                 · have bP:((i:Int) < (own.length:Int))=True:=eq_true (by omega)
                   obtain ⟨lf,o,cl,c7⟩:=ints_at an (k:=.i64) aS
                   have gi:=hg aS (by omega)
                   have lZ:=List.drop_eq_getElem_cons aS
                   generalize own[i]=k at *
                   have iQ:=F.s.ov.look k
                   have kn:(own.drop i).count k≤own.length:=Nat.le_trans List.count_le_length (by rw [List.length_drop];omega)
                   have rZ:1≤(own.drop i).count k:=by rw [lZ,List.count_cons_self];omega
                   have KH:=r2 k
                   have eE:IntKind.i64.wrap (f k + ((own.drop i).count k:Int)-1)=f k + ((own.drop i).count k:Int)-1:=wrap_i64 (by omega) (by omega)
                   obtain ⟨bz,m7,mc,qb,yA,wj⟩:=F.inc k (f k + ((own.drop i).count k:Int)-1)
                   rw [S9 lZ] at mc
                   simp +contextual only [bf,Nd,Nf,Ng,bP,cl,c7,F.s.lu,iQ,eE,m7,gi,↓ai,a2,cr.ends,dS,oneOf,top,↓reduceIte,Nat.reduceEqDiff,Nat.reduceLeDiff,Nat.reduceAdd,Nat.reduceSub,Nat.reduceMul,reduceCtorEq,Int.reduceEq,Int.reduceLT,Int.reduceLE,Int.reduceNeg]
                   exact ⟨⟨an.mod qb tu,i+1,rfl,aS,mc⟩,by omega⟩
                 · have bP:((i:Int) < (own.length:Int))=False:=eq_false (by omega)
                   rw [List.drop_eq_nil_of_le (by omega)] at F
                   have UP:(fun n=>f n + (([]:List Int).count n:Int))=f:=by funext n;simp
                   rw [UP] at F
                   simp +contextual only [bf,Nd,Nf,Ng,bP,↓ai,a2,cr.ends,dS,oneOf,top,↓reduceIte,Nat.reduceEqDiff,Nat.reduceLeDiff,Nat.reduceAdd,Nat.reduceSub,Nat.reduceMul,reduceCtorEq,Int.reduceEq,Int.reduceLT,Int.reduceLE,Int.reduceNeg]
                   exact ⟨li,F.s,Aj,F.m⟩
mutual
def vars:aw→Prop
 | .mk k x n s a t l=>(∀q ∈ a,q.k=1→eN q.n=true)∧wk l
def wk:List aw→Prop
 | []=>True
 | c::cs=>vars c∧wk cs
end
theorem OD {a:List At} (h:a.all e5=true):∀q ∈ a,q.k=1→eN q.n=true:=by
 intro q aM al
 have:=List.all_eq_true.1 h q aM
 rw [e5,if_pos al,Bool.and_eq_true] at this
 exact this.1
theorem MG {b:Bool} {c:aw} (h:cx b c=true):c.a.all e5=true:=by
 unfold cx at h
 split at h
 · cases h
 · simp only [Bool.and_eq_true] at h
   exact h.2
theorem aax {b:Bool} {c:aw} (cn:c.k=7) (h:cx b c=true):c.l.length=1:=by
 unfold cx at h
 have:d_ c.k=some ⟨true,false,false,false,0,0,1,1⟩:=by rw [cn];rfl
 rw [this] at h
 simp only [Bool.and_eq_true,qe,decide_eq_true_eq] at h
 have:=h.1.1.2.1.2
 omega
mutual
theorem BF:∀(c:aw),may cx c=true→vars c
 | .mk k x n s a t l,h=>by
   simp only [may] at h
   by_cases al:k=8
   · rw [if_pos al] at h
     simp only [Bool.and_eq_true,decide_eq_true_eq,sU] at h
     refine ⟨fun q aM=>?_,OF l h.2⟩
     have:a=[]:=h.1.1.2
     rw [this] at aM;cases aM
   · rw [if_neg al] at h
     simp only [Bool.and_eq_true] at h
     exact ⟨OD (MG h.1),OE l h.2⟩
theorem OE:∀(l:List aw),h' cx l=true→wk l
 | [],_=>trivial
 | c::cs,h=>by
   simp only [h',Bool.and_eq_true] at h
   exact ⟨BF c h.1,OE cs h.2⟩
theorem OF:∀(l:List aw),fy cx l=true→wk l
 | [],_=>trivial
 | [c],h=>by
   simp only [fy] at h
   exact ⟨BF c h,trivial⟩
 | c::d::cs,h=>by
   have aa:((decide (c.k=7)&&cx true c)&&ir cx c&&fy cx (d::cs))=true:=by simpa only [fy] using h
   simp only [Bool.and_eq_true,decide_eq_true_eq] at aa
   exact ⟨ac8 c aa.1.1.1 aa.1.1.2 aa.1.2,OF (d::cs) aa.2⟩
theorem ac8:∀(c:aw),c.k=7→cx true c=true→ir cx c=true→vars c
 | .mk k x n s a t l,cn,bt,h=>by
   exact ⟨OD (MG bt),ac9 l (aax cn bt) (by simpa only [ir] using h)⟩
theorem ac9:∀(l:List aw),l.length=1→mX cx l=true→wk l
 | [c],_,h=>⟨BF c (by simpa only [mX] using h),trivial⟩
 | [],aB,_=>by simp at aB
 | _::_::_,aB,_=>by simp at aB
end
theorem Zx {b:List Int} {a:List At} {z:Int} (h:z ∈ jw b a):∃q ∈ a,q.k=1∧q.n=z:=by
 unfold jw at h
 obtain ⟨q,ab,af⟩:=List.mem_map.1 h
 obtain ⟨aK,bM⟩:=List.mem_filter.1 ab
 simp only [Bool.and_eq_true,decide_eq_true_eq] at bM
 exact ⟨q,aK,bM.1,af⟩
mutual
theorem L6:∀(c:aw) (b:List Int) (z:Int),vars c→z ∈ free c b→eN z=true
 | .mk k x n s a t l,b,z,a6,h=>by
   simp only [free,List.mem_append] at h
   rcases h with h | h
   · obtain ⟨q,aG,az,rfl⟩:=Zx h
     exact a6.1 q aG az
   · exact L7 l _ _ _ _ z a6.2 h
theorem L7:∀(l:List aw) (late:Bool) (x:Int) (b:List Int) (i:Nat) (z:Int),wk l→z ∈ hB late x l b i→eN z=true
 | [],_,_,_,_,_,_,h=>by simp [hB] at h
 | c::cs,late,x,b,i,z,a6,h=>by
   simp only [hB,List.mem_append] at h
   rcases h with h | h
   · exact L6 c _ z a6.1 h
   · exact L7 cs late x b (i+1) z a6.2 h
end
def lM:List At→Nat
 | []=>0
 | q::a=>q.s.length / 100+lM a
mutual
def wt:aw→Nat
 | .mk k x n s a t l=>1+a.length+t.length+s.length / 100+lM a+gj l
def gj:List aw→Nat
 | []=>0
 | c::cs=>wt c+gj cs
end
mutual
theorem Bq:∀c:aw,size c≤wt c
 | .mk k x n s a t l=>by
   have:=FY l
   simp only [size,wt]
   omega
theorem FY:∀l:List aw,ju l≤gj l
 | []=>Nat.le_refl _
 | c::cs=>by
   have:=Bq c
   have:=FY cs
   simp only [ju,gj]
   omega
end
theorem ac4 (b:List Int) (a:List At):(jw b a).length≤a.length:=by
 unfold jw
 rw [List.length_map]
 exact List.length_filter_le _ _
mutual
theorem J':∀(c:aw) (b:List Int),(free c b).length≤wt c
 | .mk k x n s a t l,b=>by
   have ab:=ac4 b a
   have af:=J_ l (dL k) x (b++ownNames k x l) 0
   simp only [free,wt,List.length_append]
   omega
theorem J_:∀(l:List aw) (late:Bool) (x:Int) (b:List Int) (i:Nat),(hB late x l b i).length≤gj l
 | [],_,_,_,_=>by simp [hB,gj]
 | c::cs,late,x,b,i=>by
   have ab:=J' c (if late&&i == 1 then b++[x] else b)
   have af:=J_ cs late x b (i+1)
   simp only [hB,gj,List.length_append]
   omega
end
theorem adC:∀l:List aw,l.length≤gj l:=fun l=>by have:=FX l;have:=FY l;omega
theorem He:∀{a:List At} {q:At},q ∈ a→q.s.length / 100≤lM a
 | [],_,h=>by cases h
 | p::a,q,h=>by
   simp only [lM]
   rcases List.mem_cons.1 h with rfl | h
   · omega
   · have:=He h;omega
mutual
theorem pA:∀(c:aw),wt c≤400→fit 1048576 c
 | .mk k x n s a t l,h=>by
   simp only [wt] at h
   have:=adC l
   refine ⟨by omega,by omega,by omega,by omega,fun q aM=>?_,J5 l (by omega)⟩
   have:=He aM
   omega
theorem J5:∀(l:List aw),gj l≤400→fits 1048576 l
 | [],_=>trivial
 | c::cs,h=>by
   simp only [gj] at h
   exact ⟨pA c (by omega),J5 cs (by omega)⟩
end
def IU:bL:=
 .seq (.aj [eV 1 0,⟨some 2,.fz (.c .jl),none,[]⟩])
 (.seq (.aj [⟨some 3,.fn 129 [(.t 1)],none,[1]⟩,ae 2 3])
 (.ret))
theorem RI:cE 68 4 [.t 2] IU:=cK Tryz.func68 (by kernel_rfl) (by kernel_rfl) rfl (by kernel_rfl) (by kernel_rfl)
theorem Lu:∀(l:List Int) (n:Nat),l2 (fY l n)=some l
 | [],_=>rfl
 | x::l,n=>by simp only [fY,l2,Lu l (n+1)]
theorem L4 {x:Int}:∀l:List Int,vG x l=l.contains x
 | []=>rfl
 | y::l=>by
   rw [vG,L4 l,List.contains_cons,mz]
   congr 1
theorem ZK {l:List Int} (h:l.Nodup):si l=true:=by
 induction l with
 | nil=>rfl
 | cons x l bb=>
   obtain ⟨ab,af⟩:=List.nodup_cons.1 h
   rw [si,bb af,L4]
   simp [ab]
theorem Ho:∀(l:List Int) (n bU c:Nat),bU≤n→n+l.length≤c→rN c bU (fY l n)=true
 | [],_,_,_,_,_=>rfl
 | x::l,n,bU,c,ab,af=>by
   simp only [List.length_cons] at af
   rw [fY,rN,Ho l (n+1) (n+1) c (Nat.le_refl _) (by omega)]
   have bB:Nat.ble bU n=true:=by rw [Nat.ble_eq];exact ab
   have bJ:Nat.blt n c=true:=by rw [Nat.blt_eq];omega
   simp only [bB,bJ];rfl
theorem adk {z:Int} (h:eN z=true):(Lit.int .i64 z).wf=true:=by
 simp only [eN,Bool.and_eq_true,decide_eq_true_eq] at h
 simp only [Lit.wf,Bool.and_eq_true,decide_eq_true_eq]
 have bB:IntKind.i64.min=-9223372036854775808:=by decide
 have bJ:IntKind.i64.max=9223372036854775807:=by decide
 rw [bB,bJ]
 omega
theorem adj {l:List Int} (h:∀z ∈ l,eN z=true):sD l=true:=by
 induction l with
 | nil=>rfl
 | cons x l bb=>
   rw [sD,adk (h x (by simp)),bb fun z aV=>h z (by simp [aV])]
   rfl
theorem JR:∀(l:List Int) (n:Nat),(fY l n).length=l.length
 | [],_=>rfl
 | x::l,n=>by simp only [fY,List.length_cons,JR l (n+1)]
theorem aci {h:ag} {lf b:aN} {l:List Int} (ab:h.get lf=.ar [.map b] 0 false) (af:h.get b=.mp (fY l 0) l.length) (aX:l.Nodup) (a6:∀z ∈ l,eN z=true) (aB:l.length≤1000000):
 bR Tryz.prog 67 [.func 129 [.ptr lf 0]] h fun x aa=>ca h.next aa 1 x l.length (cC (hc l))∧Ext h aa:=by
 have aH:(hc l).length=l.length:=(p6 l).length_eq
 have key:∃v aa,(yq 129).run [.func 129 [.ptr lf 0]] h=.val v aa∧ca h.next aa 1 v l.length (cC (hc l))∧Ext h aa:=by
  have e:(yq 129).run [.func 129 [.ptr lf 0]] h=Bu 129 lf h:=rfl
  rw [e]
  unfold Bu
  rw [ab]
  change ∃v aa,(match h.get b with
   | .mp es clock=>(match l2 es with
     | some ay=>bif si ay&&rN clock 0 es&&sD ay&&Nat.ble es.length 1000000 then (match hc ay with
        | []=>bh.val .aF h
        | x::l=>(match jN h (cC (x::l)) 1 false with
          | some aa=>bh.val (.dp (ak h.next) 0 (x::l).length 0) aa
          | none=>bh.fail)) else bh.fail
     | none=>bh.fail)
   | _=>bh.fail)=bh.val v aa∧_
  rw [af]
  simp only [Lu,ZK aX,Ho l 0 0 l.length (Nat.le_refl _) (by omega),adj a6,JR,show Nat.ble l.length 1000000=true from by rw [Nat.ble_eq];exact aB,Bool.and_self,cond_true]
  cases bk:hc l with
  | nil=>
    rw [bk] at aH
    exact ⟨_,_,rfl,⟨by simp [cC,←aH],aH.symm⟩,Ext.refl _⟩
  | cons x m=>
    rw [bk] at aH
    have hlen:(cC (x::m)).length=l.length:=by rw [j6,aH]
    have bo:jN h (cC (x::m)) 1 false=some (h.new (.ar (cC (x::m)) 1 false)):=by
     unfold jN
     rw [show (Nat.ble (cC (x::m)).length top&&Nat.ble 1 1)=true from by rw [Bool.and_eq_true,Nat.ble_eq,Nat.ble_eq,hlen];unfold top;omega]
     rfl
    simp only [bo,aH]
    refine ⟨_,_,rfl,?_,(Ext.refl h).new _⟩
    exact ca.grown (by rw [hlen];omega) (Nat.le_refl _)
 obtain ⟨v,aa,he,aG,az⟩:=key
 exact ⟨v,aa,.inl ⟨⟨_,Tryz.func67,by kernel_rfl⟩,fun aJ E w xs an s=>N' Tryz.underlying3 N9 he aJ E w xs an s⟩,aG,az⟩
theorem X0 (b:aN) (h:ag):bR Tryz.prog 68 [.map b] h fun x aa=>x=.func 129 [.ptr (ak h.next) 0]∧aa.get (ak h.next)=.ar [.map b] 0 false∧Ext h aa:=by
 refine RI rfl (b9 ?_)
 unfold IU
 simp +contextual only [↓ai,aq,simprocAttr]
 exact (Ext.refl h).new _
theorem E_:∀{l m:List Int},l.Nodup→(∀z ∈ l,z ∈ m)→l.length≤m.length
 | [],_,_,_=>by simp
 | x::l,m,aX,h=>by
   obtain ⟨ab,af⟩:=List.nodup_cons.1 aX
   have an:=h x (by simp)
   have:=E_ (l:=l) (m:=m.erase x) af fun z aV=>(List.mem_erase_of_ne (show z≠x from fun e=>ab (by rw [←e];exact aV))).2 (h z (by simp [aV]))
   rw [List.length_erase_of_mem an] at this
   have:=List.length_pos_of_mem an
   simp only [List.length_cons]
   omega
theorem PB (c:aw) (ad:List V) (h:ag) (H:eF h c ad) (hw:wt c≤400) (hm:may cx c=true) (b7:o5 c):
 bR Tryz.prog 46 [.agg ad] h fun x aa=>ca h.next aa 1 x (rising (free c [])).length (cC (rising (free c [])))∧Ext h aa:=by
 obtain ⟨bl,bs,aY,rfl,cX,ea,cQ⟩:=H.open
 have au:=pA c hw
 refine Rv rfl (b9 ?_)
 unfold Ix
 simp +contextual only [show ∀g:ag,nW none g=.val (.map (ak g.next)) (g.new (.mp [] 0)) from fun g=>rfl,↓ai,aq,simprocAttr]
 refine bm (Ou (size c) c (Nat.le_refl _) au b7 _ h H _ _ _ _ (ak (h.next+1+2)) (ak (h.next+1)) (fun _=>0) [] [] ?S ?B ?Z) ?K
 case S=>
  have tV:∀n:Nat,(n+1=n)=False:=fun n=>eq_false (by omega)
  have tW:∀n:Nat,(n+1+1=n)=False:=fun n=>eq_false (by omega)
  have tX:∀n:Nat,(n+1+1+1=n)=False:=fun n=>eq_false (by omega)
  have tY:∀n:Nat,(n+1+1+1+1=n)=False:=fun n=>eq_false (by omega)
  refine ⟨?_,?_,?_,?_,?_,?_,?_,⟨[],0,?_,fun _=>rfl⟩,?_,List.nodup_nil⟩
  · exact ((((((((((Ext.refl h).new _).new _).new _).set (by omega) _).new _).new _).set (by omega) _).new _).set (by omega) _)
  · simp [cM,dT,cH,fA,gg,tV,tW,tX,tY]
  · simp [cM,dT,cH,fA,gg,tV,tW,tX,tY]
  · simp [cM,dT,cH,fA,gg,tV,tW,tX,tY]
  · rintro b (rfl | rfl | rfl | rfl | rfl)<;>exact ⟨by unfold Old;simp only [cA,fA,cH];omega,by rw [cA];omega⟩
  · rintro b (rfl | rfl | rfl)<;>simp only [ne_eq,gg]<;>omega
  · simp only [ne_eq,gg];omega
  · simp [cM,dT,cH,fA,gg,nv,tV,tW,tX,tY]
  · simp [cM,dT,cH,fA,gg,fY,tV,tW,tX,tY]
 case B=>
  intro n
  have:=Fm c
  have:=Bq c
  omega
 case Z=>intro n;simp
 case K=>
  rintro x aa ⟨fJ,S,aV,aeI⟩
  simp +contextual only [S.kV,↓ai,aq,simprocAttr]
  refine bm (X0 _ aa) ?_
  rintro y af ⟨rfl,bF,bo⟩
  have mi:=S.fx bo
  have ga:∀z,z ∈ fJ↔z ∈ free c []:=fun z=>by rw [aV z];simp
  have hlen:fJ.length≤(free c []).length:=E_ S.vJ (fun z q=>(ga z).1 q)
  have im:=J' c []
  simp +contextual only [↓ai,aq,simprocAttr]
  refine bm (aci bF mi.out S.vJ (fun z q=>L6 c [] z (BF c hm) ((ga z).1 q)) (by omega)) ?_
  rintro y aK ⟨O,c6⟩
  have aT:hc fJ=rising (free c []):=acj (Bt fJ) (p6 fJ) S.vJ ga
  have fQ:fJ.length=(rising (free c [])).length:=by rw [←aT,(p6 fJ).length_eq]
  rw [aT,fQ] at O
  simp +contextual only [↓ai,aq,simprocAttr]
  exact ⟨O.mono (mi.ext.next),mi.ext.trans c6⟩
end Go.Proofs.YtjbiefneffiogaaGreat
namespace Go.Proofs.YtjbiefneffiogaaGreat
open Go ba Go.Sort
theorem aaP {l:List Int} {c:Array Value} {o:Nat} (h:o+l.length≤c.size):Go.Sort.putCells (Value.int .i64) o l.toArray c=nT c o (l.map (Value.int .i64)):=by
 apply Array.ext_getElem?
 intro j
 rw [Au _ _ _ _ (by rw [List.length_map];exact h),List.length_map]
 unfold Go.Sort.putCells
 rw [Array.getElem?_mapIdx]
 by_cases bC:o≤j∧j<o+l.length
 · rw [if_pos bC,List.getElem?_map]
   have z6:j<c.size:=by omega
   have jF:j-o<l.length:=by omega
   simp only [Array.getElem?_eq_getElem z6,Option.map_some,List.size_toArray,if_pos bC,List.getElem?_eq_getElem jF,Option.some.injEq,Value.int.injEq,true_and]
   simp [jF]
 · rw [if_neg bC]
   cases aA:c[j]? with
   | none=>rfl
   | some y=>simp only [Option.map_some,List.size_toArray,if_neg bC]
theorem N7 {h aa:ag} {b:aN} {off:Nat} {l:List Int} {ad:List V} {cw:Nat} {st:Bool} (a1:h.get b=.ar ad cw st) (j4:(ad.drop off).take l.length=cC l) (aB:off+l.length≤ad.length) (h7:l.length<4611686018427387904)
 (he:ba.lay h b off (cC (hc l))=some aa) {v:V} (a6:(∃cap,v=.slice b off l.length cap)∨∃idx,v=.dp b off l.length idx):ma Tryz.prog 51 [v] h (.tuple []) aa:=by
 refine .inl ⟨⟨_,Tryz.func51,by kernel_rfl⟩,fun aJ E w xs an s=>?_⟩
 simp only [bA] at an
 obtain ⟨X,_,rfl,e9,rfl⟩:=an
 have Um:∃p cap,E b=some p∧X=.slice (some ⟨p.a_,p.base+off,none⟩) l.length cap:=by
  rcases a6 with ⟨cap,rfl⟩ | ⟨idx,rfl⟩
  · simp only [Rel] at e9
    obtain ⟨p,ab,_,af⟩:=e9
    exact ⟨p,_,ab,af⟩
  · simp only [Rel] at e9
    obtain ⟨p,ab,_,af⟩:=e9
    exact ⟨p,_,ab,af⟩
 obtain ⟨p,cap,aH,rfl⟩:=Um
 have ah:=s.at aH
 rw [a1] at ah
 obtain ⟨aX,q,c,el,b3,ab,af,aK,bM,e8,fZ,cn⟩:=ah
 rw [aH] at ab;cases ab
 have aS:=(Array.getElem?_eq_some_iff.1 aK).1
 have aeE:p.base+ad.length≤c.size:=cn.1
 have pC:Go.Sort.Holds (Value.int .i64) w p.a_ (p.base+off) l.toArray:=by
  intro j bC
  have z2:j<l.length:=by simpa using bC
  have z6:p.base + (off+j)<c.size:=by omega
  have jI:=cn.2 (off+j) c[p.base + (off+j)] (by omega) (Array.getElem?_eq_getElem z6)
  have qN:ad[off+j]? =some (.int .i64 l[j]):=by
   have e:((ad.drop off).take l.length)[j]? =(cC l)[j]? :=by rw [j4]
   rw [List.getElem?_take_of_lt z2,List.getElem?_drop] at e
   rw [e]
   simp [cC,z2]
  have DT:T.get .bad (ak (off+j)) (fC .e 0 ad)=.int .i64 l[j]:=by
   have:=zQ ad 0 (off+j) .e
   rw [Nat.zero_add] at this
   rw [this,if_pos (by omega),qN];rfl
  rw [DT] at jI
  simp only [Rel] at jI
  constructor
  · simp only [World.cell?,aK]
    rw [show p.base+off+j=p.base + (off+j) from by omega,Array.getElem?_eq_getElem z6,jI]
    simp [z2]
  · simp only [World.frozen?,aK]
    rw [Bool.and_eq_false_iff]
    simp only [decide_eq_false_iff_not]
    omega
 refine (AnyM.slices_Sort_int Tryz.Bs p.a_ (p.base+off) cap l w pC aS h7).mono fun e aC q=>?_
 obtain ⟨rfl,n,os,rfl⟩:=q
 rw [N6 (List.Perm.refl l)]
 have oW:(hc l).length=l.length:=(p6 l).length_eq
 obtain ⟨eE,bf,s1⟩:=vA (P:=Tryz.prog) s (EJ E (hc l)) he aH
 have bV:=Bo (P:=Tryz.prog) aS el b3 (p.base+off) ((hc l).map encZ) c 0 (fun v a6=>by
  obtain ⟨z,_,rfl⟩:=List.mem_map.1 a6
  rfl) (by rw [List.length_map];omega) bM
 rw [Gk aK,Nat.add_zero] at bV
 rw [bV] at bf
 have We:eE=kC w p.a_ (nT c (p.base+off) ((hc l).map encZ)) el b3:=by injection bf with _ e;exact e.symm
 subst We
 refine ⟨E,_,rfl,fun _ _ q=>q,by simp only [Rel];exact ⟨_,rfl,rfl⟩,s1.below ⟨rfl,rfl,rfl,?_,fun k al=>?_⟩⟩
 · simp only [size_grow,BG,putRow,mapBlock,Sort.ahead,Array.size_modify];omega
 · rw [BG] at al
   have aL:(grow (putRow (Value.int .i64) (Sort.ahead w n) p.a_ (p.base+off) (hc l).toArray) os).heap[k]? =(putRow (Value.int .i64) (Sort.ahead w n) p.a_ (p.base+off) (hc l).toArray).heap[k]? :=by
    simp only [grow]
    rw [Array.getElem?_append_left]
    simp only [putRow,mapBlock,Sort.ahead,Array.size_modify]
    exact al
   rw [aL]
   simp only [putRow,mapBlock,Sort.ahead,Array.getElem?_modify]
   by_cases D1:p.a_=k
   · subst D1
     rw [if_pos rfl,aK,yD aS]
     simp only [Option.map_some,onCells]
     rw [aaP (by omega)]
   · rw [if_neg D1,Gj _ _ _ (fun e=>D1 e.symm)]
theorem N_ {A B:List V} (h:B.length=A.length):hd A 0 B=B:=by
 unfold hd
 rw [List.take_zero,List.nil_append,Nat.zero_add,List.drop_eq_nil_of_le (by omega),List.append_nil]
theorem acg {B:Nat} {h:ag} {v:V} {l:List Int} (O:ca B h 1 v l.length (cC l)) (aB:l.length≤8000000):
 bR Tryz.prog 51 [v] h fun x aa=>x=.tuple []∧ca B aa 1 v l.length (cC (hc l))∧Mod v.a_ h aa:=by
 have bk:(hc l).length=l.length:=(p6 l).length_eq
 have kT:(cC (hc l)).length=l.length:=by rw [j6,bk]
 obtain ⟨aG,az⟩:=O
 cases v<;>simp only at az<;>try (exact az.elim)
 case aF=>
  have:l=[]:=List.eq_nil_of_length_eq_zero az
  subst this
  refine ⟨_,h,.inl ⟨⟨_,Tryz.func51,by kernel_rfl⟩,fun aJ E w xs an s=>?_⟩,rfl,⟨rfl,rfl⟩,Mod.refl _ _⟩
  simp only [bA,Rel] at an
  obtain ⟨X,_,rfl,rfl,rfl⟩:=an
  refine (AnyM.slices_Sort_int_none Tryz.Bs none 0 w).mono fun e aC q=>?_
  obtain ⟨rfl,rfl⟩:=q
  exact ⟨E,_,rfl,fun _ _ q=>q,by simp only [Rel];exact ⟨_,rfl,rfl⟩,s⟩
 case slice b off len cap=>
  obtain ⟨rfl,aW,bZ,dW,eT,us,cw,st,fD,fr,ky⟩:=az
  rw [j6] at ky
  have hw:Own h b us cw st:=fD
  have e:=hw.lay (off:=off) (ws:=cC (hc l)) (by rw [kT];omega) (An _)
  refine ⟨_,_,N7 fD ky (by omega) (by omega) e (.inl ⟨cap,rfl⟩),rfl,⟨by rw [kT];omega,rfl,aW,?_,dW,eT,?_⟩,?_⟩
  · unfold Old;rw [fA];exact bZ
  · refine ⟨_,cw,st,by rw [cM,if_pos rfl],by rw [sx _ _ _ (by rw [kT];omega)];exact fr,?_⟩
    have:=wb us off 0 (cC l) (cC (hc l)) (by rw [j6];omega) (by rw [j6];exact ky) (by rw [kT,j6];omega)
    rw [kT]
    rw [j6,Nat.add_zero] at this
    rw [this,N_ (by rw [kT,j6])]
  · exact (Mod.refl (fun q=>q=b) h).set (fun _=>rfl) _
 case dp b off len idx=>
  obtain ⟨rfl,aW,bZ,rfl,rfl,us,st,fD,fr,ky⟩:=az
  rw [j6] at ky fr
  have hw:Own h b us 1 st:=fD
  have e:=hw.lay (off:=0) (ws:=cC (hc l)) (by rw [kT];omega) (An _)
  refine ⟨_,_,N7 fD (by rw [List.drop_zero];exact ky) (by omega) (by omega) e (.inr ⟨0,rfl⟩),rfl,⟨by rw [kT];omega,rfl,aW,?_,rfl,rfl,?_⟩,?_⟩
  · unfold Old;rw [fA];exact bZ
  · refine ⟨_,st,by rw [cM,if_pos rfl],by rw [sx _ _ _ (by rw [kT];omega),kT];exact fr,?_⟩
    have:=wb us 0 0 (cC l) (cC (hc l)) (by rw [j6];omega) (by rw [j6,List.drop_zero];exact ky) (by rw [kT,j6];omega)
    rw [kT]
    rw [j6,Nat.add_zero,List.drop_zero] at this
    rw [this,N_ (by rw [kT,j6])]
  · exact (Mod.refl (fun q=>q=b) h).set (fun _=>rfl) _
end Go.Proofs.YtjbiefneffiogaaGreat
namespace Go.Proofs.YtjbiefneffiogaaGreat
open Go ba
theorem ca.tail {B:Nat} {h:ag} {v:V} {n:Nat} {ad:List V} (H:ca B h 1 v n ad) {m:Nat} (hm:m<n):
 ∃dE,g0 1 v (some (.int .i64 m)) none none=some dE∧mT dE=some (.int .i64 ((n-m:Nat):Int))∧∀j:Nat,m+j<n→gy 1 dE (.int .i64 j)=gy 1 v (.int .i64 ((m+j:Nat):Int)):=by
 obtain ⟨aG,az⟩:=H
 cases v<;>simp only at az<;>try (first | omega | exact az.elim)
 case slice b off len cap=>
  obtain ⟨rfl,aW,bZ,dW,eT,us,cw,st,fD,fr,ky⟩:=az
  have eL:Nat.beq cap m=false:=by rw [←Bool.not_eq_true,Nat.beq_eq];omega
  refine ⟨.slice b (off+m * 1) (len-m) (cap-m),?_,rfl,fun j bC=>?_⟩
  · simp only [g0,o',mr,pq (k:=.i64) (m:=m) (d:=0) (y:=len) (by omega),eL,cond_false]
  · rw [vu,vu,if_pos (by omega),if_pos (by omega)]
    simp
    omega
 case dp b off len idx=>
  obtain ⟨rfl,aW,bZ,rfl,rfl,us,st,fD,fr,ky⟩:=az
  have aS:Nat.blt m len=true:=by rw [Nat.blt_eq];exact hm
  refine ⟨.dp b (0+m * 1) (len-m) (0+m),?_,rfl,fun j bC=>?_⟩
  · simp only [g0,n3,mr,pq (k:=.i64) (m:=m) (d:=0) (y:=len) (by omega),aS,cond_true]
  · rw [vt,vt,if_pos (by omega),if_pos (by omega)]
    simp
    omega
theorem NG:∀n,(gr [.int .i64 0] n).length=n
 | 0=>rfl
 | n+1=>by rw [gr,List.length_append,NG n];simp;omega
theorem FL:∀n,fg (gr [.int .i64 0] n)=true
 | 0=>rfl
 | n+1=>by rw [gr];exact aag rfl (FL n)
theorem Oa {A W:List V} {m:Nat} (h:m+W.length=A.length):hd A m W=A.take m++W:=by
 unfold hd
 rw [h,List.drop_length,List.append_nil]
theorem ca.adn {B:Nat} {h:ag} {v:V} {n:Nat} {ad:List V} (H:ca B h 1 v n ad) {m:Nat} (hm:m<n):
 ∃dE aa,g0 1 v (some (.int .i64 m)) none none=some dE∧rR [.int .i64 0] dE h=.val (.tuple []) aa∧(∃ws,ca B aa 1 v n (ad.take m++ws))∧Mod v.a_ h aa:=by
 obtain ⟨aG,az⟩:=H
 have qY:=NG (n-m)
 have tt:(ad.take m++gr [.int .i64 0] (n-m)).length=ad.length:=by rw [List.length_append,qY,List.length_take];omega
 have eL:Nat.beq (n-m) 0=false:=by rw [←Bool.not_eq_true,Nat.beq_eq];omega
 cases v<;>simp only at az<;>try (first | omega | exact az.elim)
 case slice b off len cap=>
  obtain ⟨rfl,aW,bZ,dW,eT,us,cw,st,fD,fr,ky⟩:=az
  have Vm:Nat.beq cap m=false:=by rw [←Bool.not_eq_true,Nat.beq_eq];omega
  have hw:Own h b us cw st:=fD
  have e:=hw.lay (off:=off+m) (ws:=gr [.int .i64 0] (len-m)) (by rw [qY];omega) (FL _)
  refine ⟨.slice b (off+m * 1) (len-m) (cap-m),_,?_,?_,⟨gr [.int .i64 0] (len-m),by rw [tt];exact aG,rfl,aW,?_,dW,eT,hd us (off+m) (gr [.int .i64 0] (len-m)),cw,st,by rw [cM,if_pos rfl],?_,?_⟩,(Mod.refl (fun q=>q=b) h).set (fun _=>rfl) _⟩
  · simp only [g0,o',mr,pq (k:=.i64) (m:=m) (d:=0) (y:=len) (by omega),Vm,cond_false]
  · simp only [rR,eL,cond_false,Nat.mul_one,e]
  · unfold Old;rw [fA];exact bZ
  · rw [sx _ _ _ (by rw [qY];omega)];exact fr
  · have:=wb us off m ad (gr [.int .i64 0] (len-m)) (by omega) ky (by rw [qY];omega)
    rw [tt,this,Oa (by rw [qY];omega)]
 case dp b off len idx=>
  obtain ⟨rfl,aW,bZ,rfl,rfl,us,st,fD,fr,ky⟩:=az
  have aS:Nat.blt m len=true:=by rw [Nat.blt_eq];exact hm
  have hw:Own h b us 1 st:=fD
  have e:=hw.lay (off:=0+m) (ws:=gr [.int .i64 0] (len-m)) (by rw [qY];omega) (FL _)
  refine ⟨.dp b (0+m * 1) (len-m) (0+m),_,?_,?_,⟨gr [.int .i64 0] (len-m),by rw [tt];exact aG,rfl,aW,?_,rfl,rfl,hd us (0+m) (gr [.int .i64 0] (len-m)),st,by rw [cM,if_pos rfl],?_,?_⟩,(Mod.refl (fun q=>q=b) h).set (fun _=>rfl) _⟩
  · simp only [g0,n3,mr,pq (k:=.i64) (m:=m) (d:=0) (y:=len) (by omega),aS,cond_true]
  · simp only [rR,eL,cond_false,Nat.mul_one,e]
  · unfold Old;rw [fA];exact bZ
  · rw [sx _ _ _ (by rw [qY];omega),tt];exact fr
  · have:=wb us 0 m ad (gr [.int .i64 0] (len-m)) (by omega) (by rw [List.drop_zero];exact ky) (by rw [qY];omega)
    rw [List.drop_zero] at this
    rw [tt,this,Oa (by rw [qY];omega)]
theorem SI {l:List Int} (h:l.length<2):rS l=l:=by
 match l,h with
 | [],_=>rfl
 | [x],_=>rfl
theorem OJ {k:Nat} (ab:1≤k) (af:k≤4611686018427387904):IntKind.i64.wrap ((k:Int)-1)=((k-1:Nat):Int):=by
 rw [wrap_i64 (by omega) (by omega)];omega
theorem WH (l:List Int) (i:Nat) (x:Int):(cC l).set i (.int .i64 x)=cC (l.set i x):=by
 simp [cC,List.map_set]
set_option maxHeartbeats 1000000 in
theorem SH {B:Nat} {h:ag} {v:V} {l:List Int} (O:ca B h 1 v l.length (cC l)) (aB:l.length≤8000000):
 bR Tryz.prog 52 [v] h fun x aa=>ca B aa 1 x (rS l).length (cC (rS l))∧Mod v.a_ h aa∧∀b,x.a_ b→v.a_ b:=by
 refine Rx rfl (b9 ?_)
 unfold IA
 have c2:=O.v.len
 by_cases af:l.length<2
 · have bz:((l.length:Int)<2)=True:=eq_true (by omega)
   simp +contextual only [c2,bz,↓ai,aq,simprocAttr]
   rw [SI af]
   exact ⟨O,Mod.refl _ _,fun b q=>trivial⟩
 have bz:((l.length:Int)<2)=False:=eq_false (by omega)
 simp +contextual only [c2,bz,↓ai,aq,simprocAttr]
 refine gz (fun r aa=>aa=h∧r 0=v∧∃k:Nat,r 3=.int .i64 k∧∃al:1≤k∧k≤l.length,l.take k++lP (l[k-1]'(by omega)) (l.drop k)=rS l) (fun r aa=>l.length - (r 3).hf) ?_ ?_
 · refine ⟨rfl,by simp only [↓ai,a2,simprocAttr],1,by simp only [↓ai,a2,simprocAttr]<;>rfl,⟨Nat.le_refl _,by omega⟩,?_⟩
   match l,af with
   | x::l,_=>rfl
 · rintro r aa ⟨rfl,cj,k,ch,⟨kU,U4⟩,aA⟩
   unfold IC
   by_cases aS:k<l.length
   · have bP:((k:Int) < (l.length:Int))=True:=eq_true (by omega)
     obtain ⟨b,o,cl,c7⟩:=ints_at O.v (k:=.i64) aS
     obtain ⟨cJ,ff,eZ,dq⟩:=ints_at O.v (k:=.i64) (show k-1<l.length by omega)
     have wd:=OJ kU (by omega)
     have gi:=hg aS (by omega)
     rw [List.drop_eq_getElem_cons aS,lP] at aA
     by_cases he:l[k]=l[k-1]
     · have C8:=eq_true he
       rw [if_pos he] at aA
       obtain ⟨v2,t1,t2,t3⟩:=ca.tail O aS
       simp +contextual only [cj,ch,c2,bP,cl,c7,wd,eZ,dq,C8,t1,↓ai,aq,simprocAttr]
       refine gz (fun r af=>Mod v.a_ aa af∧r 0=v∧r 4=v2∧∃(bT j:Nat) (m:List Int),r 3=.int .i64 bT∧r 5=.int .i64 j∧ca B af 1 v l.length (cC m)∧m.length=l.length∧1≤bT∧1≤j∧bT+1≤k+j∧∃bC:k+j≤l.length,m.take bT++lP (l[k+j-1]'(by omega)) (l.drop (k+j))=rS l∧∀q,k+j≤q+1→m[q]? =l[q]?) (fun r aa=>l.length - (r 5).hf) ?_ ?_
       · refine ⟨Mod.refl _ _,by simp only [cj,↓ai,a2,simprocAttr],by simp only [↓ai,a2,simprocAttr],k,1,l,by simp only [ch,↓ai,a2,simprocAttr],by simp only [↓ai,a2,simprocAttr]<;>rfl,O,rfl,kU,Nat.le_refl _,Nat.le_refl _,aS,?_,fun q _=>rfl⟩
         rw [←aA]
         congr 2
       · clear cj ch
         rintro r af ⟨hm,cj,dr,bT,j,m,ch,e0,y9,D6,U3,pF,aeH,bC,r0,aM⟩
         unfold IB
         by_cases jF:k+j<l.length
         · have zR:((j:Int) < ((l.length-k:Nat):Int))=True:=eq_true (by omega)
           have y':cF af 1 v m.length (cC m):=by rw [D6];exact y9.v
           obtain ⟨eQ,gA,EB,vB⟩:=ints_at y' (k:=.i64) (show k+j<m.length by omega)
           obtain ⟨ev,sj,EC,ER⟩:=ints_at y' (k:=.i64) (show k + (j-1)<m.length by omega)
           obtain ⟨dR,vP,Lf,ae3⟩:=ints_at y' (k:=.i64) (show bT<m.length by omega)
           have Un:=Hg y' (show bT<m.length by omega) Lf
           rw [←t3 j (by omega)] at EB
           rw [←t3 (j-1) (by omega)] at EC
           have V8:m[k+j]'(by omega)=l[k+j]:=by
            have:=aM (k+j) (by omega)
            rw [List.getElem?_eq_getElem (by omega),List.getElem?_eq_getElem jF] at this
            exact Option.some.inj this
           have Wb:m[k + (j-1)]'(by omega)=l[k+j-1]'(by omega):=by
            have:=aM (k+j-1) (by omega)
            rw [List.getElem?_eq_getElem (by omega),List.getElem?_eq_getElem (by omega)] at this
            have e:k + (j-1)=k+j-1:=by omega
            simp only [e]
            exact Option.some.inj this
           rw [V8] at vB
           rw [Wb] at ER
           have OK:=OJ pF (by omega)
           have ON:=hg (i:=j) (n:=l.length) (by omega) (by omega)
           have adm:=hg (i:=bT) (n:=l.length) (by omega) (by omega)
           rw [List.drop_eq_getElem_cons jF,lP] at r0
           have DV:k + (j+1)-1=k+j:=by omega
           by_cases eL:l[k+j]=l[k+j-1]
           · have h5:=eq_true eL
             rw [if_pos eL] at r0
             simp +contextual only [cj,ch,dr,e0,t2,zR,EB,vB,OK,EC,ER,h5,ON,↓ai,aq,simprocAttr]
             refine ⟨⟨hm,bT,j+1,m,rfl,rfl,y9,D6,U3,by omega,by omega,jF,?_,fun q nJ=>aM q (by omega)⟩,by omega⟩
             simp only [DV,eL]
             exact r0
           · have h5:=eq_false eL
             rw [if_neg eL] at r0
             obtain ⟨K,b_,b1,cy,gB⟩:=y9.MY Un (c:=bT * 1) (y:=.int .i64 l[k+j]) (by rw [j6];omega) rfl rfl
             rw [Nat.mul_one,WH] at cy
             have KN:Mod v.a_ aa (af.set dR K):=hm.set (fun _=>gB) _
             simp +contextual only [cj,ch,dr,e0,t2,zR,EB,vB,OK,EC,ER,h5,Lf,b_,ON,adm,↓ai,aq,simprocAttr]
             refine ⟨⟨KN,bT+1,j+1,m.set bT l[k+j],rfl,rfl,cy,by rw [List.length_set];exact D6,by omega,by omega,by omega,jF,?_,fun q nJ=>?_⟩,by omega⟩
             · simp only [DV]
               rw [←r0,List.take_succ_eq_append_getElem (by rw [List.length_set];omega),List.getElem_set_self,List.take_set_of_le (Nat.le_refl _)]
               simp only [List.append_assoc,List.cons_append,List.nil_append]
               rfl
             · rw [List.getElem?_set_ne (by omega)]
               exact aM q (by omega)
         · have zR:((j:Int) < ((l.length-k:Nat):Int))=False:=eq_false (by omega)
           rw [List.drop_eq_nil_of_le (by omega),lP,List.append_nil] at r0
           obtain ⟨v3,aK,kE,jx,⟨ws,m_⟩,qf⟩:=ca.adn y9 (m:=bT) (by omega)
           obtain ⟨v4,dN,db,z3⟩:=m_.cut (k:=.i64) (m:=bT) (by omega) (by omega)
           rw [Nat.mul_one,Ln,List.take_append_of_le_length (by rw [j6,List.length_take];omega),Ln,List.take_take,Nat.min_self,r0] at db
           have qS:bT=(rS l).length:=by rw [←r0,List.length_take];omega
           simp +contextual only [cj,ch,dr,e0,t2,zR,kE,jx,dN,W3,↓ai,aq,simprocAttr]
           rw [←qS]
           exact ⟨db,hm.trans qf,z3⟩
     · have C8:=eq_false he
       rw [if_neg he] at aA
       simp +contextual only [cj,ch,c2,bP,cl,c7,wd,eZ,dq,C8,gi,↓ai,aq,simprocAttr]
       refine ⟨⟨k+1,rfl,⟨by omega,aS⟩,?_⟩,by omega⟩
       rw [←aA,List.take_succ_eq_append_getElem aS]
       simp only [List.append_assoc,List.cons_append,List.nil_append,Nat.add_sub_cancel]
   · have bP:((k:Int) < (l.length:Int))=False:=eq_false (by omega)
     rw [List.drop_eq_nil_of_le (by omega),lP,List.append_nil,List.take_of_length_le (by omega)] at aA
     simp +contextual only [cj,ch,c2,bP,↓ai,aq,simprocAttr]
     rw [←aA]
     exact ⟨O,Mod.refl _ _,fun b q=>trivial⟩
def qy (c:aw):List Int:=if may cx c then rising (order c) else []
def J9 (c:aw):List Int:=if may cx c then rising (free c []) else []
def v7 (c:aw):Int:=if may cx c then (size c:Int) else 0
def ih (c:aw):Int:=if !may cx c then 2 else if (order c).length≠(rising (order c)).length then 7 else if 0 < (rising (free c [])).length then 6 else 0
theorem vF {c:aw} (hw:wt c≤400):may (fun b c=>d' b c) c=may cx c:=(AH c (JU (m:=1048576) (by omega) c (pA c hw))).symm
theorem t' {c:aw} (hw:wt c≤400) (h:may cx c=true):o5 c:=AQ c (by rw [vF hw];exact h)
theorem AV {c:aw} (hw:wt c≤400):(order c).length≤1200:=by have:=Fm c;have:=Bq c;omega
def pf (h aa:ag) (l:List Int) (x:V):Prop:=ca h.next aa 1 x l.length (cC l)∧Ext h aa
theorem pf.nil (h:ag):pf h h [] .aF:=⟨⟨rfl,rfl⟩,Ext.refl _⟩
theorem pf.from {h ab aa:ag} {l:List Int} {x:V} (H:pf ab aa l x) (e:Ext h ab):pf h aa l x:=⟨H.1.mono e.next,e.trans H.2⟩
section
variable (c:aw) (ad:List V) (h:ag) (H:eF h c ad) (hw:wt c≤400)
include H hw
theorem E1:bR Tryz.prog 44 [.agg ad] h fun x aa=>x=.bool (may cx c)∧Ext h aa:=E2 (size c) c (Nat.le_refl _) (pA c hw) ad h H
theorem G3:bR Tryz.prog 22 [.agg ad] h fun x aa=>x=.int .i64 (v7 c)∧Ext h aa:=by
 have eC:=Bq c
 obtain ⟨bl,bs,aY,rfl,cX,ea,cQ⟩:=H.open
 refine Rl rfl (b9 ?_)
 unfold Ic
 have b5:Ext h (h.new (.ar [.int .i64 c.k,.int .i64 c.x,.int .i64 c.n,.str c.s,bl,bs,aY] 0 false)):=(Ext.refl h).new _
 have gR:(h.new (.ar [.int .i64 c.k,.int .i64 c.x,.int .i64 c.n,.str c.s,bl,bs,aY] 0 false)).get (ak h.next)=.ar [.int .i64 c.k,.int .i64 c.x,.int .i64 c.n,.str c.s,bl,bs,aY] 0 false:=gT _
 simp +contextual only [↓ai,aq,simprocAttr]
 refine bm (E1 c _ _ (H.ext b5) hw) ?_
 rintro x ab ⟨rfl,aL⟩
 have eb:ab.get (ak h.next)=.ar [.int .i64 c.k,.int .i64 c.x,.int .i64 c.n,.str c.s,bl,bs,aY] 0 false:=by rw [aL.get _ (dC (by rw [cH];omega))];exact gR
 unfold v7
 cases hm:may cx c with
 | false=>
   simp +contextual only [↓ai,aq,simprocAttr]
   exact b5.trans aL
 | true=>
   simp +contextual only [eb,↓ai,aq,simprocAttr]
   refine bm (N1 (size c) c (Nat.le_refl _) (by omega) _ _ (H.ext (b5.trans aL))) ?_
   rintro x af ⟨rfl,bo⟩
   simp +contextual only [↓ai,aq,simprocAttr]
   exact (b5.trans aL).trans bo
theorem BU:bR Tryz.prog 25 [.agg ad] h fun x aa=>pf h aa (qy c) x:=by
 have qV:=AV hw
 obtain ⟨bl,bs,aY,rfl,cX,ea,cQ⟩:=H.open
 refine Rn rfl (b9 ?_)
 unfold Ih
 have b5:Ext h (h.new (.ar [.int .i64 c.k,.int .i64 c.x,.int .i64 c.n,.str c.s,bl,bs,aY] 0 false)):=(Ext.refl h).new _
 have gR:(h.new (.ar [.int .i64 c.k,.int .i64 c.x,.int .i64 c.n,.str c.s,bl,bs,aY] 0 false)).get (ak h.next)=.ar [.int .i64 c.k,.int .i64 c.x,.int .i64 c.n,.str c.s,bl,bs,aY] 0 false:=gT _
 simp +contextual only [↓ai,aq,simprocAttr]
 refine bm (E1 c _ _ (H.ext b5) hw) ?_
 rintro x ab ⟨rfl,aL⟩
 have eb:ab.get (ak h.next)=.ar [.int .i64 c.k,.int .i64 c.x,.int .i64 c.n,.str c.s,bl,bs,aY] 0 false:=by rw [aL.get _ (dC (by rw [cH];omega))];exact gR
 unfold qy
 cases hm:may cx c with
 | false=>
   simp +contextual only [↓ai,aq,simprocAttr]
   exact (pf.nil ab).from (b5.trans aL)
 | true=>
   simp +contextual only [eb,↓ai,aq,simprocAttr]
   refine bm (CE c _ _ (H.ext (b5.trans aL)) (pA c hw) (t' hw hm) (by omega)) ?_
   rintro x af ⟨mh,bo⟩
   simp +contextual only [↓ai,aq,simprocAttr]
   refine bm (acg mh (by omega)) ?_
   rintro y aK ⟨rfl,rH,dV⟩
   have oW:(hc (order c)).length=(order c).length:=(p6 _).length_eq
   rw [←oW] at rH
   simp +contextual only [↓ai,aq,simprocAttr]
   refine bm (SH rH (by omega)) ?_
   rintro z bM ⟨y7,jM,ev⟩
   rw [SJ (Bt (order c)) (p6 _)] at y7
   simp +contextual only [↓ai,aq,simprocAttr]
   have jB:Ext ab bM:=bo.jk (dV.trans jM) (fun b q=>mh.base q)
   exact pf.from ⟨y7,jB⟩ (b5.trans aL)
end
end Go.Proofs.YtjbiefneffiogaaGreat
namespace Go.Proofs.YtjbiefneffiogaaGreat
open Go ba
section
variable (c:aw) (ad:List V) (h:ag) (H:eF h c ad) (hw:wt c≤400)
include H hw
theorem B1:bR Tryz.prog 20 [.agg ad] h fun x aa=>x=.int .i64 (ih c)∧Ext h aa:=by
 have qV:=AV hw
 obtain ⟨bl,bs,aY,rfl,cX,ea,cQ⟩:=H.open
 refine Rk rfl (b9 ?_)
 unfold Ib
 have b5:Ext h (h.new (.ar [.int .i64 c.k,.int .i64 c.x,.int .i64 c.n,.str c.s,bl,bs,aY] 0 false)):=(Ext.refl h).new _
 have gR:(h.new (.ar [.int .i64 c.k,.int .i64 c.x,.int .i64 c.n,.str c.s,bl,bs,aY] 0 false)).get (ak h.next)=(.ar [.int .i64 c.k,.int .i64 c.x,.int .i64 c.n,.str c.s,bl,bs,aY] 0 false):=gT _
 simp +contextual only [↓ai,aq,simprocAttr]
 refine bm (E1 c _ _ (H.ext b5) hw) ?_
 rintro x ab ⟨rfl,aL⟩
 have hI:=b5.trans aL
 have eb:ab.get (ak h.next)=(.ar [.int .i64 c.k,.int .i64 c.x,.int .i64 c.n,.str c.s,bl,bs,aY] 0 false):=by rw [aL.get _ (dC (by rw [cH];omega))];exact gR
 have fb:h.next<ab.next:=by have:=aL.next;rw [cH] at this;omega
 unfold ih
 cases hm:may cx c with
 | false=>
   simp +contextual only [↓ai,aq,simprocAttr]
   exact hI
 | true=>
   have ah:qy c=rising (order c):=by rw [qy,if_pos hm]
   have mJ:J9 c=rising (free c []):=by rw [J9,if_pos hm]
   simp +contextual only [eb,↓ai,aq,simprocAttr]
   refine bm (CE c _ _ (H.ext hI) (pA c hw) (t' hw hm) (by omega)) ?_
   rintro x af ⟨mh,bo⟩
   skip
   have zn:af.get (ak h.next)=(.ar [.int .i64 c.k,.int .i64 c.x,.int .i64 c.n,.str c.s,bl,bs,aY] 0 false):=by rw [bo.get _ (dC fb)];exact eb
   have gf:h.next<af.next:=Nat.lt_of_lt_of_le fb bo.next
   have gb:=mh.v.len
   simp +contextual only [eb,zn,gb,↓ai,aq,simprocAttr]
   refine bm (BU c _ _ (H.ext (hI.trans bo)) hw) ?_
   rintro y aK ⟨rH,c6⟩
   rw [ah] at rH
   have Ht:aK.get (ak h.next)=(.ar [.int .i64 c.k,.int .i64 c.x,.int .i64 c.n,.str c.s,bl,bs,aY] 0 false):=by rw [c6.get _ (dC gf)];exact zn
   have mP:=rH.v.len
   have wv:=(hI.trans bo).trans c6
   by_cases eL:(order c).length=(rising (order c)).length
   · have bF:(((order c).length:Int)=((rising (order c)).length:Int))=True:=eq_true (by omega)
     have zP:((order c).length=(rising (order c)).length)=True:=eq_true eL
     simp +contextual only [eb,zn,Ht,gb,mP,bF,↓ai,aq,simprocAttr]
     refine bm (PB c _ _ (H.ext wv) hw hm (t' hw hm)) ?_
     rintro z bM ⟨y7,jB⟩
     skip
     have nS:=y7.v.len
     have n_:=wv.trans jB
     by_cases au:0 < (rising (free c [])).length
     · have bz:((0:Int) < ((rising (free c [])).length:Int))=True:=eq_true (by omega)
       have Dl:(0 < (rising (free c [])).length)=True:=eq_true au
       simp +contextual only [nS,bz,zP,Dl,ne_eq,↓ai,aq,simprocAttr]
       exact n_
     · have bz:((0:Int) < ((rising (free c [])).length:Int))=False:=eq_false (by omega)
       have Dl:(0 < (rising (free c [])).length)=False:=eq_false au
       simp +contextual only [nS,bz,zP,Dl,ne_eq,↓ai,aq,simprocAttr]
       exact n_
   · have bF:(((order c).length:Int)=((rising (order c)).length:Int))=False:=eq_false (by omega)
     have zP:((order c).length=(rising (order c)).length)=False:=eq_false eL
     simp +contextual only [eb,zn,Ht,gb,mP,bF,zP,ne_eq,↓ai,aq,simprocAttr]
     exact wv
end
end Go.Proofs.YtjbiefneffiogaaGreat
namespace Go.Proofs.YtjbiefneffiogaaGreat
open Go ba
noncomputable def yp (h:ag) (aE:aN):Nat:=match h9 (h.get aE) 4 with
 | some (.int _ n)=>n.toNat
 | _=>0
theorem gO.box {ao:ag} {b:aN} {c:aw} {ad:List V} (a1:ao.get b=.ar ad 0 false) (bt:Old ao b) (H:eF ao c ad):gO ao (.ptr b 0) c:=by
 refine ⟨b,0,ad,rfl,H,fun aa e=>?_⟩
 have aB:=H.len
 rw [e.get b bt,a1]
 refine ⟨by rw [ET,if_pos (by omega),List.drop_zero,List.take_of_length_le (by omega)],fun j bC=>by rw [sd,Nat.zero_add]⟩
def qp (B:Nat) (h:ag) (l:oh) (x:V):Prop:=∃bW,x=.agg [.int .i64 l.h5,.int .i64 l.j2,.int .i64 l.read,.int .i64 l.steps,bW]∧ca B h 1 bW l.out.length (dZ l.out)
theorem qp.ext {B:Nat} {h aa:ag} {l:oh} {x:V} (H:qp B h l x) (e:Ext h aa):qp B aa l x:=by
 obtain ⟨bW,aG,az⟩:=H
 exact ⟨bW,aG,az.ext e⟩
set_option maxHeartbeats 4000000 in
theorem S2 (c:aw) (ad:List V) (h:ag) (H:eF h c ad) (Wi:gv [] c) {bp:V} {bc:List UInt8} (iX:cF h 1 bp bc.length (dZ bc)) (hlen:bc.length≤1073741824) {steps:Int} (T5:0≤steps) (bk:steps≤100000):
 bR Tryz.prog 40 [.agg ad,.aF,bp,.int .i64 steps] h fun x aa=>∃l,uz c bc steps l∧qp h.next aa l x∧Ext h aa:=by
 obtain ⟨bl,bs,aY,rfl,cX,ea,cQ⟩:=H.open
 refine Rq rfl (b9 ?_)
 unfold Io
 have k0:=cX.one
 have k1:=ea.one
 have ol:=cQ.one
 have pX:=iX.one
 simp +contextual only [k0.1,k0.2.1,k1.1,k1.2.1,ol.1,ol.2.1,↓ai,aq,simprocAttr]
 have aL:Ext h ((h.new (.ar [.int .i64 c.k,.int .i64 c.x,.int .i64 c.n,.str c.s,bl,bs,aY] 0 false)).new (.ar [.int .i64 0,.int .i64 0,.int .i64 0,.int .i64 0,.aF] 0 false)):=((Ext.refl h).new _).new _
 have bF:((h.new (.ar [.int .i64 c.k,.int .i64 c.x,.int .i64 c.n,.str c.s,bl,bs,aY] 0 false)).new (.ar [.int .i64 0,.int .i64 0,.int .i64 0,.int .i64 0,.aF] 0 false)).get (ak h.next)=.ar [.int .i64 c.k,.int .i64 c.x,.int .i64 c.n,.str c.s,bl,bs,aY] 0 false:=by
  rw [dT,if_neg (by rw [gg,cH];omega),gT]
 have dN:((h.new (.ar [.int .i64 c.k,.int .i64 c.x,.int .i64 c.n,.str c.s,bl,bs,aY] 0 false)).new (.ar [.int .i64 0,.int .i64 0,.int .i64 0,.int .i64 0,.aF] 0 false)).get (ak (h.next+1))=.ar [.int .i64 0,.int .i64 0,.int .i64 0,.int .i64 0,.aF] 0 false:=by
  rw [dT,if_pos (by rw [cH])]
 have fb:((h.new (.ar [.int .i64 c.k,.int .i64 c.x,.int .i64 c.n,.str c.s,bl,bs,aY] 0 false)).new (.ar [.int .i64 0,.int .i64 0,.int .i64 0,.int .i64 0,.aF] 0 false)).next=h.next+2:=by rw [cH,cH]
 generalize ((h.new (.ar [.int .i64 c.k,.int .i64 c.x,.int .i64 c.n,.str c.s,bl,bs,aY] 0 false)).new (.ar [.int .i64 0,.int .i64 0,.int .i64 0,.int .i64 0,.aF] 0 false))=H1 at *
 refine bm (S3 H1) ?_
 rintro pm ao ⟨D,bo⟩
 have oT:=bo.next
 have Fi:pm.one=true∧pm.cells=[pm]∧pm.ek=true:=by
  obtain ⟨_,_,_,_,_,_,_,_,_,rfl,_⟩:=D
  exact ⟨rfl,rfl,rfl⟩
 have kF:=aL.trans bo
 have bP:ao.get (ak h.next)=.ar [.int .i64 c.k,.int .i64 c.x,.int .i64 c.n,.str c.s,bl,bs,aY] 0 false:=by rw [bo.get _ (dC (by omega))];exact bF
 have z0:ao.get (ak (h.next+1))=.ar [.int .i64 0,.int .i64 0,.int .i64 0,.int .i64 0,.aF] 0 false:=by rw [bo.get _ (dC (by omega))];exact dN
 have Pe:=iX.ext kF
 have O4:gO ao (.ptr (ak h.next) 0) c:=gO.box bP (dC (by omega)) (H.ext kF)
 simp +contextual only [pX.1,pX.2.1,pX.2.2,Fi.1,Fi.2.1,Fi.2.2,↓ai,aq,simprocAttr]
 have gF:dc ao (ao.new (.ar [bp,.int .i64 0,.int .i64 0,.int .i64 0,.int .i64 0,.aF,.bool false,.ptr (ak h.next) 0,.cq,.aF,.aF,pm] 0 false)) (ak ao.next) (mf (fun _=>.no) (fun b=>b=ak ao.next) .tO) [] bp pm (start c) 0 (.ptr (ak h.next) 0) .cq .aF .aF:=by
  refine ⟨⟨(Ext.refl ao).new _,fun b ah=>?_,rfl,fun i v q=>(by cases i<;>simp [start] at q)⟩,rG rfl,gT _,O4,.nil,⟨[],⟨rfl,rfl⟩,fun b q=>q.elim,rfl,fun i a u q=>(by simp [start] at q)⟩,⟨rfl,rfl⟩,fun b q=>q.elim⟩
  by_cases q:b=ak ao.next
  · subst q;rw [cA,cH];omega
  · rw [qn (p:=fun b=>b=ak ao.next) q] at ah;exact absurd rfl ah
 generalize oS:ak ao.next=aE at *
 generalize (ao.new (.ar [bp,.int .i64 0,.int .i64 0,.int .i64 0,.int .i64 0,.aF,.bool false,.ptr (ak h.next) 0,.cq,.aF,.aF,pm] 0 false))=cI at *
 refine gz (fun r aa=>r 9=.ptr aE 0∧r 3=.int .i64 steps∧r 8=.ptr (ak (h.next+1)) 0∧∃i:Nat,(∀j,j<i→((start c).nth bc j).hF=false)∧(i:Int)≤steps∧∃bg bq,cR ao aa aE bg bq bp pm ((start c).nth bc i) i) (fun r aa=>steps.toNat-yp aa aE) ?_ ?_
 · exact ⟨by simp only [↓ai,a2,simprocAttr],by simp only [↓ai,a2,simprocAttr],by simp only [↓ai,a2,simprocAttr],0,fun j q=>(by omega),T5,_,_,_,_,_,_,gF⟩
 · rintro r aa ⟨gh,ch,iS,i,r',ax,bg,bq,hQ,eq,gu,dv,M⟩
   unfold Ip
   have cO:=M.get
   have oW:yp aa aE=i:=by unfold yp;rw [cO,sd];simp
   have W:=cG.nth (bc:=bc) Wi i
   have OV:aa.get (ak (h.next+1))=.ar [.int .i64 0,.int .i64 0,.int .i64 0,.int .i64 0,.aF] 0 false:=by rw [M.rep.ext.get _ (dC (by omega))];exact z0
   have L8:(aE=ak (h.next+1))=False:=eq_false fun q=>by have:=M.b4.1;rw [q,cA] at this;omega
   have OY:(ak (h.next+1)=aE)=False:=eq_false fun q=>by have:=M.b4.1;rw [←q,cA] at this;omega
   have eD:=M.fB.one
   have xq:∀(bg:fi) (bq:List aN) (S:av) (g:ag) (hQ eq gu dv:V) (k:cp),dc ao g aE bg bq bp pm S i hQ eq gu dv→ca h.next (g.set (ak (h.next+1)) k) 1 dv S.out.length (dZ S.out)∧Ext h (g.set (ak (h.next+1)) k):=by
    intro bg bq S g hQ eq gu dv k M
    refine ⟨(M.fB.1.mono (by omega)).mod ((Mod.refl (fun b=>b=ak (h.next+1)) g).set (fun _=>rfl) k) fun b q e=>?_,(kF.trans M.rep.ext).set (by omega) _⟩
    have:=M.fB.1.base q
    rw [e,cA] at this
    omega
   cases bt:((start c).nth bc i).hF with
   | true=>
     rw [bt] at cO
     simp +contextual only [gh,ch,iS,cO,bt,OV,L8,OY,eD.1,eD.2.1,↓ai,aq,simprocAttr]
     have au:=xq bg bq _ aa hQ eq gu dv (.ar [.int .i64 ((start c).nth bc i).h5,.int .i64 ((start c).nth bc i).j2,.int .i64 ((start c).nth bc i).read,.int .i64 i,dv] 0 false) M
     exact ⟨⟨((start c).nth bc i).h5,((start c).nth bc i).j2,((start c).nth bc i).read,i,((start c).nth bc i).out⟩,⟨i,r',ax,.inl bt,by rw [if_pos bt]⟩,⟨dv,rfl,au.1⟩,au.2⟩
   | false=>
     rw [bt] at cO
     by_cases aS:(i:Int)<steps
     · have vm:=eq_true aS
       have w:IntKind.i64.wrap ((i:Int)+1)=((i+1:Nat):Int):=by rw [wrap_i64 (by omega) (by omega)];rfl
       have a':=M.next ((start c).nth bc i) ((i+1:Nat):Int) hQ eq gu dv rfl M.co M.fX M.wr M.fB
       rw [bt] at a'
       simp +contextual only [gh,ch,iS,cO,bt,vm,w,↓ai,aq,simprocAttr]
       obtain ⟨p4,al,a6⟩:=W.c.shape
       refine bm (acp ⟨_,_,_,_,a'⟩ (W.ok (by omega)) (by have:=W.wl;omega) p4 a6 al D Pe hlen W.read) ?_
       rintro x af ⟨g5,i_,M2⟩
       simp +contextual only [gh,ch,iS,↓ai,aq,simprocAttr]
       have Cz:=M2
       obtain ⟨_,_,_,_,Cz⟩:=Cz
       have VU:yp af aE=i+1:=by unfold yp;rw [Cz.get,sd];simp
       refine ⟨⟨i+1,fun j bC=>?_,by omega,g5,i_,M2⟩,by rw [oW,VU];omega⟩
       by_cases e:j=i
       · subst e;exact bt
       · exact r' j (by omega)
     · have vm:=eq_false aS
       simp +contextual only [gh,ch,iS,cO,bt,vm,OV,L8,OY,eD.1,eD.2.1,↓ai,aq,simprocAttr]
       have a':=M.next {(start c).nth bc i with h5:=4} i hQ eq gu dv rfl M.co M.fX M.wr M.fB
       have au:=xq bg bq _ _ hQ eq gu dv (.ar [.int .i64 4,.int .i64 ((start c).nth bc i).j2,.int .i64 ((start c).nth bc i).read,.int .i64 i,dv] 0 false) a'
       simp only [bt] at au
       exact ⟨⟨4,((start c).nth bc i).j2,((start c).nth bc i).read,i,((start c).nth bc i).out⟩,⟨i,r',ax,.inr (by omega),by rw [bt];rfl⟩,⟨dv,rfl,au.1⟩,au.2⟩
def pk (c:aw) (bc:List UInt8) (steps:Int) (l:oh):Prop:=if ih c≠0∨steps<0 then l=⟨5,0,0,0,[]⟩ else uz c bc steps l
theorem abR {c:aw} {bp:List UInt8} {steps:Int} {l m:oh} (h:pk c bp steps l) (aa:pk c bp steps m):l=m:=by
 unfold pk at h aa
 split at h
 · rename_i q
   rw [if_pos q] at aa
   rw [h,aa]
 · rename_i q
   rw [if_neg q] at aa
   exact S4 h aa
theorem Gi {c:aw} (hm:may (fun b c=>d' b c) c=may cx c) (au:fit 1048576 c) (h:ih c=0):gv [] c:=by
 unfold ih at h
 by_cases ab:may cx c=true
 · rw [ab] at h
   simp only [Bool.not_true,Bool.false_eq_true,if_false] at h
   split at h
   · omega
   · split at h
     · omega
     · rename_i q
       refine ⟨by rw [hm];exact ab,?_,au⟩
       cases aM:free c [] with
       | nil=>rfl
       | cons z l=>
         have:z ∈ rising (free c []):=sf.2 (by rw [aM];simp)
         have:=List.length_pos_of_mem this
         omega
 · rw [Bool.not_eq_true] at ab
   rw [ab] at h
   simp only [Bool.not_false,if_true] at h
   omega
set_option maxHeartbeats 2000000 in
theorem NM (c:aw) (ad:List V) (h:ag) (H:eF h c ad) (hw:wt c≤400) {bp:V} {bc:List UInt8} (iX:cF h 1 bp bc.length (dZ bc)) (hlen:bc.length≤1073741824) {steps:Int} (bk:steps≤100000):
 bR Tryz.prog 13 [.agg ad,bp,.int .i64 steps] h fun x aa=>∃l,pk c bc steps l∧qp h.next aa l x∧Ext h aa:=by
 obtain ⟨bl,bs,aY,rfl,cX,ea,cQ⟩:=H.open
 refine Q9 rfl (b9 ?_)
 unfold HW
 have k0:=cX.one
 have k1:=ea.one
 have ol:=cQ.one
 have aL:Ext h ((h.new (.ar [.int .i64 c.k,.int .i64 c.x,.int .i64 c.n,.str c.s,bl,bs,aY] 0 false)).new (.ar [.int .i64 0,.int .i64 0,.int .i64 0,.int .i64 0,.aF] 0 false)):=((Ext.refl h).new _).new _
 have bF:((h.new (.ar [.int .i64 c.k,.int .i64 c.x,.int .i64 c.n,.str c.s,bl,bs,aY] 0 false)).new (.ar [.int .i64 0,.int .i64 0,.int .i64 0,.int .i64 0,.aF] 0 false)).get (ak h.next)=.ar [.int .i64 c.k,.int .i64 c.x,.int .i64 c.n,.str c.s,bl,bs,aY] 0 false:=by
  rw [dT,if_neg (by rw [gg,cH];omega),gT]
 have dN:((h.new (.ar [.int .i64 c.k,.int .i64 c.x,.int .i64 c.n,.str c.s,bl,bs,aY] 0 false)).new (.ar [.int .i64 0,.int .i64 0,.int .i64 0,.int .i64 0,.aF] 0 false)).get (ak (h.next+1))=.ar [.int .i64 0,.int .i64 0,.int .i64 0,.int .i64 0,.aF] 0 false:=by
  rw [dT,if_pos (by rw [cH])]
 have fb:((h.new (.ar [.int .i64 c.k,.int .i64 c.x,.int .i64 c.n,.str c.s,bl,bs,aY] 0 false)).new (.ar [.int .i64 0,.int .i64 0,.int .i64 0,.int .i64 0,.aF] 0 false)).next=h.next+2:=by rw [cH,cH]
 simp +contextual only [k0.1,k0.2.1,k1.1,k1.2.1,ol.1,ol.2.1,↓ai,aq,simprocAttr]
 generalize ((h.new (.ar [.int .i64 c.k,.int .i64 c.x,.int .i64 c.n,.str c.s,bl,bs,aY] 0 false)).new (.ar [.int .i64 0,.int .i64 0,.int .i64 0,.int .i64 0,.aF] 0 false))=H1 at *
 refine bm (B1 c _ H1 (H.ext aL) hw) ?_
 rintro x af ⟨rfl,bo⟩
 have oT:=bo.next
 have bz:af.get (ak h.next)=.ar [.int .i64 c.k,.int .i64 c.x,.int .i64 c.n,.str c.s,bl,bs,aY] 0 false:=by rw [bo.get _ (dC (by omega))];exact bF
 have db:af.get (ak (h.next+1))=.ar [.int .i64 0,.int .i64 0,.int .i64 0,.int .i64 0,.aF] 0 false:=by rw [bo.get _ (dC (by omega))];exact dN
 have ec:=aL.trans bo
 have OX:∀(k:cp),Ext h (af.set (ak (h.next+1)) k):=fun k=>ec.set (by omega) _
 have no:∀k:cp,ca h.next (af.set (ak (h.next+1)) k) 1 .aF 0 (dZ []):=fun k=>⟨rfl,rfl⟩
 by_cases aA:ih c=0
 · have pD:=eq_true aA
   by_cases aV:steps<0
   · have ga:=eq_true aV
     simp +contextual only [pD,ga,bz,db,↓ai,aq,simprocAttr]
     exact ⟨⟨5,0,0,0,[]⟩,(by unfold pk;rw [if_pos (.inr aV)]),⟨.aF,rfl,no _⟩,OX _⟩
   · have ga:=eq_false aV
     simp +contextual only [pD,ga,bz,db,↓ai,aq,simprocAttr]
     have au:=pA c hw
     refine bm (S2 c _ af (H.ext ec) (Gi (vF hw) au aA) (iX.ext ec) hlen (by omega) bk) ?_
     rintro x aK ⟨l,aB,⟨bW,rfl,O⟩,c6⟩
     have z3:aK.get (ak (h.next+1))=.ar [.int .i64 0,.int .i64 0,.int .i64 0,.int .i64 0,.aF] 0 false:=by rw [c6.get _ (dC (by omega))];exact db
     have eD:=O.v.one
     simp +contextual only [z3,eD.1,eD.2.1,↓ai,aq,simprocAttr]
     refine ⟨l,(by unfold pk;rw [if_neg (by intro q;rcases q with q | q;exact q aA;exact aV q)];exact aB),⟨bW,rfl,?_⟩,(ec.trans c6).set (by omega) _⟩
     refine (O.mono (by omega)).mod ((Mod.refl (fun b=>b=ak (h.next+1)) aK).set (fun _=>rfl) _) fun b q e=>?_
     have:=O.base q
     rw [e,cA] at this
     omega
 · have pD:=eq_false aA
   simp +contextual only [pD,bz,db,↓ai,aq,simprocAttr]
   exact ⟨⟨5,0,0,0,[]⟩,(by unfold pk;rw [if_pos (.inl aA)]),⟨.aF,rfl,no _⟩,OX _⟩
theorem Qp (k n bK eS:Int) (s gY:List UInt8):(ou Tryz.prog .neq 41).run (.agg [.int .i64 k,.int .i64 n,.str s]) (.agg [.int .i64 bK,.int .i64 eS,.str gY])=
 (match (bif Int.hR k bK then (bif Int.hR n eS then (bif mq s gY then some true else some false) else some false) else some false:Option Bool) with
  | some b=>some (.bool (bif true then !b else b)) | none=>none):=by kernel_rfl
theorem Qq (q:At):(dO.other .neq 41).run Tryz.prog (.agg q.enc) (.agg q.enc)=some (.bool false):=by
 rw [show q.enc=[.int .i64 q.k,.int .i64 q.n,.str q.s] from rfl]
 rw [show (dO.other .neq 41).run Tryz.prog=(ou Tryz.prog .neq 41).run from rfl,Qp]
 simp [mz,sV]
theorem abU (l:List Int) (bl uu:V) (h:ag) (cX:cF h 1 bl l.length (cC l)) (sK:cF h 1 uu l.length (cC l)) (aB:l.length≤4611686018427387904):
 bR Tryz.prog 24 [bl,uu] h fun x aa=>x=.bool true∧aa=h:=by
 refine Rm rfl (b9 ?_)
 unfold Ie
 have c2:=cX.len
 have eY:=sK.len
 simp +contextual only [c2,eY,↓ai,aq,simprocAttr]
 refine gz (fun r aa=>aa=h∧r 0=bl∧r 1=uu∧∃i:Nat,r 5=.int .i64 i∧i≤l.length) (fun r aa=>l.length - (r 5).hf) ?_ ?_
 · exact ⟨rfl,by simp only [↓ai,a2,simprocAttr],by simp only [↓ai,a2,simprocAttr],0,by simp only [↓ai,a2,simprocAttr]<;>rfl,by omega⟩
 · rintro r aa ⟨rfl,cj,bf,i,e0,ax⟩
   unfold Ig
   by_cases aS:i<l.length
   · have bP:((i:Int) < (l.length:Int))=True:=eq_true (by omega)
     obtain ⟨b,o,cl,c7⟩:=ints_at cX (k:=.i64) aS
     obtain ⟨bN,dI,oY,dq⟩:=ints_at sK (k:=.i64) aS
     have w:=hg aS aB
     simp +contextual only [cj,bf,e0,c2,bP,cl,c7,oY,dq,w,↓ai,aq,simprocAttr]
     exact ⟨⟨i+1,rfl,aS⟩,by omega⟩
   · have bP:((i:Int) < (l.length:Int))=False:=eq_false (by omega)
     simp +contextual only [cj,bf,e0,c2,bP,↓ai,aq,simprocAttr]
theorem abT (l:List At) (bl uu:V) (h:ag) (cX:cF h 3 bl l.length (gG l)) (sK:cF h 3 uu l.length (gG l)) (aB:l.length≤4611686018427387904):
 bR Tryz.prog 42 [bl,uu] h fun x aa=>x=.bool true∧aa=h:=by
 refine Rr rfl (b9 ?_)
 unfold Iq
 have c2:=cX.len
 have eY:=sK.len
 simp +contextual only [c2,eY,↓ai,aq,simprocAttr]
 refine gz (fun r aa=>aa=h∧r 0=bl∧r 1=uu∧∃i:Nat,r 5=.int .i64 i∧i≤l.length) (fun r aa=>l.length - (r 5).hf) ?_ ?_
 · exact ⟨rfl,by simp only [↓ai,a2,simprocAttr],by simp only [↓ai,a2,simprocAttr],0,by simp only [↓ai,a2,simprocAttr]<;>rfl,by omega⟩
 · rintro r aa ⟨rfl,cj,bf,i,e0,ax⟩
   unfold Ir
   by_cases aS:i<l.length
   · have bP:((i:Int) < (l.length:Int))=True:=eq_true (by omega)
     obtain ⟨b,o,cl,c7,_⟩:=uS cX (k:=.i64) aS
     obtain ⟨bN,dI,oY,dq,_⟩:=uS sK (k:=.i64) aS
     have w:=hg aS aB
     simp +contextual only [cj,bf,e0,c2,bP,cl,c7,oY,dq,w,Qq,↓ai,aq,simprocAttr]
     exact ⟨⟨i+1,rfl,aS⟩,by omega⟩
   · have bP:((i:Int) < (l.length:Int))=False:=eq_false (by omega)
     simp +contextual only [cj,bf,e0,c2,bP,↓ai,aq,simprocAttr]
theorem NT:∀(N:Nat) (c:aw),size c≤N→fit 1048576 c→∀(ad us:List V) (h:ag),eF h c ad→eF h c us→bR Tryz.prog 16 [.agg ad,.agg us] h fun x aa=>x=.bool true∧Ext h aa
 | 0,c,bk,_,_,_,_,_,_=>by have:=size_pos c;omega
 | N+1,c,bk,au,ad,us,h,H,J=>by
   obtain ⟨f1,f2,f3,f4,f5⟩:=au.kids
   have oW:=sw c
   obtain ⟨bl,bs,aY,rfl,cX,ea,cQ⟩:=H.open
   obtain ⟨sA,ut,ul,rfl,Pn,Po,GV⟩:=J.open
   have kids:∀(aa:ag),Ext h aa→bR Tryz.prog 43 [aY,ul] aa fun x af=>x=.bool true∧Ext aa af:=by
    intro g a1
    refine Rs rfl (b9 ?_)
    unfold Is
    have c2:=(cQ.ext a1).len
    have eY:=(GV.ext a1).len
    simp +contextual only [c2,eY,↓ai,aq,simprocAttr]
    refine gz (fun r aa=>Ext g aa∧r 0=aY∧r 1=ul∧∃i:Nat,r 5=.int .i64 i∧i≤c.l.length) (fun r aa=>c.l.length - (r 5).hf) ?_ ?_
    · exact ⟨Ext.refl _,by simp only [↓ai,a2,simprocAttr],by simp only [↓ai,a2,simprocAttr],0,by simp only [↓ai,a2,simprocAttr]<;>rfl,by omega⟩
    · rintro r aa ⟨an,cj,bf,i,e0,ax⟩
      unfold It
      by_cases aS:i<c.l.length
      · have bP:((i:Int) < (c.l.length:Int))=True:=eq_true (by omega)
        obtain ⟨b,o,u,cl,hu,o1⟩:=cQ.rM (k:=.i64) aS
        obtain ⟨bN,dI,yz,oY,fI,YY⟩:=GV.rM (k:=.i64) aS
        have c7:=fun bz e=>(o1 bz e).1
        have xQ:=fun bz e=>(YY bz e).1
        have r3:=a1.trans an
        have w:=hg aS (by omega)
        have g9:c.l[i]? =some c.l[i]:=List.getElem?_eq_getElem aS
        have eC:=rl g9
        simp +contextual only [cj,bf,e0,c2,bP,cl,oY,c7 aa r3,xQ aa r3,↓ai,aq,simprocAttr]
        refine bm (NT N c.l[i] (by omega) (oF f5 g9) u yz aa (hu.ext r3) (fI.ext r3)) ?_
        rintro x bz ⟨rfl,bo⟩
        simp +contextual only [cj,bf,e0,w,cl,oY,c7 aa r3,xQ aa r3,c7 bz (r3.trans bo),xQ bz (r3.trans bo),↓ai,aq,simprocAttr]
        exact ⟨⟨an.trans bo,i+1,rfl,aS⟩,by omega⟩
      · have bP:((i:Int) < (c.l.length:Int))=False:=eq_false (by omega)
        simp +contextual only [cj,bf,e0,c2,bP,↓ai,aq,simprocAttr]
        exact an
   refine Ri rfl (b9 ?_)
   unfold H9
   have b5:Ext h ((h.new (.ar [.int .i64 c.k,.int .i64 c.x,.int .i64 c.n,.str c.s,bl,bs,aY] 0 false)).new (.ar [.int .i64 c.k,.int .i64 c.x,.int .i64 c.n,.str c.s,sA,ut,ul] 0 false)):=((Ext.refl h).new _).new _
   have bF:((h.new (.ar [.int .i64 c.k,.int .i64 c.x,.int .i64 c.n,.str c.s,bl,bs,aY] 0 false)).new (.ar [.int .i64 c.k,.int .i64 c.x,.int .i64 c.n,.str c.s,sA,ut,ul] 0 false)).get (ak h.next)=.ar [.int .i64 c.k,.int .i64 c.x,.int .i64 c.n,.str c.s,bl,bs,aY] 0 false:=by
    rw [dT,if_neg (by rw [gg,cH];omega),gT]
   have bz:((h.new (.ar [.int .i64 c.k,.int .i64 c.x,.int .i64 c.n,.str c.s,bl,bs,aY] 0 false)).new (.ar [.int .i64 c.k,.int .i64 c.x,.int .i64 c.n,.str c.s,sA,ut,ul] 0 false)).get (ak (h.next+1))=.ar [.int .i64 c.k,.int .i64 c.x,.int .i64 c.n,.str c.s,sA,ut,ul] 0 false:=by
    rw [dT,if_pos (by rw [cH])]
   have aX:((h.new (.ar [.int .i64 c.k,.int .i64 c.x,.int .i64 c.n,.str c.s,bl,bs,aY] 0 false)).new (.ar [.int .i64 c.k,.int .i64 c.x,.int .i64 c.n,.str c.s,sA,ut,ul] 0 false)).next=h.next+2:=by rw [cH,cH]
   simp +contextual only [↓ai,aq,simprocAttr]
   generalize ((h.new (.ar [.int .i64 c.k,.int .i64 c.x,.int .i64 c.n,.str c.s,bl,bs,aY] 0 false)).new (.ar [.int .i64 c.k,.int .i64 c.x,.int .i64 c.n,.str c.s,sA,ut,ul] 0 false))=uB at *
   refine bm (abT c.a bl sA uB (cX.ext b5) (Pn.ext b5) (by omega)) ?_
   rintro x ab ⟨rfl,rfl⟩
   simp +contextual only [bF,bz,↓ai,aq,simprocAttr]
   refine bm (abU c.t bs ut ab (ea.ext b5) (Po.ext b5) (by omega)) ?_
   rintro x af ⟨rfl,rfl⟩
   simp +contextual only [bF,bz,↓ai,aq,simprocAttr]
   refine bm (kids af b5) ?_
   rintro x aK ⟨rfl,c6⟩
   simp +contextual only [↓ai,aq,simprocAttr]
   exact b5.trans c6
end Go.Proofs.YtjbiefneffiogaaGreat
