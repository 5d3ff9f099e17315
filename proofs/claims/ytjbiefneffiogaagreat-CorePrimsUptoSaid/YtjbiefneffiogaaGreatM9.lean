/- The chapter's functions, walked by the abstract machine: plain lemmas, no condition. Printed by a program from longer texts: names made short. -/
import Derived.Test.YtjbiefneffiogaaGreatM8
set_option linter.unusedSectionVars false
set_option linter.unusedSimpArgs false
set_option linter.unusedVariables false
namespace Go.Proofs.YtjbiefneffiogaaGreat
open Go bs
section
variable {aj h J:ai} {an:aV} {K aK:fl} {aq:List aV} {aO pm:V} {S:av} {steps:Int} {dS bZ b4 bj:V}
set_option maxHeartbeats 4000000 in
theorem step_ret (M:dr aj h an K aq aO pm S steps) (O:Ok S) (hw:S.w.length≤1000000000) (cZ:Shape S.c) (bh:∀a ∈ S.c.a,a.k=1→a.n ∈ S.e.map Prod.fst) (al:S.c.k=1) {aN:List UInt8}:bB Tryz.prog 59 [.ptr an 0] h fun x J=>∃aK aJ,dr aj J an aK aJ aO pm (S.step aN) steps:=by
 obtain ⟨jt,eq,fB,c5,M⟩:=M
 obtain ⟨fo,co,aX,a6,az,rfl,dv,eL,cJ,dT⟩:=M.co.open
 have cE:=M.get
 rw [al] at dT
 have lc:=dT h M.rep.ext
 refine pz rfl (bO ?_)
 unfold oL
 simp +contextual only [cE,lc.1,↓ab,ae,simprocAttr]
 refine aS (px M bh cZ.oe) ?_
 rintro x ad ⟨jq,hk,aD,dO,fI,h7⟩
 obtain ⟨kG,cW,k2,nd,l5,hv⟩:=av.l3 S S.c.a
 have hQ:=O.atoms S.c.a cZ.at_
 have dY:=aD.get
 have bc:=dT ad aD.rep.ext
 have di:S.step aN=(S.atoms S.c.a).1.dE aN (S.atoms S.c.a).2:=rfl
 generalize (S.atoms S.c.a).1=T at *
 generalize (S.atoms S.c.a).2=bu at *
 have cr:ek ad hk bu x:=⟨dO.v,fI⟩
 have e_:T.c.k=1:=by rw [cW];exact al
 have dF:=M.rep.ext.next
 obtain ⟨aW,rfl⟩:∃aW,bu=[aW]:=by
  have:bu.length=1:=by rw [hv];exact cZ.bt (by omega)
  match bu,this with
  | [a],_=>exact ⟨a,rfl⟩
 obtain ⟨eU,cQ,ey,fN,_,_,b3,jE,bY⟩:=aD.arg cr 0 0 aW rfl rfl
 have e2:=bY _ (Ext.refl _)
 simp +contextual only [cE,dY,lc.1,bc.1,b3,e2.1,↓ab,ae,simprocAttr]
 refine aS (mr ⟨_,_,_,_,aD⟩ hQ.w eU) ?_
 rintro y ak ⟨er,M2⟩
 simp +contextual only [b3,e2.1,↓ab,ae,simprocAttr]
 refine ⟨er,hk,?_⟩
 rw [di]
 have:T.dE aN [aW]=T.m1 aW:=by simp only [av.dE,e_,↓reduceIte,Int.reduceEq,reduceCtorEq,false_or,or_false,or_true,true_or,List.getD_cons_zero,List.getD_cons_succ]
 rw [this]
 exact M2
set_option maxHeartbeats 4000000 in
theorem afW (M:dr aj h an K aq aO pm S steps) (O:Ok S) (hw:S.w.length≤1000000000) (cZ:Shape S.c) (bh:∀a ∈ S.c.a,a.k=1→a.n ∈ S.e.map Prod.fst) (al:S.c.k=12) {aN:List UInt8}:bB Tryz.prog 59 [.ptr an 0] h fun x J=>∃aK aJ,dr aj J an aK aJ aO pm (S.step aN) steps:=by
 obtain ⟨jt,eq,fB,c5,M⟩:=M
 obtain ⟨fo,co,aX,a6,az,rfl,dv,eL,cJ,dT⟩:=M.co.open
 have cE:=M.get
 rw [al] at dT
 have lc:=dT h M.rep.ext
 refine pz rfl (bO ?_)
 unfold oL
 simp +contextual only [cE,lc.1,↓ab,ae,simprocAttr]
 refine aS (px M bh cZ.oe) ?_
 rintro x ad ⟨jq,hk,aD,dO,fI,h7⟩
 obtain ⟨kG,cW,k2,nd,l5,hv⟩:=av.l3 S S.c.a
 have hQ:=O.atoms S.c.a cZ.at_
 have dY:=aD.get
 have bc:=dT ad aD.rep.ext
 have di:S.step aN=(S.atoms S.c.a).1.dE aN (S.atoms S.c.a).2:=rfl
 generalize (S.atoms S.c.a).1=T at *
 generalize (S.atoms S.c.a).2=bu at *
 have cr:ek ad hk bu x:=⟨dO.v,fI⟩
 have e_:T.c.k=12:=by rw [cW];exact al
 have dF:=M.rep.ext.next
 obtain ⟨aW,rfl⟩:∃aW,bu=[aW]:=by
  have:bu.length=1:=by rw [hv];exact cZ.bt (by omega)
  match bu,this with
  | [a],_=>exact ⟨a,rfl⟩
 obtain ⟨eU,cQ,ey,fN,_,_,b3,jE,bY⟩:=aD.arg cr 0 0 aW rfl rfl
 have e2:=bY _ (Ext.refl _)
 simp +contextual only [cE,dY,lc.1,bc.1,b3,e2.1,↓ab,ae,simprocAttr]
 refine aS (tq ⟨_,_,_,_,aD⟩ hQ.w eU) ?_
 rintro y ak ⟨er,M2⟩
 simp +contextual only [b3,e2.1,↓ab,ae,simprocAttr]
 refine ⟨er,hk,?_⟩
 rw [di]
 have:T.dE aN [aW]=T.p7 aW:=by simp only [av.dE,e_,↓reduceIte,Int.reduceEq,reduceCtorEq,false_or,or_false,or_true,true_or,List.getD_cons_zero,List.getD_cons_succ]
 rw [this]
 exact M2
set_option maxHeartbeats 4000000 in
theorem afU (M:dr aj h an K aq aO pm S steps) (O:Ok S) (hw:S.w.length≤1000000000) (cZ:Shape S.c) (bh:∀a ∈ S.c.a,a.k=1→a.n ∈ S.e.map Prod.fst) (al:S.c.k=4) {aN:List UInt8}:bB Tryz.prog 59 [.ptr an 0] h fun x J=>∃aK aJ,dr aj J an aK aJ aO pm (S.step aN) steps:=by
 obtain ⟨jt,eq,fB,c5,M⟩:=M
 obtain ⟨fo,co,aX,a6,az,rfl,dv,eL,cJ,dT⟩:=M.co.open
 have cE:=M.get
 rw [al] at dT
 have lc:=dT h M.rep.ext
 refine pz rfl (bO ?_)
 unfold oL
 simp +contextual only [cE,lc.1,↓ab,ae,simprocAttr]
 refine aS (px M bh cZ.oe) ?_
 rintro x ad ⟨jq,hk,aD,dO,fI,h7⟩
 obtain ⟨kG,cW,k2,nd,l5,hv⟩:=av.l3 S S.c.a
 have hQ:=O.atoms S.c.a cZ.at_
 have dY:=aD.get
 have bc:=dT ad aD.rep.ext
 have di:S.step aN=(S.atoms S.c.a).1.dE aN (S.atoms S.c.a).2:=rfl
 generalize (S.atoms S.c.a).1=T at *
 generalize (S.atoms S.c.a).2=bu at *
 have cr:ek ad hk bu x:=⟨dO.v,fI⟩
 have e_:T.c.k=4:=by rw [cW];exact al
 have dF:=M.rep.ext.next
 simp +contextual only [cE,dY,lc.1,bc.1,bc.2.2.1,↓ab,ae,simprocAttr]
 refine aS (oh ad S.c.n x dO.v.one) ?_
 rintro y ak F
 obtain ⟨er,gg,M2,rfl,a1⟩:=aD.HQ F (dO.mono dF) h7 fI
 simp +contextual only [↓ab,ae,simprocAttr]
 refine aS (mr ⟨_,_,_,_,M2⟩ hQ.w a1) ?_
 rintro y ak ⟨kW,bI⟩
 simp +contextual only [↓ab,ae,simprocAttr]
 refine ⟨kW,gg,?_⟩
 rw [di]
 have:T.dE aN bu=T.dN (.df T.c.n bu):=by simp only [av.dE,e_,↓reduceIte,Int.reduceEq,reduceCtorEq,false_or,or_false,or_true,true_or,List.getD_cons_zero,List.getD_cons_succ]
 rw [this]
 exact by rw [cW];exact bI
set_option maxHeartbeats 4000000 in
theorem afV (M:dr aj h an K aq aO pm S steps) (O:Ok S) (hw:S.w.length≤1000000000) (cZ:Shape S.c) (bh:∀a ∈ S.c.a,a.k=1→a.n ∈ S.e.map Prod.fst) (D:BC aj pm) {aN:List UInt8} (en:cj aj 1 aO aN.length (dt aN)) (hlen:aN.length≤1073741824) (fx:S.read≤aN.length) (al:S.c.k=3):bB Tryz.prog 59 [.ptr an 0] h fun x J=>∃aK aJ,dr aj J an aK aJ aO pm (S.step aN) steps:=by
 obtain ⟨jt,eq,fB,c5,M⟩:=M
 obtain ⟨fo,co,aX,a6,az,rfl,dv,eL,cJ,dT⟩:=M.co.open
 have cE:=M.get
 rw [al] at dT
 have lc:=dT h M.rep.ext
 refine pz rfl (bO ?_)
 unfold oL
 simp +contextual only [cE,lc.1,↓ab,ae,simprocAttr]
 refine aS (px M bh cZ.oe) ?_
 rintro x ad ⟨jq,hk,aD,dO,fI,h7⟩
 obtain ⟨kG,cW,k2,nd,l5,hv⟩:=av.l3 S S.c.a
 have hQ:=O.atoms S.c.a cZ.at_
 have dY:=aD.get
 have bc:=dT ad aD.rep.ext
 have di:S.step aN=(S.atoms S.c.a).1.dE aN (S.atoms S.c.a).2:=rfl
 generalize (S.atoms S.c.a).1=T at *
 generalize (S.atoms S.c.a).2=bu at *
 have cr:ek ad hk bu x:=⟨dO.v,fI⟩
 have e_:T.c.k=3:=by rw [cW];exact al
 have dF:=M.rep.ext.next
 obtain ⟨b_,ch⟩:=cZ.cI al
 obtain ⟨f,cs,aP,aA⟩:=adx D ⟨_,_,_,_,aD⟩ hQ en hlen (by rw [l5];exact fx) cr (s:=S.c.s) (by rw [hv];exact b_) ch
 simp +contextual only [cE,dY,lc.1,bc.1,bc.2.2.2.1,aP,↓ab,ae,simprocAttr]
 refine aS aA ?_
 rintro y ak ⟨er,gg,M2⟩
 simp +contextual only [SU,dY,bc.2.2.2.1,aP,↓ab,ae,simprocAttr]
 refine ⟨er,gg,?_⟩
 rw [di]
 have:T.dE aN bu=T.n_ aN T.c.s bu:=by simp only [av.dE,e_,↓reduceIte,Int.reduceEq,reduceCtorEq,false_or,or_false,or_true,true_or,List.getD_cons_zero,List.getD_cons_succ]
 rw [this]
 exact by rw [cW];exact M2
set_option maxHeartbeats 4000000 in
theorem afO (M:dr aj h an K aq aO pm S steps) (O:Ok S) (hw:S.w.length≤1000000000) (cZ:Shape S.c) (bh:∀a ∈ S.c.a,a.k=1→a.n ∈ S.e.map Prod.fst) (al:S.c.k=6) {aN:List UInt8}:bB Tryz.prog 59 [.ptr an 0] h fun x J=>∃aK aJ,dr aj J an aK aJ aO pm (S.step aN) steps:=by
 obtain ⟨jt,eq,fB,c5,M⟩:=M
 obtain ⟨fo,co,aX,a6,az,rfl,dv,eL,cJ,dT⟩:=M.co.open
 have cE:=M.get
 rw [al] at dT
 have lc:=dT h M.rep.ext
 refine pz rfl (bO ?_)
 unfold oL
 simp +contextual only [cE,lc.1,↓ab,ae,simprocAttr]
 refine aS (px M bh cZ.oe) ?_
 rintro x ad ⟨jq,hk,aD,dO,fI,h7⟩
 obtain ⟨kG,cW,k2,nd,l5,hv⟩:=av.l3 S S.c.a
 have hQ:=O.atoms S.c.a cZ.at_
 have dY:=aD.get
 have bc:=dT ad aD.rep.ext
 have di:S.step aN=(S.atoms S.c.a).1.dE aN (S.atoms S.c.a).2:=rfl
 generalize (S.atoms S.c.a).1=T at *
 generalize (S.atoms S.c.a).2=bu at *
 have cr:ek ad hk bu x:=⟨dO.v,fI⟩
 have e_:T.c.k=6:=by rw [cW];exact al
 have dF:=M.rep.ext.next
 obtain ⟨aW,bU,rfl⟩:∃aW bU,bu=[aW,bU]:=by
  have:bu.length=2:=by rw [hv];exact cZ.b1 al
  match bu,this with
  | [a,b],_=>exact ⟨a,b,rfl⟩
 obtain ⟨eU,cQ,ey,fN,_,_,b3,jE,bY⟩:=aD.arg cr 0 0 aW rfl rfl
 have e2:=bY _ (Ext.refl _)
 obtain ⟨jk,bX,dj,k3,_,_,cB,nD,b7⟩:=aD.arg cr 1 1 bU rfl rfl
 have yl:=b7 _ (Ext.refl _)
 simp +contextual only [cE,dY,lc.1,bc.1,b3,e2.1,cB,yl.1,↓ab,ae,simprocAttr]
 refine aS (Va ⟨_,_,_,_,aD⟩ eU jk) ?_
 rintro y ak ⟨er,gg,M2⟩
 simp +contextual only [b3,e2.1,cB,yl.1,↓ab,ae,simprocAttr]
 refine ⟨er,gg,?_⟩
 rw [di]
 have:T.dE aN [aW,bU]=T.call aW bU:=by simp only [av.dE,e_,↓reduceIte,Int.reduceEq,reduceCtorEq,false_or,or_false,or_true,true_or,List.getD_cons_zero,List.getD_cons_succ]
 rw [this]
 exact M2
set_option maxHeartbeats 4000000 in
theorem afX (M:dr aj h an K aq aO pm S steps) (O:Ok S) (hw:S.w.length≤1000000000) (cZ:Shape S.c) (bh:∀a ∈ S.c.a,a.k=1→a.n ∈ S.e.map Prod.fst) (al:S.c.k=8) {aN:List UInt8}:bB Tryz.prog 59 [.ptr an 0] h fun x J=>∃aK aJ,dr aj J an aK aJ aO pm (S.step aN) steps:=by
 obtain ⟨jt,eq,fB,c5,M⟩:=M
 obtain ⟨fo,co,aX,a6,az,rfl,dv,eL,cJ,dT⟩:=M.co.open
 have cE:=M.get
 rw [al] at dT
 have lc:=dT h M.rep.ext
 refine pz rfl (bO ?_)
 unfold oL
 simp +contextual only [cE,lc.1,↓ab,ae,simprocAttr]
 refine aS (px M bh cZ.oe) ?_
 rintro x ad ⟨jq,hk,aD,dO,fI,h7⟩
 obtain ⟨kG,cW,k2,nd,l5,hv⟩:=av.l3 S S.c.a
 have hQ:=O.atoms S.c.a cZ.at_
 have dY:=aD.get
 have bc:=dT ad aD.rep.ext
 have di:S.step aN=(S.atoms S.c.a).1.dE aN (S.atoms S.c.a).2:=rfl
 generalize (S.atoms S.c.a).1=T at *
 generalize (S.atoms S.c.a).2=bu at *
 have cr:ek ad hk bu x:=⟨dO.v,fI⟩
 have e_:T.c.k=8:=by rw [cW];exact al
 have dF:=M.rep.ext.next
 simp +contextual only [cE,dY,lc.1,bc.1,↓ab,ae,simprocAttr]
 obtain ⟨aY,bn⟩:=cZ.HH al
 refine aS (ad2 ⟨_,_,_,_,aD⟩ (by rw [cW];omega) (by rw [cW];have:=cZ.g2;omega) (by rw [cW];intro f ar;rw [bn f ar];exact Nat.le_refl _)) ?_
 rintro y ak ⟨er,gg,M2⟩
 simp +contextual only [↓ab,ae,simprocAttr]
 refine ⟨er,gg,?_⟩
 rw [di]
 have:T.dE aN bu=T.pb:=by simp only [av.dE,e_,↓reduceIte,Int.reduceEq,reduceCtorEq,false_or,or_false,or_true,true_or,List.getD_cons_zero,List.getD_cons_succ]
 rw [this]
 exact M2
set_option maxHeartbeats 4000000 in
theorem afY (M:dr aj h an K aq aO pm S steps) (O:Ok S) (hw:S.w.length≤1000000000) (cZ:Shape S.c) (bh:∀a ∈ S.c.a,a.k=1→a.n ∈ S.e.map Prod.fst) (al:S.c.k=9) {aN:List UInt8}:bB Tryz.prog 59 [.ptr an 0] h fun x J=>∃aK aJ,dr aj J an aK aJ aO pm (S.step aN) steps:=by
 obtain ⟨jt,eq,fB,c5,M⟩:=M
 obtain ⟨fo,co,aX,a6,az,rfl,dv,eL,cJ,dT⟩:=M.co.open
 have cE:=M.get
 rw [al] at dT
 have lc:=dT h M.rep.ext
 refine pz rfl (bO ?_)
 unfold oL
 simp +contextual only [cE,lc.1,↓ab,ae,simprocAttr]
 refine aS (px M bh cZ.oe) ?_
 rintro x ad ⟨jq,hk,aD,dO,fI,h7⟩
 obtain ⟨kG,cW,k2,nd,l5,hv⟩:=av.l3 S S.c.a
 have hQ:=O.atoms S.c.a cZ.at_
 have dY:=aD.get
 have bc:=dT ad aD.rep.ext
 have di:S.step aN=(S.atoms S.c.a).1.dE aN (S.atoms S.c.a).2:=rfl
 generalize (S.atoms S.c.a).1=T at *
 generalize (S.atoms S.c.a).2=bu at *
 have cr:ek ad hk bu x:=⟨dO.v,fI⟩
 have e_:T.c.k=9:=by rw [cW];exact al
 have dF:=M.rep.ext.next
 obtain ⟨aW,rfl⟩:∃aW,bu=[aW]:=by
  have:bu.length=1:=by rw [hv];exact cZ.bt (by omega)
  match bu,this with
  | [a],_=>exact ⟨a,rfl⟩
 obtain ⟨eU,cQ,ey,fN,_,_,b3,jE,bY⟩:=aD.arg cr 0 0 aW rfl rfl
 have e2:=bY _ (Ext.refl _)
 simp +contextual only [cE,dY,lc.1,bc.1,b3,e2.1,↓ab,ae,simprocAttr]
 refine aS (MR ⟨_,_,_,_,aD⟩ (hr:=false) (yj:=4) rfl eU (by rw [cW];exact cZ.t9 (by omega)) (by rw [cW];exact cZ.st) (by rw [cW];have:=cZ.g2;omega)) ?_
 rintro y ak M2
 simp +contextual only [b3,e2.1,↓ab,ae,simprocAttr]
 refine ⟨jq,hk,?_⟩
 rw [di]
 have:T.dE aN [aW]=T.hX false aW:=by simp only [av.dE,e_,↓reduceIte,Int.reduceEq,reduceCtorEq,false_or,or_false,or_true,true_or,List.getD_cons_zero,List.getD_cons_succ]
 rw [this]
 exact M2
set_option maxHeartbeats 4000000 in
theorem afP (M:dr aj h an K aq aO pm S steps) (O:Ok S) (hw:S.w.length≤1000000000) (cZ:Shape S.c) (bh:∀a ∈ S.c.a,a.k=1→a.n ∈ S.e.map Prod.fst) (al:S.c.k=10) {aN:List UInt8}:bB Tryz.prog 59 [.ptr an 0] h fun x J=>∃aK aJ,dr aj J an aK aJ aO pm (S.step aN) steps:=by
 obtain ⟨jt,eq,fB,c5,M⟩:=M
 obtain ⟨fo,co,aX,a6,az,rfl,dv,eL,cJ,dT⟩:=M.co.open
 have cE:=M.get
 rw [al] at dT
 have lc:=dT h M.rep.ext
 refine pz rfl (bO ?_)
 unfold oL
 simp +contextual only [cE,lc.1,↓ab,ae,simprocAttr]
 refine aS (px M bh cZ.oe) ?_
 rintro x ad ⟨jq,hk,aD,dO,fI,h7⟩
 obtain ⟨kG,cW,k2,nd,l5,hv⟩:=av.l3 S S.c.a
 have hQ:=O.atoms S.c.a cZ.at_
 have dY:=aD.get
 have bc:=dT ad aD.rep.ext
 have di:S.step aN=(S.atoms S.c.a).1.dE aN (S.atoms S.c.a).2:=rfl
 generalize (S.atoms S.c.a).1=T at *
 generalize (S.atoms S.c.a).2=bu at *
 have cr:ek ad hk bu x:=⟨dO.v,fI⟩
 have e_:T.c.k=10:=by rw [cW];exact al
 have dF:=M.rep.ext.next
 obtain ⟨aW,rfl⟩:∃aW,bu=[aW]:=by
  have:bu.length=1:=by rw [hv];exact cZ.bt (by omega)
  match bu,this with
  | [a],_=>exact ⟨a,rfl⟩
 obtain ⟨eU,cQ,ey,fN,_,_,b3,jE,bY⟩:=aD.arg cr 0 0 aW rfl rfl
 have e2:=bY _ (Ext.refl _)
 simp +contextual only [cE,dY,lc.1,bc.1,b3,e2.1,↓ab,ae,simprocAttr]
 refine aS (MR ⟨_,_,_,_,aD⟩ (hr:=true) (yj:=1) rfl eU (by rw [cW];exact cZ.t9 (by omega)) (by rw [cW];exact cZ.st) (by rw [cW];have:=cZ.g2;omega)) ?_
 rintro y ak M2
 simp +contextual only [b3,e2.1,↓ab,ae,simprocAttr]
 refine ⟨jq,hk,?_⟩
 rw [di]
 have:T.dE aN [aW]=T.hX true aW:=by simp only [av.dE,e_,↓reduceIte,Int.reduceEq,reduceCtorEq,false_or,or_false,or_true,true_or,List.getD_cons_zero,List.getD_cons_succ]
 rw [this]
 exact M2
set_option maxHeartbeats 4000000 in
theorem afR (M:dr aj h an K aq aO pm S steps) (O:Ok S) (hw:S.w.length≤1000000000) (cZ:Shape S.c) (bh:∀a ∈ S.c.a,a.k=1→a.n ∈ S.e.map Prod.fst) (al:S.c.k=7) {aN:List UInt8}:bB Tryz.prog 59 [.ptr an 0] h fun x J=>∃aK aJ,dr aj J an aK aJ aO pm (S.step aN) steps:=by
 obtain ⟨jt,eq,fB,c5,M⟩:=M
 obtain ⟨fo,co,aX,a6,az,rfl,dv,eL,cJ,dT⟩:=M.co.open
 have cE:=M.get
 rw [al] at dT
 have lc:=dT h M.rep.ext
 refine pz rfl (bO ?_)
 unfold oL
 simp +contextual only [cE,lc.1,↓ab,ae,simprocAttr]
 refine aS (px M bh cZ.oe) ?_
 rintro x ad ⟨jq,hk,aD,dO,fI,h7⟩
 obtain ⟨kG,cW,k2,nd,l5,hv⟩:=av.l3 S S.c.a
 have hQ:=O.atoms S.c.a cZ.at_
 have dY:=aD.get
 have bc:=dT ad aD.rep.ext
 have di:S.step aN=(S.atoms S.c.a).1.dE aN (S.atoms S.c.a).2:=rfl
 generalize (S.atoms S.c.a).1=T at *
 generalize (S.atoms S.c.a).2=bu at *
 have cr:ek ad hk bu x:=⟨dO.v,fI⟩
 have e_:T.c.k=7:=by rw [cW];exact al
 have dF:=M.rep.ext.next
 have oT:=cZ.HG al
 obtain ⟨q,Hv,aZ⟩:=h5.eg cJ (k:=.i64) (i:=0) (by omega)
 have OG:e8 7 az (.int .i64 0)=some q:=Hv
 have tf:=aZ.one
 have fr:=aD.dy.one
 simp +contextual only [cE,dY,lc.1,bc.1,bc.2.1,bc.2.2.2.2.2.2,OG,tf.1,tf.2.1,tf.2.2,fr.1,fr.2.1,fr.2.2,↓ab,ae,simprocAttr]
 have F:gX ad (ad.new (.au [.int .i64 3,.int .i64 S.c.x,.str [],.aw,q,eq,.bool false] 0 false)) (.ptr (ao ad.next) 0) [.int .i64 3,.int .i64 S.c.x,.str [],.aw,q,eq,.bool false]:=pI _ _
 obtain ⟨er,gg,M2,bG,a1,t⟩:=aD.AJ F aZ aD.dy
 rw [bG]
 have eB:(ao ad.next=an)=False:=gi aD.b5.2 (Nat.le_refl _)
 have eI:=dT _ M2.rep.ext
 simp only [eG] at eI
 refine aS (mr ⟨_,_,_,_,M2⟩ hQ.w a1) ?_
 rintro y ak ⟨kW,bI⟩
 simp +contextual only [eB,dY,bc.2.1,bc.2.2.2.2.2.2,eI.2.1,eI.2.2.2.2.2.2,OG,↓ab,ae,simprocAttr]
 refine ⟨kW,gg,?_⟩
 rw [di]
 have:T.dE aN bu=T.dN (.fn T.c.x (T.eg 0) T.e):=by simp only [av.dE,e_,↓reduceIte,Int.reduceEq,reduceCtorEq,false_or,or_false,or_true,true_or,List.getD_cons_zero,List.getD_cons_succ]
 rw [this]
 exact by
  have GN:T.eg 0=S.c.l[0]'(by omega):=by
   simp only [av.eg,cW]
   rw [List.getD_eq_getElem?_getD,List.getElem?_eq_getElem (by omega)];rfl
  rw [GN,cW];exact bI
end
end Go.Proofs.YtjbiefneffiogaaGreat
namespace Go.Proofs.YtjbiefneffiogaaGreat
open Go bs
section
variable {aj h J:ai} {an:aV} {K aK:fl} {aq:List aV} {aO pm:V} {S:av} {steps:Int} {dS bZ b4 bj:V}
set_option maxHeartbeats 4000000 in
theorem afS (M:dr aj h an K aq aO pm S steps) (O:Ok S) (hw:S.w.length≤1000000000) (cZ:Shape S.c) (bh:∀a ∈ S.c.a,a.k=1→a.n ∈ S.e.map Prod.fst) (al:S.c.k=5) {aN:List UInt8}:bB Tryz.prog 59 [.ptr an 0] h fun x J=>∃aK aJ,dr aj J an aK aJ aO pm (S.step aN) steps:=by
 obtain ⟨jt,eq,fB,c5,M⟩:=M
 obtain ⟨fo,co,aX,a6,az,rfl,dv,eL,cJ,dT⟩:=M.co.open
 have cE:=M.get
 rw [al] at dT
 have lc:=dT h M.rep.ext
 refine pz rfl (bO ?_)
 unfold oL
 simp +contextual only [cE,lc.1,↓ab,ae,simprocAttr]
 refine aS (px M bh cZ.oe) ?_
 rintro x ad ⟨jq,hk,aD,dO,fI,h7⟩
 obtain ⟨kG,cW,k2,nd,l5,hv⟩:=av.l3 S S.c.a
 have hQ:=O.atoms S.c.a cZ.at_
 have dY:=aD.get
 have bc:=dT ad aD.rep.ext
 have di:S.step aN=(S.atoms S.c.a).1.dE aN (S.atoms S.c.a).2:=rfl
 generalize (S.atoms S.c.a).1=T at *
 generalize (S.atoms S.c.a).2=bu at *
 have cr:ek ad hk bu x:=⟨dO.v,fI⟩
 have e_:T.c.k=5:=by rw [cW];exact al
 have dF:=M.rep.ext.next
 obtain ⟨aW,rfl⟩:∃aW,bu=[aW]:=by
  have:bu.length=1:=by rw [hv];exact cZ.bt (by omega)
  match bu,this with
  | [a],_=>exact ⟨a,rfl⟩
 obtain ⟨eU,cQ,ey,fN,_,_,b3,jE,bY⟩:=aD.arg cr 0 0 aW rfl rfl
 have e2:=bY _ (Ext.refl _)
 obtain ⟨dL,eJ⟩:=cZ.n5 al
 have m8:dr aj ad an jq hk aO pm T steps:=⟨_,_,_,_,aD⟩
 by_cases bw:¬cP (T.val aW)=4
 · have l8:=eq_false bw
   simp +contextual only [cE,dY,lc.1,bc.1,b3,e2.1,e2.2,l8,↓ab,ae,simprocAttr]
   refine aS (pD m8 6) ?_
   rintro y ak M2
   simp +contextual only [↓ab,ae,simprocAttr]
   refine ⟨jq,hk,?_⟩
   rw [di]
   have:T.dE aN [aW]=T.gb:=by
    simp only [av.dE,e_,↓reduceIte,Int.reduceEq,reduceCtorEq,false_or,or_false,List.getD_cons_zero,av.l6]
    cases bh:T.val aW<;>first | rfl | (rw [bh] at bw;exact (bw rfl).elim)
   rw [this]
   exact M2
 obtain ⟨t,bg,bh⟩:=wz (Decidable.not_not.1 bw)
 rw [bh] at e2 jE
 simp only [cP,dD,e3] at e2
 obtain ⟨f1,f2,f3⟩:=jE
 have hJ:=f1.v.len
 by_cases a1:(bg.length:Int)≤S.c.n
 · have vX:=eq_true a1
   simp +contextual only [cE,dY,lc.1,bc.1,bc.2.2.1,b3,e2.1,e2.2,hJ,vX,↓ab,ae,simprocAttr]
   refine aS (pD m8 6) ?_
   rintro y ak M2
   simp +contextual only [↓ab,ae,simprocAttr]
   refine ⟨jq,hk,?_⟩
   rw [di]
   have:T.dE aN [aW]=T.gb:=by
    have:T.dE aN [aW]=T.l6 T.c.n aW:=by simp only [av.dE,e_,↓reduceIte,Int.reduceEq,reduceCtorEq,false_or,or_false,List.getD_cons_zero]
    rw [this]
    simp only [av.l6,bh]
    rw [cW,if_pos a1]
   rw [this]
   exact M2
 have vX:=eq_false a1
 obtain ⟨m,hm⟩:∃m:Nat,S.c.n=(m:Int):=⟨S.c.n.toNat,by omega⟩
 have va:ek ad hk bg fN:=⟨f1.v,f3⟩
 obtain ⟨cD,eW,ib,jN,Ae⟩:=va.at (k:=.i64) (i:=m) (by omega)
 rw [←hm] at ib
 have AI:=jN _ (Ext.refl _)
 simp +contextual only [cE,dY,lc.1,bc.1,bc.2.2.1,b3,e2.1,e2.2,hJ,vX,ib,AI,↓ab,ae,simprocAttr]
 refine aS (mr m8 hQ.w Ae) ?_
 rintro y ak ⟨er,M2⟩
 simp +contextual only [dY,bc.2.2.1,b3,e2.1,e2.2,ib,AI,↓ab,ae,simprocAttr]
 refine ⟨er,hk,?_⟩
 rw [di]
 have:T.dE aN [aW]=T.m1 (bg.getD m 0):=by
  have:T.dE aN [aW]=T.l6 T.c.n aW:=by simp only [av.dE,e_,↓reduceIte,Int.reduceEq,reduceCtorEq,false_or,or_false,List.getD_cons_zero]
  rw [this]
  simp only [av.l6,bh]
  rw [cW,if_neg a1,hm]
  rfl
 rw [this]
 exact M2
set_option maxHeartbeats 4000000 in
theorem afT (M:dr aj h an K aq aO pm S steps) (O:Ok S) (hw:S.w.length≤1000000000) (cZ:Shape S.c) (bh:∀a ∈ S.c.a,a.k=1→a.n ∈ S.e.map Prod.fst) (al:S.c.k=2) {aN:List UInt8}:bB Tryz.prog 59 [.ptr an 0] h fun x J=>∃aK aJ,dr aj J an aK aJ aO pm (S.step aN) steps:=by
 obtain ⟨jt,eq,fB,c5,M⟩:=M
 obtain ⟨fo,co,aX,a6,az,rfl,dv,eL,cJ,dT⟩:=M.co.open
 have cE:=M.get
 rw [al] at dT
 have lc:=dT h M.rep.ext
 refine pz rfl (bO ?_)
 unfold oL
 simp +contextual only [cE,lc.1,↓ab,ae,simprocAttr]
 refine aS (px M bh cZ.oe) ?_
 rintro x ad ⟨jq,hk,aD,dO,fI,h7⟩
 obtain ⟨kG,cW,k2,nd,l5,hv⟩:=av.l3 S S.c.a
 have hQ:=O.atoms S.c.a cZ.at_
 have dY:=aD.get
 have bc:=dT ad aD.rep.ext
 have di:S.step aN=(S.atoms S.c.a).1.dE aN (S.atoms S.c.a).2:=rfl
 generalize (S.atoms S.c.a).1=T at *
 generalize (S.atoms S.c.a).2=bu at *
 have cr:ek ad hk bu x:=⟨dO.v,fI⟩
 have e_:T.c.k=2:=by rw [cW];exact al
 have dF:=M.rep.ext.next
 have gZ:=cZ.eI (by omega)
 obtain ⟨tl,Hw,Au⟩:=h5.eg cJ (k:=.i64) (i:=0) (by omega)
 obtain ⟨aP,Hy,Av⟩:=h5.eg cJ (k:=.i64) (i:=1) (by omega)
 have Hx:e8 7 az (.int .i64 0)=some tl:=Hw
 have Hz:e8 7 az (.int .i64 1)=some aP:=Hy
 have wP:=Au.one
 have tg:=Av.one
 have fr:=aD.dy.one
 have W:=aD.wr
 obtain ⟨us,dH,dq,hA,ix⟩:=W
 have Gm:T.w.length≤1000000000:=by rw [k2];exact hw
 obtain ⟨db,aB,b_,ch,cI,ga,fG⟩:=ja (size:=4) (cs:=[.bool false,.int .i64 S.c.x,aP,eq]) (by omega) dH aD.rep.ext.next (by unfold top;omega) rfl (by simp only [gv,tg.1,fr.1,Bool.and_self];rfl)
 obtain ⟨kW,bI⟩:=aD.waited (a:=⟨false,S.c.x,S.c.l[1]'(by omega),T.e⟩) Av aD.dy dH ch cI (fun b q=>by rcases fG b q with r | r;exact .inl r;exact .inr (by omega)) ⟨us,rfl,hA,ix⟩
 have bz:=bI.next {T with w:=⟨false,S.c.x,S.c.l[1]'(by omega),T.e⟩::T.w,c:=S.c.l[0]'(by omega)} steps tl eq db c5 rfl Au bI.dy bI.wr bI.de
 have dx:=ch.v.one
 have eB:(ao ad.next=an)=False:=gi aD.b5.2 (Nat.le_refl _)
 have me:=dT _ (aD.rep.ext.trans ((Ext.refl ad).new (.au [.bool false,.int .i64 S.c.x,aP,eq] 0 false)))
 simp only [eG] at me
 have iQ:aB.get an=_:=(cI.get an aD.b5.2 (fun q=>by have:=dq an q;rw [aD.dp] at this;cases this)).trans dY
 have cp:Ext aj aB:=⟨by have:=aD.rep.ext.next;omega,fun b af=>(cI.get b (Nat.lt_of_lt_of_le af aD.rep.ext.next) (fun q=>by have:=dH.base q;unfold Old at af;omega)).trans (aD.rep.ext.get b af)⟩
 have lG:=dT aB cp
 have mU:=dT _ bI.rep.ext
 simp only [dB] at mU
 simp +contextual only [cE,dY,lc.1,bc.1,bc.2.1,bc.2.2.2.2.2.2,Hx,Hz,wP.1,wP.2.1,wP.2.2,tg.1,tg.2.1,tg.2.2,fr.1,fr.2.1,fr.2.2,eB,me.1,me.2.1,me.2.2.2.2.2.2,b_,iQ,lG.1,lG.2.1,lG.2.2.2.2.2.2,mU.2.2.2.2.2.2,dx.1,dx.2.1,↓ab,ae,simprocAttr]
 refine ⟨kW,hk,?_⟩
 rw [di]
 have np:T.eg 0=S.c.l[0]'(by omega):=by
  simp only [av.eg,cW]
  rw [List.getD_eq_getElem?_getD,List.getElem?_eq_getElem (by omega)];rfl
 have ki:T.eg 1=S.c.l[1]'(by omega):=by
  simp only [av.eg,cW]
  rw [List.getD_eq_getElem?_getD,List.getElem?_eq_getElem (by omega)];rfl
 have:T.dE aN bu={T with w:=⟨false,S.c.x,S.c.l[1]'(by omega),T.e⟩::T.w,c:=S.c.l[0]'(by omega)}:=by
  simp only [av.dE,e_,↓reduceIte,Int.reduceEq,reduceCtorEq,false_or,or_false,or_true,true_or,av.waits,np,ki]
  rw [cW]
  rfl
 rw [this]
 exact ⟨_,_,_,_,bz⟩
set_option maxHeartbeats 4000000 in
theorem afZ (M:dr aj h an K aq aO pm S steps) (O:Ok S) (hw:S.w.length≤1000000000) (cZ:Shape S.c) (bh:∀a ∈ S.c.a,a.k=1→a.n ∈ S.e.map Prod.fst) (al:S.c.k=11) {aN:List UInt8}:bB Tryz.prog 59 [.ptr an 0] h fun x J=>∃aK aJ,dr aj J an aK aJ aO pm (S.step aN) steps:=by
 obtain ⟨jt,eq,fB,c5,M⟩:=M
 obtain ⟨fo,co,aX,a6,az,rfl,dv,eL,cJ,dT⟩:=M.co.open
 have cE:=M.get
 rw [al] at dT
 have lc:=dT h M.rep.ext
 refine pz rfl (bO ?_)
 unfold oL
 simp +contextual only [cE,lc.1,↓ab,ae,simprocAttr]
 refine aS (px M bh cZ.oe) ?_
 rintro x ad ⟨jq,hk,aD,dO,fI,h7⟩
 obtain ⟨kG,cW,k2,nd,l5,hv⟩:=av.l3 S S.c.a
 have hQ:=O.atoms S.c.a cZ.at_
 have dY:=aD.get
 have bc:=dT ad aD.rep.ext
 have di:S.step aN=(S.atoms S.c.a).1.dE aN (S.atoms S.c.a).2:=rfl
 generalize (S.atoms S.c.a).1=T at *
 generalize (S.atoms S.c.a).2=bu at *
 have cr:ek ad hk bu x:=⟨dO.v,fI⟩
 have e_:T.c.k=11:=by rw [cW];exact al
 have dF:=M.rep.ext.next
 have gZ:=cZ.eI (by omega)
 obtain ⟨tl,Hw,Au⟩:=h5.eg cJ (k:=.i64) (i:=0) (by omega)
 obtain ⟨aP,Hy,Av⟩:=h5.eg cJ (k:=.i64) (i:=1) (by omega)
 have Hx:e8 7 az (.int .i64 0)=some tl:=Hw
 have Hz:e8 7 az (.int .i64 1)=some aP:=Hy
 have wP:=Au.one
 have tg:=Av.one
 have fr:=aD.dy.one
 have W:=aD.wr
 obtain ⟨us,dH,dq,hA,ix⟩:=W
 have Gm:T.w.length≤1000000000:=by rw [k2];exact hw
 obtain ⟨db,aB,b_,ch,cI,ga,fG⟩:=ja (size:=4) (cs:=[.bool true,.int .i64 S.c.x,aP,eq]) (by omega) dH aD.rep.ext.next (by unfold top;omega) rfl (by simp only [gv,tg.1,fr.1,Bool.and_self];rfl)
 obtain ⟨kW,bI⟩:=aD.waited (a:=⟨true,S.c.x,S.c.l[1]'(by omega),T.e⟩) Av aD.dy dH ch cI (fun b q=>by rcases fG b q with r | r;exact .inl r;exact .inr (by omega)) ⟨us,rfl,hA,ix⟩
 have bz:=bI.next {T with w:=⟨true,S.c.x,S.c.l[1]'(by omega),T.e⟩::T.w,c:=S.c.l[0]'(by omega)} steps tl eq db c5 rfl Au bI.dy bI.wr bI.de
 have dx:=ch.v.one
 have eB:(ao ad.next=an)=False:=gi aD.b5.2 (Nat.le_refl _)
 have me:=dT _ (aD.rep.ext.trans ((Ext.refl ad).new (.au [.bool true,.int .i64 S.c.x,aP,eq] 0 false)))
 simp only [eG] at me
 have iQ:aB.get an=_:=(cI.get an aD.b5.2 (fun q=>by have:=dq an q;rw [aD.dp] at this;cases this)).trans dY
 have cp:Ext aj aB:=⟨by have:=aD.rep.ext.next;omega,fun b af=>(cI.get b (Nat.lt_of_lt_of_le af aD.rep.ext.next) (fun q=>by have:=dH.base q;unfold Old at af;omega)).trans (aD.rep.ext.get b af)⟩
 have lG:=dT aB cp
 have mU:=dT _ bI.rep.ext
 simp only [dB] at mU
 simp +contextual only [cE,dY,lc.1,bc.1,bc.2.1,bc.2.2.2.2.2.2,Hx,Hz,wP.1,wP.2.1,wP.2.2,tg.1,tg.2.1,tg.2.2,fr.1,fr.2.1,fr.2.2,eB,me.1,me.2.1,me.2.2.2.2.2.2,b_,iQ,lG.1,lG.2.1,lG.2.2.2.2.2.2,mU.2.2.2.2.2.2,dx.1,dx.2.1,↓ab,ae,simprocAttr]
 refine ⟨kW,hk,?_⟩
 rw [di]
 have np:T.eg 0=S.c.l[0]'(by omega):=by
  simp only [av.eg,cW]
  rw [List.getD_eq_getElem?_getD,List.getElem?_eq_getElem (by omega)];rfl
 have ki:T.eg 1=S.c.l[1]'(by omega):=by
  simp only [av.eg,cW]
  rw [List.getD_eq_getElem?_getD,List.getElem?_eq_getElem (by omega)];rfl
 have:T.dE aN bu={T with w:=⟨true,S.c.x,S.c.l[1]'(by omega),T.e⟩::T.w,c:=S.c.l[0]'(by omega)}:=by
  simp only [av.dE,e_,↓reduceIte,Int.reduceEq,reduceCtorEq,false_or,or_false,or_true,true_or,av.waits,np,ki]
  rw [cW]
  rfl
 rw [this]
 exact ⟨_,_,_,_,bz⟩
theorem afQ (M:dr aj h an K aq aO pm S steps) (O:Ok S) (hw:S.w.length≤1000000000) (cZ:Shape S.c) (bh:∀a ∈ S.c.a,a.k=1→a.n ∈ S.e.map Prod.fst) (gq:1≤S.c.k∧S.c.k≤12)
 (D:BC aj pm) {aN:List UInt8} (en:cj aj 1 aO aN.length (dt aN)) (hlen:aN.length≤1073741824) (fx:S.read≤aN.length):bB Tryz.prog 59 [.ptr an 0] h fun x J=>∃aK aJ,dr aj J an aK aJ aO pm (S.step aN) steps:=by
 have:S.c.k=1∨S.c.k=2∨S.c.k=3∨S.c.k=4∨S.c.k=5∨S.c.k=6∨S.c.k=7∨S.c.k=8∨S.c.k=9∨S.c.k=10∨S.c.k=11∨S.c.k=12:=by omega
 rcases this with al | al | al | al | al | al | al | al | al | al | al | al
 · exact step_ret M O hw cZ bh al
 · exact afT M O hw cZ bh al
 · exact afV M O hw cZ bh D en hlen fx al
 · exact afU M O hw cZ bh al
 · exact afS M O hw cZ bh al
 · exact afO M O hw cZ bh al
 · exact afR M O hw cZ bh al
 · exact afX M O hw cZ bh al
 · exact afY M O hw cZ bh al
 · exact afP M O hw cZ bh al
 · exact afZ M O hw cZ bh al
 · exact afW M O hw cZ bh al
end
end Go.Proofs.YtjbiefneffiogaaGreat
namespace Go.Proofs.YtjbiefneffiogaaGreat
open Go bs
def hx:List Int→Nat→List jY
 | [],_=>[]
 | x::l,n=>⟨.int .i64 x,.bool true,n⟩::hx l (n+1)
theorem Nu {k:Int}:∀(l:List Int) (n:Nat),nf fH.int.eq (.int .i64 k) (hx l n)=some (if l.contains k then some (.bool true) else none)
 | [],_=>rfl
 | x::l,n=>by
   have bJ:=Nu (k:=k) l (n+1)
   simp only [hx,nf,fH.eq,oN,V.eX,show nO .i64 .i64=true from rfl,cond_true,pE,List.contains_cons] at bJ ⊢
   by_cases h:k=x
   · subst h;simp
   · have af:(k == x)=false:=by simpa using h
     rw [decide_eq_false h,af,Bool.false_or]
     exact bJ
theorem Qb {k:Int} {c:Nat}:∀(l:List Int) (n:Nat),l.contains k=false→mj fH.int.eq (.int .i64 k) (.bool true) c (hx l n)=some (hx l n++[⟨.int .i64 k,.bool true,c⟩],true)
 | [],_,_=>rfl
 | x::l,n,h=>by
   rw [List.contains_cons,Bool.or_eq_false_iff] at h
   have bJ:=Qb (k:=k) (c:=c) l (n+1) h.2
   have ax:¬k=x:=by simpa using h.1
   simp only [hx,mj,fH.eq,oN,V.eX,show nO .i64 .i64=true from rfl,cond_true,pE,decide_eq_false ax,cond_false] at bJ ⊢
   rw [bJ]
   rfl
theorem Nh:∀(l:List Int) (n:Nat) (k:Int),hx l n++[⟨.int .i64 k,.bool true,n+l.length⟩]=hx (l++[k]) n
 | [],n,k=>rfl
 | x::l,n,k=>by
   rw [hx,List.cons_append,List.cons_append,hx,←Nh l (n+1) k,List.length_cons]
   congr 4
   omega
theorem abZ {h:ai} {b:aV} {l:List Int} {c:Nat} (bl:h.get b=.mp (hx l 0) c) (k:Int):lb fH.int.eq (.bool false) false h (.map b) (.int .i64 k)=some (.bool (l.contains k)):=by
 simp only [lb,r1,bl,cL.o6,Nu,cond_false]
 cases l.contains k<;>rfl
theorem I7 {h:ai} {b:aV} {l:List Int} (bl:h.get b=.mp (hx l 0) l.length) {k:Int} (al:l.contains k=false):lp fH.int.eq h (.map b) (.int .i64 k) (.bool true)=some (h.set b (.mp (hx (l++[k]) 0) (l++[k]).length)):=by
 simp only [lp,bl,cL.o6,Qb l 0 al,cond_true,Option.some.injEq]
 rw [←Nh l 0 k,Nat.zero_add,List.length_append]
 rfl
def sh (hr:Bool):List Int→List Int→Bool
 | _,[]=>true
 | seen,t::l=>(if hr then o4 t else gl t)&&!seen.contains t&&sh hr (seen++[t]) l
theorem Q9 (hr:Bool):∀(l seen:List Int),sh hr seen l=(kS hr l&&l.all fun t=>!seen.contains t)
 | [],seen=>by simp [sh,kS,diff]
 | t::l,seen=>by
   rw [sh,Q9 hr l (seen++[t])]
   have:(l.all fun u=>!(seen++[t]).contains u)=((l.all fun u=>!seen.contains u)&&!l.contains t):=by
    rw [Bool.eq_iff_iff]
    simp only [List.all_eq_true,Bool.and_eq_true,Bool.not_eq_true',List.contains_eq_mem,decide_eq_false_iff_not,List.mem_append,List.mem_singleton,not_or]
    constructor
    · intro h;exact ⟨fun x ax=>(h x ax).1,fun aF=>(h t aF).2 rfl⟩
    · rintro ⟨ad,ak⟩ x ax;exact ⟨ad x ax,fun e=>ak (e ▸ ax)⟩
   rw [this]
   simp only [kS,List.all_cons,diff]
   generalize (if hr=true then o4 t else gl t)=p
   generalize seen.contains t=q
   generalize l.contains t=r
   cases p<;>cases q<;>cases r<;>simp [Bool.and_assoc,Bool.and_comm,Bool.and_left_comm]
theorem Q' (hr:Bool) (l:List Int):sh hr [] l=kS hr l:=by rw [Q9];simp
theorem Q8 (c:aU) (ah:List V) (h:ai) (H:ef h c ah) (aL:c.t.length≤4611686018427387903) (gZ:c.l.length≤4611686018427387903):bB Tryz.prog 123 [.agg ah] h fun x J=>x=.bool (sg c)∧Ext h J:=by
 obtain ⟨aX,a6,az,rfl,dv,eL,cJ⟩:=H.open
 refine TL rfl (bO ?_)
 unfold KZ
 have ck:Ext h (h.new (.au [.int .i64 c.k,.int .i64 c.x,.int .i64 c.n,.str c.s,aX,a6,az] 0 false)):=(Ext.refl h).new _
 simp +contextual only [show ∀g:ai,qX none g=.val (.map (ao g.next)) (g.new (.mp [] 0)) from fun g=>rfl,eL.len,↓ab,ae,simprocAttr]
 refine fV (fun r J=>Ext h J∧J.get (ao h.next)=.au [.int .i64 c.k,.int .i64 c.x,.int .i64 c.n,.str c.s,aX,a6,az] 0 false∧h.next+2≤J.next∧r 1=.ptr (ao h.next) 0∧r 3=.map (ao (h.next+1))∧r 9=a6∧r 10=.int .i64 c.t.length∧
  ∃i:Nat,r 11=.int .i64 i∧i≤c.t.length∧J.get (ao (h.next+1))=.mp (hx (c.t.take i) 0) (c.t.take i).length∧kS (decide (c.k=10)) c.t=sh (decide (c.k=10)) (c.t.take i) (c.t.drop i)) (fun r J=>c.t.length - (r 11).gV) ?_ ?_
 · refine ⟨(ck.new _),?_,?_,by simp only [↓ab,bf,simprocAttr],by simp only [↓ab,bf,simprocAttr],by simp only [↓ab,bf,simprocAttr],by simp only [↓ab,bf,simprocAttr],0,by simp only [↓ab,bf,simprocAttr]<;>rfl,by omega,?_,?_⟩
   · simp only [↓ab,ae,simprocAttr]
   · simp only [cY];omega
   · simp only [↓ab,ae,simprocAttr];rfl
   · rw [List.take_zero,List.drop_zero,Q']
 · rintro r J ⟨ax,af,a1,aY,cl,iI,jm,i,kQ,aH,hm,b8⟩
   unfold K0
   by_cases a7:i<c.t.length
   · have bV:((i:Int) < (c.t.length:Int))=True:=eq_true (by omega)
     obtain ⟨b,o,b9,cG⟩:=ints_at (eL.ext ax) (k:=.i64) a7
     rw [List.drop_eq_getElem_cons a7,sh] at b8
     have w:=g4 a7 (by omega)
     have la:=abZ hm c.t[i]
     have gQ:(h.next=h.next+1)=False:=eq_false (by omega)
     have Ao:(h.next+1=h.next)=False:=eq_false (by omega)
     have kk:=ax.set (i:=h.next+1) (by omega) (.mp (hx (c.t.take i++[c.t[i]]) 0) (c.t.take i++[c.t[i]]).length)
     have ma:c.t.take (i+1)=c.t.take i++[c.t[i]]:=by rw [List.take_add_one,List.getElem?_eq_getElem a7];rfl
     have iR:(J.set (ao (h.next+1)) (.mp (hx (c.t.take i++[c.t[i]]) 0) (c.t.take i++[c.t[i]]).length)).get (ao h.next)=.au [.int .i64 c.k,.int .i64 c.x,.int .i64 c.n,.str c.s,aX,a6,az] 0 false:=by
      rw [dB,if_neg (by rw [gM];omega)];exact af
     have GR:(J.set (ao (h.next+1)) (.mp (hx (c.t.take i++[c.t[i]]) 0) (c.t.take i++[c.t[i]]).length)).get (ao (h.next+1))=.mp (hx (c.t.take i++[c.t[i]]) 0) (c.t.take i++[c.t[i]]).length:=by
      rw [dB,if_pos rfl]
     simp +contextual only [aY,cl,iI,jm,kQ,bV,b9,cG,↓ab,ae,simprocAttr]
     refine ih (I_ _ _) ?_
     have Od:(decide (-1073741824≤c.t[i])&&decide (c.t[i]≤1073741823))=o4 c.t[i]:=rfl
     generalize uk:(if (decide (c.k=10))=true then o4 c.t[i] else gl c.t[i])=e7 at b8
     have mM:e7=true→(c.t.take i).contains c.t[i]=false→kS (decide (c.k=10)) c.t=sh (decide (c.k=10)) (c.t.take (i+1)) (c.t.drop (i+1)):=by
      intro aP aA
      rw [b8,aP,aA,ma];rfl
     have nU:(!e7||(c.t.take i).contains c.t[i])=true→sg c=false:=by
      intro q
      have:kS (decide (c.k=10)) c.t=false:=by
       rw [b8]
       revert q
       cases e7<;>cases (c.t.take i).contains c.t[i]<;>simp
      rw [sg,this,Bool.false_and]
     by_cases al:c.k=10
     · have ki:=eq_true al
       have l':o4 c.t[i]=e7:=by rw [←uk,if_pos (decide_eq_true al)]
       simp +contextual only [aY,cl,iI,jm,kQ,af,ki,Od,l',la,↓ab,ae,simprocAttr]
       cases e7 with
       | false=>
         have vI:=nU (by simp)
         simp +contextual only [aY,cl,iI,jm,kQ,vI,↓ab,ae,simprocAttr]
         exact ax
       | true=>
         cases aM:(c.t.take i).contains c.t[i] with
         | true=>
           have vI:=nU (by rw [aM];rfl)
           simp +contextual only [aY,cl,iI,jm,kQ,la,aM,vI,↓ab,ae,simprocAttr]
           exact ax
         | false=>
           have hu:=I7 hm aM
           simp +contextual only [aY,cl,iI,jm,kQ,la,aM,hu,w,↓ab,ae,simprocAttr]
           exact ⟨⟨kk,af,a1,⟨i+1,rfl,a7,by rw [ma],by have:=mM rfl aM;simpa only [ki,decide_true,decide_false] using this⟩⟩,by omega⟩
     · have ki:=eq_false al
       have l':gl c.t[i]=e7:=by rw [←uk,if_neg (by simp [al])]
       simp +contextual only [aY,cl,iI,jm,kQ,af,ki,Od,l',la,↓ab,ae,simprocAttr]
       cases e7 with
       | false=>
         have vI:=nU (by simp)
         simp +contextual only [aY,cl,iI,jm,kQ,vI,↓ab,ae,simprocAttr]
         exact ax
       | true=>
         cases aM:(c.t.take i).contains c.t[i] with
         | true=>
           have vI:=nU (by rw [aM];rfl)
           simp +contextual only [aY,cl,iI,jm,kQ,la,aM,vI,↓ab,ae,simprocAttr]
           exact ax
         | false=>
           have hu:=I7 hm aM
           simp +contextual only [aY,cl,iI,jm,kQ,la,aM,hu,w,↓ab,ae,simprocAttr]
           exact ⟨⟨kk,af,a1,⟨i+1,rfl,a7,by rw [ma],by have:=mM rfl aM;simpa only [ki,decide_true,decide_false] using this⟩⟩,by omega⟩
   · have bV:((i:Int) < (c.t.length:Int))=False:=eq_false (by omega)
     rw [List.drop_eq_nil_of_le (by omega)] at b8
     have b6:=(cJ.ext ax).len
     have cq:=(eL.ext ax).len
     have dq:IntKind.i64.wrap ((c.t.length:Int)+1)=(c.t.length:Int)+1:=by rw [wrap_i64 (by omega) (by omega)]
     simp +contextual only [aY,cl,iI,jm,kQ,bV,af,b6,cq,dq,↓ab,ae,simprocAttr]
     refine ⟨?_,ax⟩
     rw [sg,b8]
     rfl
theorem adh {b:Bool} {c:aU} (h:fb c.k=none):c1 b c=false:=by simp [c1,h]
set_option maxHeartbeats 2000000 in
theorem PX (b:Bool) (c:aU) (ah:List V) (h:ai) (H:ef h c ah) (ad:c.t.length≤4611686018427387903) (ak:c.l.length≤4611686018427387903) (aB:c.a.length≤4611686018427387903):
 bB Tryz.prog 61 [.agg ah,.bool b] h fun x J=>x=.bool (c1 b c)∧Ext h J:=by
 obtain ⟨aX,a6,az,rfl,dv,eL,cJ⟩:=H.open
 refine Uw rfl (bO ?_)
 unfold L6
 simp +contextual only [↓ab,ae,simprocAttr]
 refine aS (afg c.k _) ?_
 rintro x bH ⟨rfl,dn⟩
 have ck:Ext h (h.new (.au [.int .i64 c.k,.int .i64 c.x,.int .i64 c.n,.str c.s,aX,a6,az] 0 false)):=(Ext.refl h).new _
 have ax:=ck.trans dn
 have af:bH.get (ao h.next)=.au [.int .i64 c.k,.int .i64 c.x,.int .i64 c.n,.str c.s,aX,a6,az] 0 false:=by rw [dn.get _ (dP (by rw [cY];omega)),gz]
 have a7:h.next<bH.next:=by have:=dn.next;rw [cY] at this;omega
 have dL:(bH.next=h.next)=False:=eq_false (by omega)
 have eJ:(h.next=bH.next)=False:=eq_false (by omega)
 cases ba:fb c.k with
 | none=>
   have aQ:=adh (b:=b) ba
   simp +contextual only [ba,aQ,Option.getD,Option.isSome,jG.enc,jG.none,af,dL,eJ,↓ab,ae,simprocAttr]
   exact (ax.new _).set (by omega) _
 | some r=>
   obtain ⟨rx,r',rs,rt,a0,bt,a8,bc⟩:=r
   have c0:c1 b c=(gl c.x&&(rx||decide (c.x=0))&&(r'||b||decide (c.n=0))&&(rs||decide (c.s=[]))&&(rt||decide (c.t=[]))&&
    (sn c.a.length a0 bt&&sn c.l.length a8 bc&&gl c.n)&&
    (!(decide (c.k=5)&&decide (1024≤c.n))&&!(decide (c.k=3)&&!decide (eK c.s=c.a.length))&&(!rt||sg c))&&c.a.all gE):=by
    simp only [c1,ba]
   have ah5:(c.t=[])↔c.t.length=0:=by rw [List.length_eq_zero_iff]
   simp +contextual only [ba,Option.getD,Option.isSome,jG.enc,af,dL,eJ,↓ab,ae,simprocAttr]
   refine ih (I_ _ _) ?_
   cases ah8:gl c.x with
   | false=>
     have ar:c1 b c=false:=by rw [c0];grind
     simp +contextual only [af,dL,eJ,ar,↓ab,ae,simprocAttr]
     exact (ax.new _).set (by omega) _
   | true=>
   cases aP:(!rx&&!decide (c.x=0)) with
   | true=>
     have ar:c1 b c=false:=by rw [c0];grind
     simp +contextual only [af,dL,eJ,aP,ar,↓ab,ae,simprocAttr]
     exact (ax.new _).set (by omega) _
   | false=>
   cases aA:(!r'&&!b&&!decide (c.n=0)) with
   | true=>
     have ar:c1 b c=false:=by rw [c0];grind
     simp +contextual only [af,dL,eJ,aP,aA,ar,↓ab,ae,simprocAttr]
     exact (ax.new _).set (by omega) _
   | false=>
   cases a2:(!rs&&!decide (c.s=[])) with
   | true=>
     have ar:c1 b c=false:=by rw [c0];grind
     simp +contextual only [af,dL,eJ,aP,aA,a2,ar,↓ab,ae,simprocAttr]
     exact (ax.new _).set (by omega) _
   | false=>
   have zZ:=(eL.ext ax).len
   cases b':(!rt&&decide (0 < (c.t.length:Int))) with
   | true=>
     have ar:c1 b c=false:=by rw [c0];grind
     simp +contextual only [af,dL,eJ,aP,aA,a2,b',zZ,ar,↓ab,ae,simprocAttr]
     exact (ax.new _).set (by omega) _
   | false=>
   have W7:=(dv.ext ax).len
   have hb:∀g eR:ai,Ext g eR→bH.next<g.next∧g.get (ao h.next)=.au [.int .i64 c.k,.int .i64 c.x,.int .i64 c.n,.str c.s,aX,a6,az] 0 false∧g.get (ao bH.next)=.au [.bool rx,.bool r',.bool rs,.bool rt,.int .i64 a0,.int .i64 bt,.int .i64 a8,.int .i64 bc] 0 false→
    bH.next<eR.next∧eR.get (ao h.next)=.au [.int .i64 c.k,.int .i64 c.x,.int .i64 c.n,.str c.s,aX,a6,az] 0 false∧eR.get (ao bH.next)=.au [.bool rx,.bool r',.bool rs,.bool rt,.int .i64 a0,.int .i64 bt,.int .i64 a8,.int .i64 bc] 0 false:=by
    rintro g eR e ⟨bS,cF,gS⟩
    exact ⟨Nat.lt_of_lt_of_le bS e.next,by rw [e.get _ (dP (by omega))];exact cF,by rw [e.get _ (dP bS)];exact gS⟩
   simp +contextual only [af,dL,eJ,aP,aA,a2,b',zZ,W7,↓ab,ae,simprocAttr]
   have s1:Ext h ((bH.new (cL.au [V.bool false,V.bool false,V.bool false,V.bool false,V.int IntKind.i64 0,V.int IntKind.i64 0,V.int IntKind.i64 0,V.int IntKind.i64 0] 0 false)).set (ao bH.next) (.au [.bool rx,.bool r',.bool rs,.bool rt,.int .i64 a0,.int .i64 bt,.int .i64 a8,.int .i64 bc] 0 false)):=(ax.new _).set (by omega) _
   have bS:bH.next < ((bH.new (cL.au [V.bool false,V.bool false,V.bool false,V.bool false,V.int IntKind.i64 0,V.int IntKind.i64 0,V.int IntKind.i64 0,V.int IntKind.i64 0] 0 false)).set (ao bH.next) (.au [.bool rx,.bool r',.bool rs,.bool rt,.int .i64 a0,.int .i64 bt,.int .i64 a8,.int .i64 bc] 0 false)).next∧((bH.new (cL.au [V.bool false,V.bool false,V.bool false,V.bool false,V.int IntKind.i64 0,V.int IntKind.i64 0,V.int IntKind.i64 0,V.int IntKind.i64 0] 0 false)).set (ao bH.next) (.au [.bool rx,.bool r',.bool rs,.bool rt,.int .i64 a0,.int .i64 bt,.int .i64 a8,.int .i64 bc] 0 false)).get (ao h.next)=.au [.int .i64 c.k,.int .i64 c.x,.int .i64 c.n,.str c.s,aX,a6,az] 0 false∧((bH.new (cL.au [V.bool false,V.bool false,V.bool false,V.bool false,V.int IntKind.i64 0,V.int IntKind.i64 0,V.int IntKind.i64 0,V.int IntKind.i64 0] 0 false)).set (ao bH.next) (.au [.bool rx,.bool r',.bool rs,.bool rt,.int .i64 a0,.int .i64 bt,.int .i64 a8,.int .i64 bc] 0 false)).get (ao bH.next)=.au [.bool rx,.bool r',.bool rs,.bool rt,.int .i64 a0,.int .i64 bt,.int .i64 a8,.int .i64 bc] 0 false:=by
    refine ⟨by rw [hf,cY];omega,?_,?_⟩
    · rw [dB,if_neg (by rw [gM];omega),eG,if_neg (by rw [gM];omega)];exact af
    · rw [dB,if_pos rfl]
   generalize (bH.new (cL.au [V.bool false,V.bool false,V.bool false,V.bool false,V.int IntKind.i64 0,V.int IntKind.i64 0,V.int IntKind.i64 0,V.int IntKind.i64 0] 0 false)).set (ao bH.next) (.au [.bool rx,.bool r',.bool rs,.bool rt,.int .i64 a0,.int .i64 bt,.int .i64 a8,.int .i64 bc] 0 false)=jW at *
   refine aS (RD _ _ _ jW) ?_
   rintro x bM ⟨rfl,fR⟩
   obtain ⟨cF,dk,d2⟩:=hb jW bM fR bS
   have s2:=s1.trans fR
   have Xc:=(cJ.ext s2).len
   cases dH:sn (c.a.length:Int) a0 bt with
   | false=>
     have ar:c1 b c=false:=by rw [c0];grind
     simp +contextual only [dk,d2,dL,eJ,dH,ar,↓ab,ae,simprocAttr]
     exact s2
   | true=>
   simp +contextual only [dk,d2,dL,eJ,dH,Xc,↓ab,ae,simprocAttr]
   refine aS (RD _ _ _ bM) ?_
   rintro x cT ⟨rfl,qQ⟩
   obtain ⟨gS,jc,d3⟩:=hb bM cT qQ ⟨cF,dk,d2⟩
   have h3:=s2.trans qQ
   cases dq:sn (c.l.length:Int) a8 bc with
   | false=>
     have ar:c1 b c=false:=by rw [c0];grind
     simp +contextual only [jc,d3,dL,eJ,dq,ar,↓ab,ae,simprocAttr]
     exact h3
   | true=>
   simp +contextual only [jc,d3,dL,eJ,dq,↓ab,ae,simprocAttr]
   refine ih (I_ _ _) ?_
   cases Y4:gl c.n with
   | false=>
     have ar:c1 b c=false:=by rw [c0];grind
     simp +contextual only [jc,d3,dL,eJ,ar,↓ab,ae,simprocAttr]
     exact h3
   | true=>
   have CU:=(dv.ext h3).len
   cases hA:(decide (c.k=5)&&decide (1024≤c.n)) with
   | true=>
     have ar:c1 b c=false:=by rw [c0];grind
     simp +contextual only [jc,d3,dL,eJ,hA,ar,↓ab,ae,simprocAttr]
     exact h3
   | false=>
   by_cases rH:c.k=3
   · have Ag:=eq_true rH
     have GK:(c.k=5)=False:=eq_false (by omega)
     simp +contextual only [jc,d3,dL,eJ,Ag,GK,CU,↓ab,ae,simprocAttr]
     refine aS (ady cT) ?_
     rintro x fF ⟨rfl,X8,Ho⟩
     have la:=ab0 X8 c.s
     obtain ⟨kL,j_,d4⟩:=hb cT fF Ho ⟨gS,jc,d3⟩
     have od:=h3.trans Ho
     have NO:=(dv.ext od).len
     have Wu:=Ho.next
     by_cases Oy:eK c.s=c.a.length
     · have Hh:=eq_true Oy
       simp +contextual only [jc,d3,j_,d4,dL,eJ,Ag,GK,CU,NO,la,Hh,Fs,↓ab,ae,simprocAttr]
       cases rt with
       | false=>
         simp +contextual only [j_,d4,dL,eJ,↓ab,ae,simprocAttr]
         refine aS (Cr c.a aX fF (dv.ext od) (by omega)) ?_
         rintro x gY ⟨rfl,s3⟩
         have ar:c1 b c=c.a.all gE:=by rw [c0];grind
         simp +contextual only [ar,Bool.not_not,↓ab,ae,simprocAttr]
         exact (od).trans s3
       | true=>
         simp +contextual only [j_,d4,dL,eJ,↓ab,ae,simprocAttr]
         refine aS (Q8 c _ fF (H.ext od) ad ak) ?_
         rintro x gY ⟨rfl,s3⟩
         obtain ⟨qS,xH,d5⟩:=hb fF gY s3 ⟨by have:=gS;have:=Wu;omega,j_,d4⟩
         have nw:=(od).trans s3
         cases YP:sg c with
         | false=>
           have ar:c1 b c=false:=by rw [c0];grind
           simp +contextual only [xH,d5,dL,eJ,ar,↓ab,ae,simprocAttr]
           exact nw
         | true=>
           simp +contextual only [xH,d5,dL,eJ,↓ab,ae,simprocAttr]
           refine aS (Cr c.a aX gY (dv.ext nw) (by omega)) ?_
           rintro x ke ⟨rfl,Hp⟩
           have ar:c1 b c=c.a.all gE:=by rw [c0];grind
           simp +contextual only [ar,Bool.not_not,↓ab,ae,simprocAttr]
           exact nw.trans Hp
     · have Hh:=eq_false Oy
       have ar:c1 b c=false:=by rw [c0];grind
       simp +contextual only [jc,d3,j_,d4,dL,eJ,Ag,GK,CU,NO,la,Hh,ar,Fs,↓ab,ae,simprocAttr]
       exact od
   · have Ag:=eq_false rH
     have Wt:=qQ.next
     simp +contextual only [jc,d3,dL,eJ,hA,Ag,CU,Fs,↓ab,ae,simprocAttr]
     cases rt with
     | false=>
       simp +contextual only [jc,d3,dL,eJ,↓ab,ae,simprocAttr]
       refine aS (Cr c.a aX cT (dv.ext h3) (by omega)) ?_
       rintro x gY ⟨rfl,s3⟩
       have ar:c1 b c=c.a.all gE:=by rw [c0];grind
       simp +contextual only [ar,Bool.not_not,↓ab,ae,simprocAttr]
       exact (h3).trans s3
     | true=>
       simp +contextual only [jc,d3,dL,eJ,↓ab,ae,simprocAttr]
       refine aS (Q8 c _ cT (H.ext h3) ad ak) ?_
       rintro x gY ⟨rfl,s3⟩
       obtain ⟨qS,xH,d5⟩:=hb cT gY s3 ⟨by have:=gS;have:=Wt;omega,jc,d3⟩
       have nw:=(h3).trans s3
       cases YP:sg c with
       | false=>
         have ar:c1 b c=false:=by rw [c0];grind
         simp +contextual only [xH,d5,dL,eJ,ar,↓ab,ae,simprocAttr]
         exact nw
       | true=>
         simp +contextual only [xH,d5,dL,eJ,↓ab,ae,simprocAttr]
         refine aS (Cr c.a aX gY (dv.ext nw) (by omega)) ?_
         rintro x ke ⟨rfl,Hp⟩
         have ar:c1 b c=c.a.all gE:=by rw [c0];grind
         simp +contextual only [ar,Bool.not_not,↓ab,ae,simprocAttr]
         exact nw.trans Hp
theorem acC {c:aU} {u:List V} {g:ai} {r:Bool} (H:ef g c u) (aC:∀eR,Ext g eR→bB Tryz.prog 44 [.agg u] eR fun x J=>x=.bool r∧Ext eR J):bB Tryz.prog 63 [.agg u] g fun x J=>x=.bool (!r)∧Ext g J:=by
 refine Uy rfl (bO ?_)
 unfold L8
 obtain ⟨aX,a6,az,rfl,_⟩:=H.open
 simp +contextual only [↓ab,ae,simprocAttr]
 have ck:=(Ext.refl g).new (.au [.int .i64 c.k,.int .i64 c.x,.int .i64 c.n,.str c.s,aX,a6,az] 0 false)
 refine aS (aC _ ck) ?_
 rintro x ad ⟨rfl,dn⟩
 simp +contextual only [↓ab,ae,simprocAttr]
 exact ck.trans dn
theorem Zr (l:List aU) (v:V) (h:ai) (H:i_ h l v) (aL:l.length≤4611686018427387904)
 (aC:∀(i:Nat) (c:aU) (g:ai) (u:List V),l[i]? =some c→Ext h g→ef g c u→bB Tryz.prog 44 [.agg u] g fun x J=>x=.bool (may c1 c)∧Ext g J):
 bB Tryz.prog 127 [v,.func 63 []] h fun x J=>(∃i:Int,x=.int .i64 i∧decide (0≤i)=!iG c1 l)∧Ext h J:=by
 refine TP rfl (bO ?_)
 unfold K4
 simp +contextual only [H.len,↓ab,ae,simprocAttr]
 refine fV (fun r J=>Ext h J∧r 0=v∧r 1=.func 63 []∧r 7=.int .i64 l.length∧∃i:Nat,r 8=.int .i64 i∧i≤l.length∧iG c1 l=iG c1 (l.drop i)) (fun r J=>l.length - (r 8).gV) ?_ ?_
 · exact ⟨Ext.refl h,by simp only [↓ab,bf,simprocAttr],by simp only [↓ab,bf,simprocAttr],by simp only [↓ab,bf,simprocAttr],0,by simp only [↓ab,bf,simprocAttr]<;>rfl,by omega,rfl⟩
 · rintro r J ⟨ax,bm,aY,gj,i,iH,aH,b8⟩
   unfold K5
   by_cases a7:i<l.length
   · have bV:((i:Int) < (l.length:Int))=True:=eq_true (by omega)
     obtain ⟨b,o,u,b9,hu,cG,_⟩:=(H.ext ax).at (k:=.i64) a7
     rw [List.drop_eq_getElem_cons a7,iG] at b8
     have w:=g4 a7 aL
     simp +contextual only [bm,aY,gj,iH,bV,b9,cG,↓ab,ae,simprocAttr]
     refine aS (acC hu fun eR bl=>aC i l[i] eR u (List.getElem?_eq_getElem a7) (ax.trans bl) (hu.ext bl)) ?_
     rintro x ad ⟨rfl,dn⟩
     cases bT:may c1 l[i] with
     | true=>
       simp +contextual only [bm,aY,gj,iH,w,↓ab,ae,simprocAttr]
       exact ⟨⟨ax.trans dn,⟨i+1,rfl,a7,by rw [b8,bT,Bool.true_and]⟩⟩,by omega⟩
     | false=>
       simp +contextual only [bm,aY,gj,iH,w,↓ab,ae,simprocAttr]
       refine ⟨⟨i,rfl,?_⟩,ax.trans dn⟩
       rw [b8,bT]
       simp
   · have bV:((i:Int) < (l.length:Int))=False:=eq_false (by omega)
     rw [List.drop_eq_nil_of_le (by omega)] at b8
     simp +contextual only [bm,aY,gj,iH,bV,↓ab,ae,simprocAttr]
     exact ⟨⟨-1,rfl,by rw [b8];rfl⟩,ax⟩
theorem VG (l:List aU) (v:V) (h:ai) (H:i_ h l v) (aL:l.length≤4611686018427387904)
 (aC:∀(i:Nat) (c:aU) (g:ai) (u:List V),l[i]? =some c→Ext h g→ef g c u→bB Tryz.prog 44 [.agg u] g fun x J=>x=.bool (may c1 c)∧Ext g J):
 bB Tryz.prog 62 [v,.func 63 []] h fun x J=>x=.bool (!iG c1 l)∧Ext h J:=by
 refine Ux rfl (bO ?_)
 unfold L7
 simp +contextual only [↓ab,ae,simprocAttr]
 refine aS (Zr l v h H aL aC) ?_
 rintro x ad ⟨⟨i,rfl,aH⟩,dn⟩
 simp +contextual only [aH,↓ab,ae,simprocAttr]
 exact dn
mutual
def fit (m:Nat):aU→Prop
 | .mk k x n s a t l=>s.length≤m∧a.length≤m∧t.length≤m∧l.length≤m∧(∀q ∈ a,q.s.length≤m)∧fits m l
def fits (m:Nat):List aU→Prop
 | []=>True
 | c::cs=>fit m c∧fits m cs
end
theorem qy {m:Nat}:∀{l:List aU} {i:Nat} {c:aU},fits m l→l[i]? =some c→fit m c
 | [],_,_,_,h=>by simp at h
 | d::l,0,c,ar,h=>by simp only [List.getElem?_cons_zero,Option.some.injEq] at h;subst h;exact ar.1
 | d::l,i+1,c,ar,h=>qy ar.2 (by simpa using h)
theorem fit.kids {m:Nat} {c:aU} (h:fit m c):c.s.length≤m∧c.a.length≤m∧c.t.length≤m∧c.l.length≤m∧fits m c.l:=by
 cases c
 exact ⟨h.1,h.2.1,h.2.2.1,h.2.2.2.1,h.2.2.2.2.2⟩
mutual
theorem Nn {m k:Nat} (hm:m≤k):∀c:aU,fit m c→CC k c
 | .mk _ _ _ _ _ _ l,h=>⟨Nat.le_trans h.2.2.2.1 hm,No hm l h.2.2.2.2.2⟩
theorem No {m k:Nat} (hm:m≤k):∀l:List aU,fits m l→xR k l
 | [],_=>trivial
 | c::cs,h=>⟨Nn hm c h.1,No hm cs h.2⟩
end
theorem r_ {l:List aU} {i:Nat} {c:aU} (h:l[i]? =some c):size c≤pf l:=IQ (List.mem_of_getElem? h)
theorem u2 (c:aU):size c=1+pf c.l:=by cases c;rfl
theorem adl {c:aU} (c6:c.k=7) (h:c1 true c=true):c.l.length=1:=by
 have:ea true c=true:=by rw [←PY,h,decide_eq_true c6];rfl
 simp only [ea,if_true,jw,Bool.and_eq_true] at this
 exact of_decide_eq_true this.2
theorem aca (c:aU) (h:0<c.l.length):lJ c1 c=may c1 c.l[0]:=by
 obtain ⟨k,x,n,s,a,t,l⟩:=c
 cases l with
 | nil=>simp [aU.l] at h
 | cons d l=>simp only [lJ,qY,aU.l,List.getElem_cons_zero]
theorem Po {own:Bool→aU→Bool} {c:aU} (h:c.k≠8):may own c=(own false c&&iG own c.l):=by
 obtain ⟨k,x,n,s,a,t,l⟩:=c
 simp only [aU.k] at h
 rw [may,if_neg h]
 rfl
theorem Pn {own:Bool→aU→Bool} {c:aU} (h:c.k=8):may own c=(tV c&&decide (2≤c.l.length)&&hK own c.l):=by
 obtain ⟨k,x,n,s,a,t,l⟩:=c
 simp only [aU.k] at h
 rw [may,if_pos h]
 rfl
theorem Pj {own:Bool→aU→Bool} {l:List aU} {i:Nat} (h:i+1<l.length):hK own (l.drop i)=((decide (l[i].k=7)&&own true l[i])&&lJ own l[i]&&hK own (l.drop (i+1))):=by
 rw [List.drop_eq_getElem_cons (by omega),List.drop_eq_getElem_cons h]
 rw [hK]
theorem Pk {own:Bool→aU→Bool} {l:List aU} {i:Nat} (h:i+1=l.length):hK own (l.drop i)=may own (l[i]'(by omega)):=by
 rw [List.drop_eq_getElem_cons (by omega),List.drop_eq_nil_of_le (by omega)]
 rw [hK]
set_option maxHeartbeats 2000000 in
theorem HU:∀(N:Nat) (c:aU),size c≤N→fit 1048576 c→∀(ah:List V) (h:ai),ef h c ah→bB Tryz.prog 44 [.agg ah] h fun x J=>x=.bool (may c1 c)∧Ext h J
 | 0,c,aM,_,_,_,_=>by have:=size_pos c;omega
 | N+1,c,aM,ar,ah,h,H=>by
   obtain ⟨f1,f2,f3,f4,f5⟩:=ar.kids
   have pU:=u2 c
   have eg:∀(i:Nat) (d:aU) (g:ai) (u:List V),c.l[i]? =some d→Ext h g→ef g d u→bB Tryz.prog 44 [.agg u] g fun x J=>x=.bool (may c1 d)∧Ext g J:=
    fun i d g u aH bl hu=>HU N d (by have:=r_ aH;omega) (qy f5 aH) u g hu
   obtain ⟨aX,a6,az,rfl,dv,eL,cJ⟩:=H.open
   refine Uk rfl (bO ?_)
   unfold LL
   have ck:Ext h (h.new (.au [.int .i64 c.k,.int .i64 c.x,.int .i64 c.n,.str c.s,aX,a6,az] 0 false)):=(Ext.refl h).new _
   by_cases al:c.k=8
   · have dJ:=eq_true al
     have dz:=(dv.ext ck).len
     have cq:=(eL.ext ck).len
     have b6:=(cJ.ext ck).len
     have eS:=Pn (own:=c1) al
     by_cases fY:c.l.length=0
     · have ar:may c1 c=false:=by rw [eS,fY];simp
       have aR:IntKind.i64.wrap (((0:Nat):Int)-1)=-1:=by rw [wrap_i64 (by omega) (by omega)];rfl
       have t0:((-1:Int)<1)=True:=eq_true (by decide)
       rw [fY] at b6
       simp +contextual only [dJ,dz,cq,b6,aR,t0,ar,Bool.or_true,↓ab,bf,cN.ends,eZ,oneOf,top,↓reduceIte,Nat.reduceEqDiff,Nat.reduceLeDiff,Nat.reduceAdd,Nat.reduceSub,Nat.reduceMul,reduceCtorEq,Int.reduceEq,Int.reduceLT,Int.reduceLE,Int.reduceNeg]
       exact ck
     have aR:IntKind.i64.wrap ((c.l.length:Int)-1)=((c.l.length-1:Nat):Int):=by rw [wrap_i64 (by omega) (by omega)];omega
     cases nU:(!decide (c.x=0)||!decide (c.n=0)||!decide (c.s=[])||decide (0 < (c.t.length:Int))||decide (0 < (c.a.length:Int))||decide (((c.l.length-1:Nat):Int)<1)) with
     | true=>
       have ar:may c1 c=false:=by
        rw [eS]
        have aI:(c.t=[])↔c.t.length=0:=by rw [List.length_eq_zero_iff]
        have bo:(c.a=[])↔c.a.length=0:=by rw [List.length_eq_zero_iff]
        simp only [tV]
        grind
       simp +contextual only [dJ,dz,cq,b6,aR,nU,ar,↓ab,bf,cN.ends,eZ,oneOf,top,↓reduceIte,Nat.reduceEqDiff,Nat.reduceLeDiff,Nat.reduceAdd,Nat.reduceSub,Nat.reduceMul,reduceCtorEq,Int.reduceEq,Int.reduceLT,Int.reduceLE,Int.reduceNeg]
       exact ck
     | false=>
       have l':may c1 c=hK c1 c.l:=by
        rw [eS]
        have aI:(c.t=[])↔c.t.length=0:=by rw [List.length_eq_zero_iff]
        have bo:(c.a=[])↔c.a.length=0:=by rw [List.length_eq_zero_iff]
        simp only [tV]
        grind
       have hlen:2≤c.l.length:=by
        have:¬(((c.l.length-1:Nat):Int)<1):=by
         intro q
         rw [decide_eq_true q,Bool.or_true] at nU
         cases nU
        omega
       obtain ⟨db,FR,zF⟩:=(cJ.ext ck).cut (k:=.i64) (m:=c.l.length-1) (by omega)
       have zY:=zF.len
       rw [List.length_take,Nat.min_eq_left (Nat.sub_le _ _)] at zY
       simp +contextual only [dJ,dz,cq,b6,aR,nU,FR,zY,↓ab,bf,cN.ends,eZ,oneOf,top,↓reduceIte,Nat.reduceEqDiff,Nat.reduceLeDiff,Nat.reduceAdd,Nat.reduceSub,Nat.reduceMul,reduceCtorEq,Int.reduceEq,Int.reduceLT,Int.reduceLE,Int.reduceNeg]
       refine fV (fun r J=>Ext h J∧J.get (ao h.next)=.au [.int .i64 c.k,.int .i64 c.x,.int .i64 c.n,.str c.s,aX,a6,az] 0 false∧h.next<J.next∧r 1=.ptr (ao h.next) 0∧r 3=.int .i64 ((c.l.length-1:Nat):Int)∧r 52=db∧r 53=.int .i64 ((c.l.length-1:Nat):Int)∧
        ∃i:Nat,r 54=.int .i64 i∧i≤c.l.length-1∧hK c1 c.l=hK c1 (c.l.drop i)) (fun r J=>c.l.length - (r 54).gV) ?_ ?_
       · exact ⟨ck,by simp only [↓ab,bf,↓reduceIte,Nat.reduceEqDiff,reduceCtorEq],by rw [cY];omega,by simp only [↓ab,bf,↓reduceIte,Nat.reduceEqDiff,reduceCtorEq],by simp only [↓ab,bf,↓reduceIte,Nat.reduceEqDiff,reduceCtorEq],by simp only [↓ab,bf,↓reduceIte,Nat.reduceEqDiff,reduceCtorEq],by simp only [↓ab,bf,↓reduceIte,Nat.reduceEqDiff,reduceCtorEq],0,by simp only [↓ab,bf,↓reduceIte,Nat.reduceEqDiff,reduceCtorEq]<;>rfl,by omega,rfl⟩
       · rintro r J ⟨ax,af,a1,aY,cl,pa,DV,i,DW,aH,b8⟩
         unfold LM
         by_cases a7:i<c.l.length-1
         · have bV:((i:Int) < ((c.l.length-1:Nat):Int))=True:=eq_true (by omega)
           have kJ:i<c.l.length:=by omega
           have x6:i < (c.l.take (c.l.length-1)).length:=by rw [List.length_take];omega
           have V1:Ext (h.new (.au [.int .i64 c.k,.int .i64 c.x,.int .i64 c.n,.str c.s,aX,a6,az] 0 false)) J:=⟨by rw [cY];omega,fun b ew=>by
            by_cases q:b=ao h.next
            · subst q;rw [af,gz]
            · have bA:Old h b:=by
               unfold Old at ew ⊢
               rw [cY] at ew
               have:cx b≠h.next:=fun e=>q (by rw [←e,adp])
               omega
              rw [ax.get _ bA,eG,if_neg (fun e=>q e.symm)]⟩
           obtain ⟨b,o,u,b9,hu,cG,_⟩:=(zF.ext V1).at (k:=.i64) x6
           rw [List.getElem_take] at hu
           rw [Pj (by omega)] at b8
           generalize sS:c.l[i]=f at *
           have jj:c.l[i]? =some f:=by rw [List.getElem?_eq_getElem kJ,sS]
           obtain ⟨cX,gy,cw,rfl,rh,rj,po⟩:=hu.open
           have w:=g4 kJ (by omega)
           have Wa:=qy f5 jj
           obtain ⟨Wb,Wc,Wd,We,F3⟩:=Wa.kids
           have dj:=rh.one.1
           have eW:=rj.one.1
           have fz:=po.one.1
           have AO:(J.next=h.next)=False:=eq_false (by omega)
           have AP:(h.next=J.next)=False:=eq_false (by omega)
           by_cases c6:f.k=7
           · have Gh:=eq_true c6
             simp +contextual only [aY,cl,pa,DV,DW,bV,b9,cG,Gh,dj,eW,fz,Bool.and_self,↓ab,bf,cN.ends,eZ,oneOf,top,↓reduceIte,Nat.reduceEqDiff,Nat.reduceLeDiff,Nat.reduceAdd,Nat.reduceSub,Nat.reduceMul,reduceCtorEq,Int.reduceEq,Int.reduceLT,Int.reduceLE,Int.reduceNeg]
             have dn:Ext J ((J.new (.au [.int .i64 0,.int .i64 0,.int .i64 0,.str [],.aw,.aw,.aw] 0 false)).set (ao J.next) (.au [.int .i64 f.k,.int .i64 f.x,.int .i64 f.n,.str f.s,cX,gy,cw] 0 false)):=((Ext.refl J).new _).set (Nat.le_refl _) _
             have ik:((J.new (.au [.int .i64 0,.int .i64 0,.int .i64 0,.str [],.aw,.aw,.aw] 0 false)).set (ao J.next) (.au [.int .i64 f.k,.int .i64 f.x,.int .i64 f.n,.str f.s,cX,gy,cw] 0 false)).get (ao J.next)=.au [.int .i64 f.k,.int .i64 f.x,.int .i64 f.n,.str f.s,cX,gy,cw] 0 false:=by rw [dB,if_pos rfl]
             have qz:((J.new (.au [.int .i64 0,.int .i64 0,.int .i64 0,.str [],.aw,.aw,.aw] 0 false)).set (ao J.next) (.au [.int .i64 f.k,.int .i64 f.x,.int .i64 f.n,.str f.s,cX,gy,cw] 0 false)).next=J.next+1:=by rw [hf,cY]
             generalize ((J.new (.au [.int .i64 0,.int .i64 0,.int .i64 0,.str [],.aw,.aw,.aw] 0 false)).set (ao J.next) (.au [.int .i64 f.k,.int .i64 f.x,.int .i64 f.n,.str f.s,cX,gy,cw] 0 false))=jW at *
             refine aS (PX true f _ jW (hu.ext dn) (by omega) (by omega) (by omega)) ?_
             rintro x bM ⟨rfl,fR⟩
             have Dc:=dn.trans fR
             have CO:bM.get (ao J.next)=.au [.int .i64 f.k,.int .i64 f.x,.int .i64 f.n,.str f.s,cX,gy,cw] 0 false:=by rw [fR.get _ (dP (by omega))];exact ik
             have iR:bM.get (ao h.next)=.au [.int .i64 c.k,.int .i64 c.x,.int .i64 c.n,.str c.s,aX,a6,az] 0 false:=by rw [Dc.get _ (dP (by omega))];exact af
             cases bA:c1 true f with
             | false=>
               have nm:may c1 c=false:=by rw [l',b8,bA,Bool.and_false,Bool.false_and,Bool.false_and]
               simp +contextual only [CO,nm,AO,AP,↓ab,bf,cN.ends,eZ,oneOf,top,↓reduceIte,Nat.reduceEqDiff,Nat.reduceLeDiff,Nat.reduceAdd,Nat.reduceSub,Nat.reduceMul,reduceCtorEq,Int.reduceEq,Int.reduceLT,Int.reduceLE,Int.reduceNeg]
               exact ax.trans Dc
             | true=>
               have e0:=adl c6 bA
               obtain ⟨b2,dV,lo,k',fQ,wB,_⟩:=(po.ext Dc).at (k:=.i64) (i:=0) (by omega)
               have ha:f.l[0]? =some f.l[0]:=List.getElem?_eq_getElem (by omega)
               have b3:e8 7 cw (.int .i64 0)=some (.ptr b2 dV):=by simpa using k'
               have bY:jl 7 (bM.get b2) dV=some (.agg lo):=by simpa using wB
               simp +contextual only [CO,AO,AP,b3,bY,↓ab,bf,cN.ends,eZ,oneOf,top,↓reduceIte,Nat.reduceEqDiff,Nat.reduceLeDiff,Nat.reduceAdd,Nat.reduceSub,Nat.reduceMul,reduceCtorEq,Int.reduceEq,Int.reduceLT,Int.reduceLE,Int.reduceNeg]
               refine aS (HU N f.l[0] (by have:=r_ jj;have:=r_ ha;have:=u2 f;omega) (qy F3 ha) lo bM fQ) ?_
               rintro x cT ⟨rfl,qQ⟩
               have Dd:=Dc.trans qQ
               rw [aca f (by omega)] at b8
               cases hm:may c1 f.l[0] with
               | false=>
                 have nm:may c1 c=false:=by rw [l',b8,hm,Bool.and_false,Bool.false_and]
                 simp +contextual only [nm,↓ab,bf,cN.ends,eZ,oneOf,top,↓reduceIte,Nat.reduceEqDiff,Nat.reduceLeDiff,Nat.reduceAdd,Nat.reduceSub,Nat.reduceMul,reduceCtorEq,Int.reduceEq,Int.reduceLT,Int.reduceLE,Int.reduceNeg]
                 exact ax.trans Dd
               | true=>
                 simp +contextual only [aY,cl,pa,DV,DW,w,↓ab,bf,cN.ends,eZ,oneOf,top,↓reduceIte,Nat.reduceEqDiff,Nat.reduceLeDiff,Nat.reduceAdd,Nat.reduceSub,Nat.reduceMul,reduceCtorEq,Int.reduceEq,Int.reduceLT,Int.reduceLE,Int.reduceNeg]
                 exact ⟨⟨ax.trans Dd,by rw [Dd.get _ (dP (by omega))];exact af,by have:=Dd.next;omega,⟨i+1,rfl,by omega,by rw [b8,decide_eq_true c6,bA,hm];rfl⟩⟩,by omega⟩
           · have Gh:=eq_false c6
             have nm:may c1 c=false:=by rw [l',b8,decide_eq_false c6];rfl
             simp +contextual only [aY,cl,pa,DV,DW,bV,b9,cG,Gh,nm,dj,eW,fz,Bool.and_self,↓ab,bf,cN.ends,eZ,oneOf,top,↓reduceIte,Nat.reduceEqDiff,Nat.reduceLeDiff,Nat.reduceAdd,Nat.reduceSub,Nat.reduceMul,reduceCtorEq,Int.reduceEq,Int.reduceLT,Int.reduceLE,Int.reduceNeg]
             exact (ax.new _).set (i:=J.next) (by have:=ax.next;omega) _
         · have bV:((i:Int) < ((c.l.length-1:Nat):Int))=False:=eq_false (by omega)
           obtain rfl:i=c.l.length-1:=by omega
           obtain ⟨b,o,u,b9,hu,cG,_⟩:=(cJ.ext ax).at (k:=.i64) (i:=c.l.length-1) (by omega)
           simp +contextual only [aY,cl,pa,DV,DW,bV,af,b9,cG,↓ab,bf,cN.ends,eZ,oneOf,top,↓reduceIte,Nat.reduceEqDiff,Nat.reduceLeDiff,Nat.reduceAdd,Nat.reduceSub,Nat.reduceMul,reduceCtorEq,Int.reduceEq,Int.reduceLT,Int.reduceLE,Int.reduceNeg]
           refine aS (eg (c.l.length-1) _ J u (List.getElem?_eq_getElem (by omega)) ax hu) ?_
           rintro x bM ⟨rfl,fR⟩
           have nm:may c1 c=may c1 (c.l[c.l.length-1]'(by omega)):=by rw [l',b8,Pk (by omega)]
           simp +contextual only [nm,↓ab,bf,cN.ends,eZ,oneOf,top,↓reduceIte,Nat.reduceEqDiff,Nat.reduceLeDiff,Nat.reduceAdd,Nat.reduceSub,Nat.reduceMul,reduceCtorEq,Int.reduceEq,Int.reduceLT,Int.reduceLE,Int.reduceNeg]
           exact ax.trans fR
   · have dJ:=eq_false al
     simp +contextual only [dJ,↓ab,bf,cN.ends,eZ,oneOf,top,↓reduceIte,Nat.reduceEqDiff,Nat.reduceLeDiff,Nat.reduceAdd,Nat.reduceSub,Nat.reduceMul,reduceCtorEq,Int.reduceEq,Int.reduceLT,Int.reduceLE,Int.reduceNeg]
     refine aS (PX false c _ _ (H.ext ck) (by omega) (by omega) (by omega)) ?_
     rintro x bH ⟨rfl,dn⟩
     have ax:=ck.trans dn
     have af:bH.get (ao h.next)=.au [.int .i64 c.k,.int .i64 c.x,.int .i64 c.n,.str c.s,aX,a6,az] 0 false:=by rw [dn.get _ (dP (by rw [cY];omega)),gz]
     rw [Po al]
     cases bA:c1 false c with
     | false=>
       simp +contextual only [Bool.false_and,↓ab,bf,cN.ends,eZ,oneOf,top,↓reduceIte,Nat.reduceEqDiff,Nat.reduceLeDiff,Nat.reduceAdd,Nat.reduceSub,Nat.reduceMul,reduceCtorEq,Int.reduceEq,Int.reduceLT,Int.reduceLE,Int.reduceNeg]
       exact ax
     | true=>
       simp +contextual only [af,↓ab,bf,cN.ends,eZ,oneOf,top,↓reduceIte,Nat.reduceEqDiff,Nat.reduceLeDiff,Nat.reduceAdd,Nat.reduceSub,Nat.reduceMul,reduceCtorEq,Int.reduceEq,Int.reduceLT,Int.reduceLE,Int.reduceNeg]
       refine aS (VG c.l az bH (cJ.ext ax) (by omega) fun i d g u aH bl hu=>eg i d g u aH (ax.trans bl) hu) ?_
       rintro x bM ⟨rfl,fR⟩
       simp +contextual only [Bool.not_not,Bool.true_and,↓ab,bf,cN.ends,eZ,oneOf,top,↓reduceIte,Nat.reduceEqDiff,Nat.reduceLeDiff,Nat.reduceAdd,Nat.reduceSub,Nat.reduceMul,reduceCtorEq,Int.reduceEq,Int.reduceLT,Int.reduceLE,Int.reduceNeg]
       exact ax.trans fR
end Go.Proofs.YtjbiefneffiogaaGreat
namespace Go.Proofs.YtjbiefneffiogaaGreat
theorem En {b:List Int} {a:List At}:iJ b a=[]↔∀q ∈ a,q.k=1→q.n ∈ b:=by
 unfold iJ
 rw [List.map_eq_nil_iff,List.filter_eq_nil_iff]
 constructor
 · intro h q aZ al
   have:=h q aZ
   simp only [al,decide_true,Bool.true_and,Bool.not_eq_true',Bool.not_eq_false] at this
   simpa using this
 · intro h q aZ
   by_cases al:q.k=1
   · have:=h q aZ al
     simp [al,this]
   · simp [al]
mutual
theorem vA:∀(c:aU) {b b2:List Int},(∀z ∈ b,z ∈ b2)→free c b=[]→free c b2=[]
 | .mk k x n s a t l,b,b2,af,h=>by
   simp only [free,List.append_eq_nil_iff] at h ⊢
   refine ⟨En.2 fun q aZ al=>af _ (En.1 h.1 q aZ al),NC l (fun z bD=>?_) h.2⟩
   rcases List.mem_append.1 bD with r | r
   · exact List.mem_append.2 (.inl (af z r))
   · exact List.mem_append.2 (.inr r)
theorem NC:∀(l:List aU) {late:Bool} {x:Int} {b b2:List Int} {i:Nat},(∀z ∈ b,z ∈ b2)→iP late x l b i=[]→iP late x l b2 i=[]
 | [],_,_,_,_,_,_,_=>rfl
 | c::cs,late,x,b,b2,i,af,h=>by
   simp only [iP,List.append_eq_nil_iff] at h ⊢
   refine ⟨vA c (fun z bD=>?_) h.1,NC cs af h.2⟩
   split at bD
   · rename_i q
     rw [if_pos q]
     rcases List.mem_append.1 bD with r | r
     · exact List.mem_append.2 (.inl (af z r))
     · exact List.mem_append.2 (.inr r)
   · rename_i q
     rw [if_neg q]
     exact af z bD
end
theorem F':∀{l:List aU} {x:Int} {b:List Int} {i:Nat},iP false x l b i=[]→∀c ∈ l,free c b=[]
 | [],_,_,_,_,c,aC=>by cases aC
 | d::l,x,b,i,h,c,aC=>by
   simp only [iP,Bool.false_and,Bool.false_eq_true,if_false,List.append_eq_nil_iff] at h
   rcases List.mem_cons.1 aC with rfl | aC
   · exact h.1
   · exact F' h.2 c aC
theorem Pp {own:Bool→aU→Bool}:∀{l:List aU},iG own l=true→∀c ∈ l,may own c=true
 | [],_,c,aC=>by cases aC
 | d::l,h,c,aC=>by
   simp only [iG,Bool.and_eq_true] at h
   rcases List.mem_cons.1 aC with rfl | aC
   · exact h.1
   · exact Pp h.2 c aC
theorem HT {own:Bool→aU→Bool}:∀{l:List aU},hK own l=true→(∀f ∈ l.dropLast,f.k=7∧own true f=true∧lJ own f=true)∧∀c ∈ l.getLast?,may own c=true
 | [],_=>⟨fun f ar=>(by cases ar),fun c aC=>(by cases aC)⟩
 | [c],h=>by
   simp only [hK] at h
   exact ⟨fun f ar=>(by cases ar),fun d ca=>(by simp at ca;subst ca;exact h)⟩
 | c::d::l,h=>by
   have J:((decide (c.k=7)&&own true c)&&lJ own c&&hK own (d::l))=true:=by simpa only [hK] using h
   simp only [Bool.and_eq_true,decide_eq_true_eq] at J
   obtain ⟨i1,i2⟩:=HT (l:=d::l) J.2
   refine ⟨fun f ar=>?_,fun e he=>i2 e (by simpa using he)⟩
   rw [List.dropLast_cons_cons] at ar
   rcases List.mem_cons.1 ar with rfl | ar
   · exact ⟨J.1.1.1,J.1.1.2,J.1.2⟩
   · exact i1 f ar
theorem CI {m:Nat}:∀{l:List aU},fits m l→∀c ∈ l,fit m c
 | [],_,c,aC=>by cases aC
 | d::l,h,c,aC=>by
   rcases List.mem_cons.1 aC with rfl | aC
   · exact h.1
   · exact CI h.2 c aC
theorem ado {c:aU} (h:ea false c=true):(c.k=1∨c.k=2∨c.k=3∨c.k=4∨c.k=5∨c.k=6∨c.k=7∨c.k=9∨c.k=10∨c.k=11∨c.k=12)∧(c.a.all gE=true)∧
 (c.k=1∨c.k=5∨c.k=9∨c.k=10∨c.k=12→(c.a.length:Int)=1)∧(c.k=6→(c.a.length:Int)=2)∧(c.k=2∨c.k=11→c.l.length=2)∧(c.k=3→(c.a.length:Int)=eK c.s∧0<eK c.s)∧
 (c.k=5→0≤c.n∧c.n≤1048575)∧(c.k=7→c.l.length=1)∧(c.k=9∨c.k=10→diff c.t=true):=by
 obtain ⟨k,x,n,s,a,t,l⟩:=c
 simp only [ea,Bool.false_eq_true,if_false,eM,jw,aU.k,aU.x,aU.n,aU.s,aU.a,aU.t,aU.l,hasB,h8,ue,kS] at h ⊢
 by_cases ad:k=1
 · subst ad;simp at h ⊢;grind
 by_cases ak:k=2
 · subst ak;simp at h ⊢;grind
 by_cases aB:k=3
 · subst aB;simp at h ⊢;grind
 by_cases bw:k=4
 · subst bw;simp at h ⊢;grind
 by_cases ej:k=5
 · subst ej;simp at h ⊢;grind
 by_cases gA:k=6
 · subst gA;simp at h ⊢;grind
 by_cases c6:k=7
 · subst c6;simp at h ⊢;grind
 by_cases ia:k=9
 · subst ia;simp at h ⊢;grind
 by_cases il:k=10
 · subst il;simp at h ⊢;grind
 by_cases jg:k=11
 · subst jg;simp at h ⊢;grind
 by_cases ni:k=12
 · subst ni;simp at h ⊢;grind
 simp [ad,ak,aB,bw,ej,gA,c6,ia,il,jg,ni] at h
structure iL (b:List Int) (c:aU):Prop where
 ab8:may (fun b c=>ea b c) c=true
 V':free c b=[]
 sf:fit 1048576 c
theorem iL.mono {b b2:List Int} {c:aU} (H:iL b c) (h:∀z ∈ b,z ∈ b2):iL b2 c:=⟨H.ab8,vA c h H.V',H.sf⟩
theorem PZ {c:aU} (h:ea true c=true):c.k=7∧c.l.length=1:=by
 simp only [ea,if_true,jw,Bool.and_eq_true] at h
 exact ⟨of_decide_eq_true h.1.1.1.1.1,of_decide_eq_true h.2⟩
theorem iL.shape {b:List Int} {c:aU} (H:iL b c):Shape c∧(1≤c.k∧c.k≤12)∧∀a ∈ c.a,a.k=1→a.n ∈ b:=by
 obtain ⟨ad,ak,aB⟩:=H
 obtain ⟨f1,f2,f3,f4,f5⟩:=aB.kids
 obtain ⟨k,x,n,s,a,t,l⟩:=c
 simp only [free,List.append_eq_nil_iff] at ak
 simp only [may] at ad
 by_cases al:k=8
 · subst al
   rw [if_pos rfl] at ad
   simp only [Bool.and_eq_true,tV,decide_eq_true_eq,aU.a,aU.t,aU.x,aU.n,aU.s] at ad
   obtain ⟨⟨⟨_,bT⟩,aL⟩,ba⟩:=ad
   obtain ⟨aY,bn⟩:=HT ba
   refine ⟨⟨f2,f3,f4,fun q aZ=>?_,by simp [aU.k],by simp [aU.k],by simp [aU.k],by simp [aU.k],by simp [aU.k],by simp [aU.k],fun _=>⟨aL,fun f ar=>(PZ (aY f ar).2.1).2⟩,by simp [aU.k],by simp [aU.k]⟩,by simp [aU.k],En.1 ak.1⟩
   have Gn:a=[]:=of_decide_eq_true bT
   simp only [aU.a,Gn] at aZ
   cases aZ
 · rw [if_neg al] at ad
   simp only [Bool.and_eq_true] at ad
   obtain ⟨dj,eW,fz,yx,yy,AR,AS,acH,acI⟩:=ado ad.1
   exact ⟨⟨f2,f3,f4,fun q aZ=>List.all_eq_true.1 eW q aZ,fun e=>by have:=fz e;omega,fun e=>by have:=yx e;omega,yy,AR,AS,acH,fun e=>absurd e al,acI,by omega⟩,by omega,En.1 ak.1⟩
theorem iL.kids {b:List Int} {c:aU} (H:iL b c):(c.k=2∨c.k=11→∀p q,c.l=[p,q]→iL b p∧iL (c.x::b) q)∧(c.k=7→∀p,c.l=[p]→iL (c.x::b) p)∧
 (c.k=9∨c.k=10→∀p ∈ c.l,iL b p)∧(c.k=8→(∀f ∈ c.l.dropLast,iL (f.x::(c.l.dropLast.map aU.n++b)) (f.l.headD f))∧∀p ∈ c.l.getLast?,iL (c.l.dropLast.map aU.n++b) p):=by
 obtain ⟨ad,ak,aB⟩:=H
 have f5:=aB.kids.2.2.2.2
 obtain ⟨k,x,n,s,a,t,l⟩:=c
 simp only [free,List.append_eq_nil_iff] at ak
 simp only [may] at ad
 simp only [aU.k,aU.l,aU.x] at f5 ⊢
 by_cases al:k=8
 · subst al
   rw [if_pos rfl] at ad
   simp only [Bool.and_eq_true] at ad
   obtain ⟨aY,bn⟩:=HT ad.2
   have sT:∀c ∈ l,free c (b++l.dropLast.map aU.n)=[]:=by
    have:=ak.2
    simp only [dM,ownNames] at this
    exact F' (by simpa using this)
   refine ⟨by simp,by simp,by simp,fun _=>⟨fun f ar=>?_,fun p aQ=>?_⟩⟩
   · obtain ⟨aP,aA,a2⟩:=aY f ar
     have hJ:=(List.dropLast_sublist l).mem ar
     have bH:=sT f hJ
     have bM:=(CI f5 f hJ).kids.2.2.2.2
     have e0:=(PZ aA).2
     obtain ⟨Wn,ahz,fn,bg,cX,gy,Wf⟩:=f
     simp only [aU.k,aU.l,aU.x] at aP e0 bM ⊢
     subst aP
     match Wf,e0 with
     | [p],_=>
       simp only [lJ,qY] at a2
       simp only [free,List.append_eq_nil_iff,iP,dM,ownNames] at bH
       refine ⟨a2,vA p (fun z bD=>?_) bH.2.1,bM.1⟩
       simp at bD ⊢
       grind
   · have qM:p ∈ l:=List.mem_of_getLast? aQ
     refine ⟨bn p aQ,vA p (fun z bD=>?_) (sT p qM),CI f5 p qM⟩
     simp at bD ⊢
     grind
 · rw [if_neg al] at ad
   simp only [Bool.and_eq_true] at ad
   refine ⟨fun e p q aL=>?_,fun e p aL=>?_,fun e p aQ=>?_,fun e=>absurd e al⟩
   · subst aL
     have gP:dM k=true:=by simp only [dM];rcases e with rfl | rfl<;>rfl
     have hy:ownNames k x [p,q]=[]:=by simp only [ownNames];rcases e with rfl | rfl<;>rfl
     have:=ak.2
     rw [gP,hy] at this
     simp only [iP,List.append_eq_nil_iff] at this
     have hm:=ad.2
     simp only [iG,Bool.and_eq_true] at hm
     refine ⟨⟨hm.1,vA p (fun z bD=>?_) this.1,f5.1⟩,⟨hm.2.1,vA q (fun z bD=>?_) this.2.1,f5.2.1⟩⟩
     · simpa using bD
     · simp at bD ⊢;grind
   · subst aL
     subst e
     have:=ak.2
     simp only [iP,List.append_eq_nil_iff,dM,ownNames] at this
     have hm:=ad.2
     simp only [iG,Bool.and_eq_true] at hm
     refine ⟨hm.1,vA p (fun z bD=>?_) this.1,f5.1⟩
     simp at bD ⊢;grind
   · have gP:dM k=false:=by simp only [dM];rcases e with rfl | rfl<;>rfl
     have hy:ownNames k x l=[]:=by simp only [ownNames];rcases e with rfl | rfl<;>rfl
     have:=ak.2
     rw [gP,hy,List.append_nil] at this
     exact ⟨Pp ad.2 p aQ,F' this p aQ,CI f5 p aQ⟩
def keys (e:ig):List Int:=e.map Prod.fst
structure c9 (S:av) (n:Nat) (aN:List UInt8):Prop where
 c:iL (keys S.e) S.c
 w:∀a ∈ S.w,iL (a.x::keys a.e) a.c
 fns:∀v ∈ S.st,∀x c e,v=.fn x c e→iL (x::keys e) c
 ints:∀v ∈ S.st,∀n,v=.int n→-1073741824≤n∧n≤1073741823
 texts:∀v ∈ S.st,∀s,v=.text s→s.length≤4096
 wl:S.w.length≤n
 out:S.out.length≤4096 * n
 read:S.read≤aN.length
theorem yQ (n:Int):-1073741824≤wr n∧wr n≤1073741823:=by unfold wr;omega
theorem av.I9 {S:av} {j:Nat}:S.val j ∈ S.st∨S.val j=.int 0:=by
 unfold av.val
 by_cases h:j<S.st.length
 · rw [List.getD_eq_getElem?_getD,List.getElem?_eq_getElem h];exact .inl (List.getElem_mem h)
 · rw [List.getD_eq_getElem?_getD,List.getElem?_eq_none (by omega)];exact .inr rfl
section
variable {S:av} {n:Nat} {aN:List UInt8}
theorem c9.Er (H:c9 S n aN) {j:Nat} {m:Int} (h:S.val j=.int m):-1073741824≤m∧m≤1073741823:=by
 rcases av.I9 (S:=S) (j:=j) with q | q
 · exact H.ints _ q m h
 · rw [h] at q;cases q;omega
theorem c9.I' (H:c9 S n aN) {j:Nat} {s:List UInt8} (h:S.val j=.text s):s.length≤4096:=by
 rcases av.I9 (S:=S) (j:=j) with q | q
 · exact H.texts _ q s h
 · rw [h] at q;cases q
theorem c9.agr (H:c9 S n aN) {j:Nat} {x:Int} {c:aU} {e:ig} (h:S.val j=.fn x c e):iL (x::keys e) c:=by
 rcases av.I9 (S:=S) (j:=j) with q | q
 · exact H.fns _ q x c e h
 · rw [h] at q;cases q
theorem c9.ok (H:c9 S n aN) (a1:n≤1000000):Ok S:=⟨fun j m h=>H.Er h,fun j s h=>H.I' h,by have:=H.wl;omega,by have:=H.out;omega⟩
theorem c9.up (H:c9 S n aN) {m:Nat} (h:n≤m):c9 S m aN:=⟨H.c,H.w,H.fns,H.ints,H.texts,Nat.le_trans H.wl h,by have:=H.out;omega,H.read⟩
def vd (v:eF):Prop:=(∀x c e,v=.fn x c e→iL (x::keys e) c)∧(∀n,v=.int n→-1073741824≤n∧n≤1073741823)∧∀s,v=.text s→s.length≤4096
theorem oP {m:Int} (h:-1073741824≤m∧m≤1073741823):vd (.int m):=⟨fun _ _ _ q=>(by cases q),fun _ q=>(by cases q;exact h),fun _ q=>(by cases q)⟩
theorem CS {s:List UInt8} (h:s.length≤4096):vd (.text s):=⟨fun _ _ _ q=>(by cases q),fun _ q=>(by cases q),fun _ q=>(by cases q;exact h)⟩
theorem ng (t:Int) (bg:List Nat):vd (.df t bg):=⟨fun _ _ _ q=>(by cases q),fun _ q=>(by cases q),fun _ q=>(by cases q)⟩
theorem NK {x:Int} {c:aU} {e:ig} (h:iL (x::keys e) c):vd (.fn x c e):=⟨fun _ _ _ q=>(by cases q;exact h),fun _ q=>(by cases q),fun _ q=>(by cases q)⟩
theorem c9.fW (H:c9 S n aN) {v:eF} (h:vd v):c9 (S.fW v) n aN:=by
 refine ⟨H.c,H.w,fun u hu=>?_,fun u hu=>?_,fun u hu=>?_,H.wl,H.out,H.read⟩<;>simp only [av.fW,List.mem_append,List.mem_singleton] at hu<;>rcases hu with hu | rfl
 · exact H.fns u hu
 · exact h.1
 · exact H.ints u hu
 · exact h.2.1
 · exact H.texts u hu
 · exact h.2.2
theorem c9.ends (H:c9 S n aN) (qK:Int):c9 (S.ends qK) n aN:=⟨H.c,H.w,H.fns,H.ints,H.texts,H.wl,H.out,H.read⟩
theorem c9.m1 (H:c9 S n aN) (j:Nat):c9 (S.m1 j) n aN:=by
 have key:∀w:List jZ,(∀a ∈ w,a ∈ S.w)→w.length≤S.w.length→c9 (S.si j w) n aN:=by
  intro w
  induction w with
  | nil=>intro _ _;exact ⟨H.c,fun a bT=>(by cases bT),H.fns,H.ints,H.texts,Nat.zero_le _,H.out,H.read⟩
  | cons a w bJ=>
    intro hw aL
    simp only [List.length_cons] at aL
    simp only [av.si]
    split
    · exact bJ (fun b af=>hw b (by simp [af])) (by omega)
    · exact ⟨H.w a (hw a (by simp)),fun b af=>H.w b (hw b (by simp [show b ∈ w from af])),H.fns,H.ints,H.texts,by have:=H.wl;simp only [av.CR];omega,H.out,H.read⟩
 exact key S.w (fun _ h=>h) (Nat.le_refl _)
theorem c9.p7 (H:c9 S n aN) (j:Nat):c9 (S.p7 j) n aN:=by
 have key:∀w:List jZ,(∀a ∈ w,a ∈ S.w)→w.length≤S.w.length→c9 (S.ln j w) n aN:=by
  intro w
  induction w with
  | nil=>
    intro _ _
    simp only [av.ln]
    split<;>exact ⟨H.c,fun a bT=>(by cases bT),H.fns,H.ints,H.texts,Nat.zero_le _,H.out,H.read⟩
  | cons a w bJ=>
    intro hw aL
    simp only [List.length_cons] at aL
    simp only [av.ln]
    split
    · exact ⟨H.w a (hw a (by simp)),fun b af=>H.w b (hw b (by simp [show b ∈ w from af])),H.fns,H.ints,H.texts,by have:=H.wl;simp only [av.CR];omega,H.out,H.read⟩
    · exact bJ (fun b af=>hw b (by simp [af])) (by omega)
 exact key S.w (fun _ h=>h) (Nat.le_refl _)
theorem c9.dN (H:c9 S n aN) {v:eF} (h:vd v):c9 (S.dN v) n aN:=(H.fW h).m1 _
theorem c9.nv (H:c9 S n aN) {v:eF} (h:vd v):c9 (S.nv v) n aN:=(H.fW h).p7 _
theorem c9.PU (H:c9 S n aN) {o:List UInt8} (h:o.length≤4096):c9 {S with out:=S.out++o} (n+1) aN:=
 ⟨H.c,H.w,H.fns,H.ints,H.texts,by have:=H.wl;simp only;omega,by have:=H.out;simp only [List.length_append];omega,H.read⟩
theorem c9.atoms (H:c9 S n aN) (l:List At) (h:∀a ∈ l,gE a=true):c9 (S.atoms l).1 n aN:=by
 have key:∀(l:List At) (p:av × List Nat),(∀a ∈ l,gE a=true)→c9 p.1 n aN→c9 (l.foldl av.oI p).1 n aN:=by
  intro l
  induction l with
  | nil=>intro p _ h;exact h
  | cons a l bJ=>
    intro p bT aQ
    rw [List.foldl_cons]
    refine bJ _ (fun b af=>bT b (by simp [af])) ?_
    have g':=bT a (by simp)
    simp only [av.oI,av.atom]
    by_cases bS:a.k=1
    · rw [if_pos bS];exact aQ
    · rw [if_neg bS]
      by_cases cF:a.k=2
      · rw [if_pos cF]
        refine aQ.fW (oP ?_)
        simp only [gE,if_neg bS,if_pos cF,Bool.and_eq_true,o4,decide_eq_true_eq] at g'
        omega
      · rw [if_neg cF]
        refine aQ.fW (CS ?_)
        simp only [gE,if_neg bS,if_neg cF] at g'
        by_cases gS:a.k=3
        · rw [if_pos gS] at g'
          simp only [Bool.and_eq_true,decide_eq_true_eq] at g'
          omega
        · rw [if_neg gS] at g';cases g'
 exact key l (S,[]) h H
theorem jy {p:Prop} [Decidable p] {A B:av} (ad:c9 A n aN) (ak:c9 B n aN):c9 (if p then A else B) n aN:=by split<;>assumption
theorem c9.n_ (H:c9 S n aN) (s:List UInt8) (bu:List Nat):c9 (S.n_ aN s bu) (n+1) aN:=by
 have U:=H.up (Nat.le_succ n)
 have T:=U.ends 6
 have fX:∀k:Int→Int→av,(∀a b,-1073741824≤a∧a≤1073741823→-1073741824≤b∧b≤1073741823→c9 (k a b) (n+1) aN)→c9 (S.fX bu k) (n+1) aN:=by
  intro k al
  simp only [av.fX]
  split
  · rename_i a b ad ak;exact al a b (H.Er ad) (H.Er ak)
  · exact T
 have jP:∀k:Int→av,(∀a,-1073741824≤a∧a≤1073741823→c9 (k a) (n+1) aN)→c9 (S.jP bu k) (n+1) aN:=by
  intro k al
  simp only [av.jP]
  split
  · rename_i a ad;exact al a (H.Er ad)
  · exact T
 have mu:∀k:List UInt8→av,(∀a,a.length≤4096→c9 (k a) (n+1) aN)→c9 (S.mu bu k) (n+1) aN:=by
  intro k al
  simp only [av.mu]
  split
  · rename_i a ad;exact al a (H.I' ad)
  · exact T
 unfold av.n_
 refine jy (fX _ fun a b _ _=>U.dN (oP (yQ _))) ?_
 refine jy (fX _ fun a b _ _=>U.dN (oP (yQ _))) ?_
 refine jy (fX _ fun a b _ _=>U.dN (oP (yQ _))) ?_
 refine jy (fX _ fun a b _ _=>U.dN (ng _ _)) ?_
 refine jy (fX _ fun a b _ _=>U.dN (ng _ _)) ?_
 refine jy (fX _ fun a b _ _=>U.dN (ng _ _)) ?_
 refine jy ?_ ?_
 · refine fX _ fun a b _ _=>?_
   split
   · exact U.nv (ng _ _)
   · exact U.dN (oP (yQ _))
 refine jy ?_ ?_
 · refine fX _ fun a b _ _=>?_
   split
   · exact U.nv (ng _ _)
   · exact U.dN (oP (yQ _))
 refine jy (jP _ fun a _=>U.dN (oP (yQ _))) ?_
 refine jy ?_ ?_
 · unfold av.uh
   split
   · exact U.dN (oP (by omega))
   · rename_i ba
     have V:c9 {S with read:=S.read+1} (n+1) aN:=⟨U.c,U.w,U.fns,U.ints,U.texts,U.wl,U.out,by simp only;omega⟩
     refine V.dN (oP ?_)
     have:=(aN[S.read]?.getD 0).toNat_lt
     omega
 refine jy (jP _ fun a _=>(H.PU (by simp)).dN (ng _ _)) ?_
 refine jy (mu _ fun a bT=>(H.PU bT).dN (ng _ _)) ?_
 refine jy (mu _ fun a bT=>U.dN (oP (by omega))) ?_
 refine jy (jP _ fun a _=>U.dN (CS (by simp))) ?_
 refine jy ?_ ?_
 · unfold av.oK
   split
   · split
     · rename_i s i _ _ _
       refine U.dN (oP ?_)
       have:=(s[i.toNat]?.getD 0).toNat_lt
       omega
     · exact U.nv (ng _ _)
   · exact T
 refine jy ?_ ?_
 · unfold av.cut
   split
   · split
     · rename_i s a b ad _ _ _
       have:=H.I' ad
       refine U.dN (CS ?_)
       rw [List.length_take,List.length_drop]
       omega
     · exact U.nv (ng _ _)
   · exact T
 refine jy ?_ ?_
 · unfold av.join
   split
   · split
     · refine U.dN (CS ?_)
       rw [List.length_append];assumption
     · exact U.nv (ng _ _)
   · exact T
 refine jy ?_ ?_
 · unfold av.pe
   split
   · split
     · have V:c9 {S with st:=S.st.set (bu.getD 0 0) (.df 0 [bu.getD 1 0])} (n+1) aN:=by
        refine ⟨U.c,U.w,fun u hu=>?_,fun u hu=>?_,fun u hu=>?_,U.wl,U.out,U.read⟩
        · rcases List.mem_or_eq_of_mem_set hu with q | rfl
          · exact U.fns u q
          · exact (ng _ _).1
        · rcases List.mem_or_eq_of_mem_set hu with q | rfl
          · exact U.ints u q
          · exact (ng _ _).2.1
        · rcases List.mem_or_eq_of_mem_set hu with q | rfl
          · exact U.texts u q
          · exact (ng _ _).2.2
       exact V.dN (ng _ _)
     · exact T
   · exact T
 exact U
theorem c9.call (H:c9 S n aN) (f v:Nat):c9 (S.call f v) n aN:=by
 unfold av.call
 split
 · rename_i x c e h
   exact ⟨H.agr h,H.w,H.fns,H.ints,H.texts,H.wl,H.out,H.read⟩
 · exact H.ends 6
theorem c9.l6 (H:c9 S n aN) (m:Int) (j:Nat):c9 (S.l6 m j) n aN:=by
 unfold av.l6
 split
 · split
   · exact H.ends 6
   · exact H.m1 _
 · exact H.ends 6
theorem c9.h_ (H:c9 S n aN) (h:∀p ∈ S.c.l,iL (keys S.e) p) (i:Nat):c9 (S.h_ i) n aN:=by
 unfold av.h_
 split
 · rename_i d ca
   exact ⟨h d (List.mem_of_getElem? ca),H.w,H.fns,H.ints,H.texts,H.wl,H.out,H.read⟩
 · exact H.ends 6
theorem c9.hX (H:c9 S n aN) (h:∀p ∈ S.c.l,iL (keys S.e) p) (b:Bool) (j:Nat):c9 (S.hX b j) n aN:=by
 unfold av.hX
 split
 · split
   · exact H.ends 6
   · exact H.h_ h _
 · split
   · exact H.h_ h _
   · exact H.ends 6
 · exact H.ends 6
theorem ad0 (S:av) (l:List aU):(∀z,z ∈ keys (S.fA l).e↔z ∈ l.map aU.n∨z ∈ keys S.e):=by
 induction l generalizing S with
 | nil=>intro z;simp [av.fA]
 | cons f l bJ=>
   intro z
   have:=bJ (S.ir f) z
   show z ∈ keys ((S.ir f).fA l).e↔_
   rw [this]
   simp only [av.ir,keys,List.map_cons,List.mem_cons]
   grind
theorem ad1 (S:av) (l:List aU):(S.fA l).w=S.w∧(S.fA l).c=S.c∧(S.fA l).out=S.out∧(S.fA l).read=S.read∧(S.fA l).st=S.st++l.map fun f=>eF.fn f.x (f.l.headD f) []:=by
 induction l generalizing S with
 | nil=>simp [av.fA]
 | cons f l bJ=>
   obtain ⟨bt,b1,a3,a4,a5⟩:=bJ (S.ir f)
   refine ⟨bt,b1,a3,a4,?_⟩
   show ((S.ir f).fA l).st=_
   rw [a5]
   simp [av.ir,av.fW]
theorem Qq (e:ig):∀(l:List aU) (pre:List eF) (v:eF),v ∈ av.h1 e pre.length (pre++l.map fun f=>eF.fn f.x (f.l.headD f) []) l→v ∈ pre∨∃f ∈ l,v=.fn f.x (f.l.headD f) e
 | [],pre,v,h=>by simpa [av.h1] using h
 | f::l,pre,v,h=>by
   rw [av.h1,List.map_cons] at h
   have aM:(pre++eF.fn f.x (f.l.headD f) []::l.map fun f=>eF.fn f.x (f.l.headD f) []).set pre.length (.fn f.x (f.l.headD f) e)=(pre++[.fn f.x (f.l.headD f) e])++l.map fun f=>eF.fn f.x (f.l.headD f) []:=by
    rw [List.set_append_right _ _ (Nat.le_refl _),Nat.sub_self];simp
   have aL:pre.length+1=(pre++[eF.fn f.x (f.l.headD f) e]).length:=by simp
   rw [aM,aL] at h
   rcases Qq e l _ v h with q | ⟨g,bl,rfl⟩
   · simp only [List.mem_append,List.mem_singleton] at q
     rcases q with q | rfl
     · exact .inl q
     · exact .inr ⟨f,by simp,rfl⟩
   · exact .inr ⟨g,by simp [bl],rfl⟩
theorem c9.pb (H:c9 S n aN) (hH:S.c.k=8) (aL:S.c.l≠[]):c9 S.pb n aN:=by
 obtain ⟨bS,cF⟩:=H.c.kids.2.2.2 hH
 obtain ⟨aY,bn,cl,c2,hz⟩:=ad1 S S.c.l.dropLast
 have ad9:=ad0 S S.c.l.dropLast
 have Ox:∀z,z ∈ S.c.l.dropLast.map aU.n++keys S.e→z ∈ keys (S.fA S.c.l.dropLast).e:=fun z bD=>(ad9 z).2 (List.mem_append.1 bD)
 have sX:∀v ∈ av.h1 (S.fA S.c.l.dropLast).e S.st.length (S.fA S.c.l.dropLast).st S.c.l.dropLast,v ∈ S.st∨∃f ∈ S.c.l.dropLast,v=.fn f.x (f.l.headD f) (S.fA S.c.l.dropLast).e:=by
  intro v bh
  rw [hz] at bh
  exact Qq _ _ _ v bh
 unfold av.pb
 refine ⟨?_,by simp only [aY];exact H.w,fun v bh=>?_,fun v bh=>?_,fun v bh=>?_,by simp only [aY];exact H.wl,by simp only [cl];exact H.out,by simp only [c2];exact H.read⟩
 · have:S.c.l.getLastD S.c ∈ S.c.l.getLast? :=by
    rw [List.getLastD_eq_getLast?]
    cases aZ:S.c.l.getLast? with
    | none=>exact absurd (List.getLast?_eq_none_iff.1 aZ) aL
    | some d=>simp
   exact (cF _ this).mono Ox
 · rcases sX v bh with q | ⟨f,ar,rfl⟩
   · exact H.fns v q
   · exact (NK ((bS f ar).mono fun z bD=>by
      rcases List.mem_cons.1 bD with rfl | bD
      · simp
      · exact List.mem_cons.2 (.inr (Ox z bD)))).1
 · rcases sX v bh with q | ⟨f,ar,rfl⟩
   · exact H.ints v q
   · intro m q;cases q
 · rcases sX v bh with q | ⟨f,ar,rfl⟩
   · exact H.texts v q
   · intro m q;cases q
theorem c9.waits (H:c9 S n aN) (h:S.c.k=2∨S.c.k=11):c9 S.waits (n+1) aN:=by
 obtain ⟨tu,_,_⟩:=H.c.shape
 have aL:=tu.eI h
 obtain ⟨p,q,G9⟩:∃p q,S.c.l=[p,q]:=by
  match fT:S.c.l,aL with
  | [p,q],_=>exact ⟨p,q,rfl⟩
 obtain ⟨bS,cF⟩:=H.c.kids.1 h p q G9
 have ck:S.eg 0=p:=by simp [av.eg,G9]
 have aI:S.eg 1=q:=by simp [av.eg,G9]
 unfold av.waits
 refine ⟨by simp only [ck];exact bS,fun a bT=>?_,H.fns,H.ints,H.texts,by have:=H.wl;simp only [List.length_cons];omega,by have:=H.out;simp only;omega,H.read⟩
 rcases List.mem_cons.1 bT with rfl | bT
 · simp only [aI];exact cF
 · exact H.w a bT
theorem c9.step (H:c9 S n aN):c9 (S.step aN) (n+1) aN:=by
 obtain ⟨tu,al,bh⟩:=H.c.shape
 have A:=H.atoms S.c.a tu.at_
 obtain ⟨kG,cW,k2,nd,l5,hv⟩:=av.l3 S S.c.a
 unfold av.step
 generalize (S.atoms S.c.a).1=T at *
 generalize (S.atoms S.c.a).2=bu at *
 have U:=A.up (Nat.le_succ n)
 unfold av.dE
 refine jy (U.m1 _) ?_
 by_cases ak:T.c.k=2∨T.c.k=11
 · rw [if_pos ak];exact A.waits ak
 rw [if_neg ak]
 refine jy (A.n_ _ _) ?_
 refine jy (U.dN (ng _ _)) ?_
 refine jy (U.l6 _ _) ?_
 refine jy (U.call _ _) ?_
 by_cases c6:T.c.k=7
 · rw [if_pos c6]
   have aL:=tu.HG (by rw [←cW];exact c6)
   rw [←cW] at aL
   obtain ⟨p,aQ⟩:∃p,T.c.l=[p]:=by
    match fT:T.c.l,aL with
    | [p],_=>exact ⟨p,rfl⟩
   have ck:T.eg 0=p:=by simp [av.eg,aQ]
   rw [ck]
   exact U.dN (NK (U.c.kids.2.1 c6 p aQ))
 rw [if_neg c6]
 by_cases hH:T.c.k=8
 · rw [if_pos hH]
   have aL:=(tu.HH (by rw [←cW];exact hH)).1
   exact U.pb hH (by rw [cW];intro q;rw [q] at aL;simp at aL)
 rw [if_neg hH]
 by_cases ia:T.c.k=9
 · rw [if_pos ia];exact U.hX (U.c.kids.2.2.1 (.inl ia)) _ _
 rw [if_neg ia]
 by_cases il:T.c.k=10
 · rw [if_pos il];exact U.hX (U.c.kids.2.2.1 (.inr il)) _ _
 rw [if_neg il]
 exact jy (U.p7 _) U
theorem c9.start {c:aU} (h:iL [] c):c9 (start c) 0 aN:=⟨h,fun _ q=>(by cases q),fun _ q=>(by cases q),fun _ q=>(by cases q),fun _ q=>(by cases q),Nat.le_refl _,Nat.le_refl _,Nat.zero_le _⟩
theorem c9.nth {c:aU} (h:iL [] c):∀i,c9 ((Go.Proofs.YtjbiefneffiogaaGreat.start c).nth aN i) i aN
 | 0=>c9.start h
 | i+1=>(c9.nth h i).step
end
end Go.Proofs.YtjbiefneffiogaaGreat
namespace Go.Proofs.YtjbiefneffiogaaGreat
open Go bs
theorem wW (n:Int) (h:ai):lr Tryz.prog 130 [.int .i64 n] h (.bool (gl n)) h:=by
 refine tk (TQ rfl (bO ?_))
 unfold K7
 simp +contextual only [↓ab,ae,simprocAttr]
 rfl
theorem QE (n:Int) (h:ai):lr Tryz.prog 163 [.int .i64 n] h (.bool (o4 n)) h:=by
 refine tk (T' rfl (bO ?_))
 unfold Lv
 simp +contextual only [↓ab,ae,simprocAttr]
 rfl
theorem adW (a:At) (h:ai):bB Tryz.prog 162 [.agg a.enc] h fun x J=>x=.bool (gE a)∧Ext h J:=by
 obtain ⟨k,n,s⟩:=a
 refine T9 rfl (bO ?_)
 unfold Lu
 have ax:Ext h (h.new (.au (At.enc ⟨k,n,s⟩) 0 false)):=(Ext.refl h).new _
 have he:At.enc ⟨k,n,s⟩=[.int .i64 k,.int .i64 n,.str s]:=rfl
 rw [he] at ax ⊢
 by_cases ad:k=1
 · subst ad
   simp +contextual only [↓ab,ae,simprocAttr]
   refine ih (wW _ _) ?_
   simp +contextual only [↓ab,ae,simprocAttr]
   refine ⟨?_,ax⟩
   simp [gE]
 by_cases ak:k=2
 · subst ak
   simp +contextual only [↓ab,ae,simprocAttr]
   refine ih (QE _ _) ?_
   simp +contextual only [↓ab,ae,simprocAttr]
   refine ⟨?_,ax⟩
   simp [gE]
 by_cases aB:k=3
 · subst aB
   simp +contextual only [↓ab,ae,simprocAttr]
   refine ⟨?_,ax⟩
   simp [gE]
   congr 1
   rw [decide_eq_decide]
   omega
 · have dZ:=eq_false ad
   have k4:=eq_false ak
   have k5:=eq_false aB
   simp +contextual only [dZ,k4,k5,↓ab,ae,simprocAttr]
   refine ⟨?_,ax⟩
   simp [gE,ad,ak,aB]
theorem uX (l:List At) (n:Int) (v:V) (h:ai) (H:cj h 3 v l.length (j9 l)) (aL:l.length≤4611686018427387904):
 bB Tryz.prog 131 [v,.int .i64 n] h fun x J=>x=.bool (h8 l n)∧Ext h J:=by
 refine TR rfl (bO ?_)
 unfold K8
 simp +contextual only [↓ab,ae,simprocAttr]
 refine fV (fun r J=>Ext h J∧r 0=v∧r 1=.int .i64 n∧∃i:Nat,r 5=.int .i64 i∧i≤l.length∧l.all gE=(l.drop i).all gE) (fun r J=>l.length - (r 5).gV) ?_ ?_
 · exact ⟨Ext.refl h,by simp only [↓ab,bf,simprocAttr],by simp only [↓ab,bf,simprocAttr],0,by simp only [↓ab,bf,simprocAttr]<;>rfl,by omega,rfl⟩
 · rintro r J ⟨ax,bm,aY,i,hz,aH,b8⟩
   unfold K9
   have b6:=(H.ext ax).len
   by_cases a7:i<l.length
   · have bV:((i:Int) < (l.length:Int))=True:=eq_true (by omega)
     obtain ⟨b,o,b9,cG,_⟩:=xB (H.ext ax) (k:=.i64) a7
     rw [List.drop_eq_getElem_cons a7,List.all_cons] at b8
     have w:=g4 a7 aL
     simp +contextual only [bm,aY,hz,b6,bV,b9,cG,↓ab,ae,simprocAttr]
     refine aS (adW l[i] J) ?_
     rintro x ad ⟨rfl,dn⟩
     cases bT:gE l[i] with
     | true=>
       simp +contextual only [bm,aY,hz,w,↓ab,ae,simprocAttr]
       exact ⟨⟨ax.trans dn,⟨i+1,rfl,a7,by rw [b8,bT,Bool.true_and]⟩⟩,by omega⟩
     | false=>
       have ar:h8 l n=false:=by rw [h8,b8,bT,Bool.false_and,Bool.false_and]
       simp +contextual only [ar,↓ab,ae,simprocAttr]
       exact ax.trans dn
   · have bV:((i:Int) < (l.length:Int))=False:=eq_false (by omega)
     rw [List.drop_eq_nil_of_le (by omega)] at b8
     simp +contextual only [bm,aY,hz,b6,bV,↓ab,ae,simprocAttr]
     refine ⟨?_,ax⟩
     rw [h8,b8]
     rfl
set_option maxHeartbeats 2000000 in
theorem Q_ (s:List UInt8) (h:ai):lr Tryz.prog 132 [.str s] h (.int .i64 (eK s)) h:=by
 refine tk (TS rfl (bO ?_))
 unfold K'
 by_cases ad:s=[97,100,100]
 · have aI:=eq_true ad
   have aF:eK s=2:=by rw [ad];rfl
   simp +contextual only [aI,aF,↓ab,ae,simprocAttr]
 have aI:=eq_false ad
 by_cases ak:s=[115,117,98]
 · have bo:=eq_true ak
   have aF:eK s=2:=by rw [ak];rfl
   simp +contextual only [aI,bo,aF,↓ab,ae,simprocAttr]
 have bo:=eq_false ak
 by_cases aB:s=[109,117,108]
 · have cp:=eq_true aB
   have aF:eK s=2:=by rw [aB];rfl
   simp +contextual only [aI,bo,cp,aF,↓ab,ae,simprocAttr]
 have cp:=eq_false aB
 by_cases bw:s=[100,105,118]
 · have eA:=eq_true bw
   have aF:eK s=2:=by rw [bw];rfl
   simp +contextual only [aI,bo,cp,eA,aF,↓ab,ae,simprocAttr]
 have eA:=eq_false bw
 by_cases ej:s=[109,111,100]
 · have iD:=eq_true ej
   have aF:eK s=2:=by rw [ej];rfl
   simp +contextual only [aI,bo,cp,eA,iD,aF,↓ab,ae,simprocAttr]
 have iD:=eq_false ej
 by_cases gA:s=[101,113]
 · have jJ:=eq_true gA
   have aF:eK s=2:=by rw [gA];rfl
   simp +contextual only [aI,bo,cp,eA,iD,jJ,aF,↓ab,ae,simprocAttr]
 have jJ:=eq_false gA
 by_cases c6:s=[108,116]
 · have fE:=eq_true c6
   have aF:eK s=2:=by rw [c6];rfl
   simp +contextual only [aI,bo,cp,eA,iD,jJ,fE,aF,↓ab,ae,simprocAttr]
 have fE:=eq_false c6
 by_cases hH:s=[108,101]
 · have hG:=eq_true hH
   have aF:eK s=2:=by rw [hH];rfl
   simp +contextual only [aI,bo,cp,eA,iD,jJ,fE,hG,aF,↓ab,ae,simprocAttr]
 have hG:=eq_false hH
 by_cases ia:s=[98,121,116,101]
 · have jv:=eq_true ia
   have aF:eK s=2:=by rw [ia];rfl
   simp +contextual only [aI,bo,cp,eA,iD,jJ,fE,hG,jv,aF,↓ab,ae,simprocAttr]
 have jv:=eq_false ia
 by_cases il:s=[106,111,105,110]
 · have jI:=eq_true il
   have aF:eK s=2:=by rw [il];rfl
   simp +contextual only [aI,bo,cp,eA,iD,jJ,fE,hG,jv,jI,aF,↓ab,ae,simprocAttr]
 have jI:=eq_false il
 by_cases jg:s=[115,101,116]
 · have jd:=eq_true jg
   have aF:eK s=2:=by rw [jg];rfl
   simp +contextual only [aI,bo,cp,eA,iD,jJ,fE,hG,jv,jI,jd,aF,↓ab,ae,simprocAttr]
 have jd:=eq_false jg
 by_cases ni:s=[110,101,103]
 · have nc:=eq_true ni
   have aF:eK s=1:=by rw [ni];rfl
   simp +contextual only [aI,bo,cp,eA,iD,jJ,fE,hG,jv,jI,jd,nc,aF,↓ab,ae,simprocAttr]
 have nc:=eq_false ni
 by_cases ui:s=[103,101,116,99]
 · have ub:=eq_true ui
   have aF:eK s=1:=by rw [ui];rfl
   simp +contextual only [aI,bo,cp,eA,iD,jJ,fE,hG,jv,jI,jd,nc,ub,aF,↓ab,ae,simprocAttr]
 have ub:=eq_false ui
 by_cases uj:s=[112,117,116,99]
 · have sK:=eq_true uj
   have aF:eK s=1:=by rw [uj];rfl
   simp +contextual only [aI,bo,cp,eA,iD,jJ,fE,hG,jv,jI,jd,nc,ub,sK,aF,↓ab,ae,simprocAttr]
 have sK:=eq_false uj
 by_cases xW:s=[112,117,116,115]
 · have xL:=eq_true xW
   have aF:eK s=1:=by rw [xW];rfl
   simp +contextual only [aI,bo,cp,eA,iD,jJ,fE,hG,jv,jI,jd,nc,ub,sK,xL,aF,↓ab,ae,simprocAttr]
 have xL:=eq_false xW
 by_cases xX:s=[115,105,122,101]
 · have zK:=eq_true xX
   have aF:eK s=1:=by rw [xX];rfl
   simp +contextual only [aI,bo,cp,eA,iD,jJ,fE,hG,jv,jI,jd,nc,ub,sK,xL,zK,aF,↓ab,ae,simprocAttr]
 have zK:=eq_false xX
 by_cases xY:s=[99,104,114]
 · have Cw:=eq_true xY
   have aF:eK s=1:=by rw [xY];rfl
   simp +contextual only [aI,bo,cp,eA,iD,jJ,fE,hG,jv,jI,jd,nc,ub,sK,xL,zK,Cw,aF,↓ab,ae,simprocAttr]
 have Cw:=eq_false xY
 by_cases CT:s=[99,117,116]
 · have FU:=eq_true CT
   have aF:eK s=3:=by rw [CT];rfl
   simp +contextual only [aI,bo,cp,eA,iD,jJ,fE,hG,jv,jI,jd,nc,ub,sK,xL,zK,Cw,FU,aF,↓ab,ae,simprocAttr]
 have FU:=eq_false CT
 have aF:eK s=0:=by
  rw [eK,if_neg (by simp only [tj,List.mem_cons,List.not_mem_nil,or_false,not_or];exact ⟨ad,ak,aB,bw,ej,gA,c6,hH,ia,il,jg⟩),if_neg (by simp only [ti,List.mem_cons,List.not_mem_nil,or_false,not_or];exact ⟨ni,ui,uj,xW,xX,xY⟩),if_neg CT]
 simp +contextual only [aI,bo,cp,eA,iD,jJ,fE,hG,jv,jI,jd,nc,ub,sK,xL,zK,Cw,FU,aF,↓ab,ae,simprocAttr]
theorem pK (c:aU) (ah:List V) (h:ai) (H:ef h c ah) (x n s t:Bool):bB Tryz.prog 69 [.agg ah,.bool x,.bool n,.bool s,.bool t] h fun y J=>y=.bool (hasB c x n s t)∧Ext h J:=by
 obtain ⟨aX,a6,az,rfl,dv,eL,cJ⟩:=H.open
 refine UE rfl (bO ?_)
 unfold Mh
 have ck:Ext h (h.new (.au [.int .i64 c.k,.int .i64 c.x,.int .i64 c.n,.str c.s,aX,a6,az] 0 false)):=(Ext.refl h).new _
 have cq:=(eL.ext ck).len
 simp +contextual only [cq,↓ab,ae,simprocAttr]
 refine ⟨?_,ck⟩
 have aI:decide ((c.t.length:Int)=0)=decide (c.t=[]):=by rw [decide_eq_decide,←List.length_eq_zero_iff];omega
 rw [aI]
 rfl
theorem QH (hr:Bool) (l:List Int) (v:V) (h:ai) (H:cj h 1 v l.length (cd l)) (aL:l.length≤4611686018427387904):
 lr Tryz.prog 133 [v,.bool hr] h (.bool (kS hr l)) h:=by
 refine tk (TT rfl (bO ?_))
 unfold K_
 simp +contextual only [↓ab,ae,simprocAttr]
 refine fV (fun r J=>J=h∧r 0=v∧r 1=.bool hr∧∃i:Nat,r 5=.int .i64 i∧i≤l.length∧kS hr l=sh hr (l.take i) (l.drop i)) (fun r J=>l.length - (r 5).gV) ?_ ?_
 · exact ⟨rfl,by simp only [↓ab,bf,simprocAttr],by simp only [↓ab,bf,simprocAttr],0,by simp only [↓ab,bf,simprocAttr]<;>rfl,by omega,by rw [List.take_zero,List.drop_zero,Q']⟩
 · rintro r J ⟨rfl,bm,aY,i,hz,aH,b8⟩
   unfold La
   by_cases a7:i<l.length
   · have bV:((i:Int) < (l.length:Int))=True:=eq_true (by omega)
     obtain ⟨b,o,b9,cG⟩:=ints_at H (k:=.i64) a7
     rw [List.drop_eq_getElem_cons a7,sh] at b8
     have w:=g4 a7 aL
     have ma:l.take (i+1)=l.take i++[l[i]]:=by rw [List.take_add_one,List.getElem?_eq_getElem a7];rfl
     generalize uk:(if hr=true then o4 l[i] else gl l[i])=e7 at b8
     have inner:∀(bR:bP) (aE:List iK) (Q:cN→bP→ai→Prop),bR 0=v→bR 5=.int .i64 i→bR 6=.int .i64 0→
      ((l.take i).contains l[i]=false→∀oa:bP,oa 0=v→oa 1=bR 1→oa 5=.int .i64 i→bN Tryz.prog aE (.exit 2) oa J Q)→
      ((l.take i).contains l[i]=true→∀oa:bP,oa 4=.bool false→bN Tryz.prog aE .ret oa J Q)→uK Tryz.prog FF aE bR J Q:=by
      intro bR aE Q tl da eh eT jK
      refine fV (fun oa fh=>fh=J∧oa 0=v∧oa 1=bR 1∧oa 5=.int .i64 i∧∃j:Nat,oa 6=.int .i64 j∧j≤i∧((l.take i).contains l[i]=((l.take i).drop j).contains l[i])) (fun oa fh=>i - (oa 6).gV) ?_ ?_
      · exact ⟨rfl,tl,rfl,da,0,by rw [eh];rfl,by omega,rfl⟩
      · rintro R fh ⟨rfl,lj,b_,fG,j,Ij,bQ,Af⟩
        unfold FF
        by_cases jM:j<i
        · have bH:((j:Int) < (i:Int))=True:=eq_true (by omega)
          have N9:j<l.length:=by omega
          obtain ⟨cD,eW,ib,jN⟩:=ints_at H (k:=.i64) N9
          have dq:=g4 N9 aL
          have XU:j < (l.take i).length:=by rw [List.length_take];omega
          rw [List.drop_eq_getElem_cons XU,List.contains_cons,List.getElem_take] at Af
          by_cases he:l[j]=l[i]
          · have l9:=eq_true he
            simp +contextual only [lj,fG,Ij,bH,ib,jN,b9,cG,l9,↓ab,ae,simprocAttr]
            refine jK ?_ _ (by simp only [↓ab,bf,simprocAttr])
            rw [Af,he];simp
          · have l9:=eq_false he
            simp +contextual only [lj,b_,fG,Ij,bH,ib,jN,b9,cG,l9,dq,↓ab,ae,simprocAttr]
            refine ⟨⟨j+1,rfl,by omega,?_⟩,by omega⟩
            rw [Af]
            have:(l[i] == l[j])=false:=by simpa using fun e:l[i]=l[j]=>he e.symm
            rw [this,Bool.false_or]
        · have bH:((j:Int) < (i:Int))=False:=eq_false (by omega)
          rw [List.drop_eq_nil_of_le (by rw [List.length_take];omega)] at Af
          simp +contextual only [lj,fG,Ij,bH,↓ab,ae,simprocAttr]
          exact eT (by rw [Af];rfl) _ (by simp only [lj,↓ab,bf,simprocAttr]) (by simp only [b_,↓ab,bf,simprocAttr]) (by simp only [fG,↓ab,bf,simprocAttr])
     have b6:=H.len
     cases hr with
     | true=>
       simp +contextual only [bm,aY,hz,b6,bV,b9,cG,↓ab,ae,simprocAttr]
       refine ih (QE _ _) ?_
       have bl:o4 l[i]=e7:=by rw [←uk];rfl
       cases e7 with
       | false=>
         have ar:kS true l=false:=by rw [b8];rfl
         simp +contextual only [bl,ar,↓ab,ae,simprocAttr]
       | true=>
         simp +contextual only [bm,aY,hz,bl,↓ab,ae,simprocAttr]
         refine inner _ _ _ (by simp only [bm,↓ab,bf,simprocAttr]) (by simp only [hz,↓ab,bf,simprocAttr]) (by simp only [↓ab,bf,simprocAttr]) ?_ ?_
         · intro aC bn lj b_ fG
           have o7:bn 1=.bool true:=by rw [b_];simp only [aY,↓ab,ae,simprocAttr]
           simp +contextual only [lj,o7,fG,w,↓ab,ae,simprocAttr]
           exact ⟨⟨i+1,rfl,a7,by rw [b8,aC,ma];rfl⟩,by omega⟩
         · intro aC bn ga
           have ar:kS true l=false:=by rw [b8,aC];rfl
           simp +contextual only [ga,ar,↓ab,ae,simprocAttr]
     | false=>
       simp +contextual only [bm,aY,hz,b6,bV,b9,cG,↓ab,ae,simprocAttr]
       refine ih (wW _ _) ?_
       have bl:gl l[i]=e7:=by rw [←uk];rfl
       cases e7 with
       | false=>
         have ar:kS false l=false:=by rw [b8];rfl
         simp +contextual only [bl,ar,↓ab,ae,simprocAttr]
       | true=>
         simp +contextual only [bm,aY,hz,bl,↓ab,ae,simprocAttr]
         refine inner _ _ _ (by simp only [bm,↓ab,bf,simprocAttr]) (by simp only [hz,↓ab,bf,simprocAttr]) (by simp only [↓ab,bf,simprocAttr]) ?_ ?_
         · intro aC bn lj b_ fG
           have o7:bn 1=.bool false:=by rw [b_];simp only [aY,↓ab,ae,simprocAttr]
           simp +contextual only [lj,o7,fG,w,↓ab,ae,simprocAttr]
           exact ⟨⟨i+1,rfl,a7,by rw [b8,aC,ma];rfl⟩,by omega⟩
         · intro aC bn ga
           have ar:kS false l=false:=by rw [b8,aC];rfl
           simp +contextual only [ga,ar,↓ab,ae,simprocAttr]
   · have bV:((i:Int) < (l.length:Int))=False:=eq_false (by omega)
     rw [List.drop_eq_nil_of_le (by omega)] at b8
     have b6:=H.len
     simp +contextual only [bm,aY,hz,b6,bV,↓ab,ae,simprocAttr]
     rw [b8]
     rfl
theorem rU {k:Int} (n:Int) (h:k=n):(k=1)=(n=1)∧(k=12)=(n=12)∧(k=2)=(n=2)∧(k=11)=(n=11)∧(k=3)=(n=3)∧(k=4)=(n=4)∧(k=5)=(n=5)∧(k=6)=(n=6)∧(k=9)=(n=9)∧(k=10)=(n=10):=by subst h;exact ⟨rfl,rfl,rfl,rfl,rfl,rfl,rfl,rfl,rfl,rfl⟩
set_option maxHeartbeats 4000000 in
theorem aen (c:aU) (ah:List V) (h:ai) (H:ef h c ah) (ahQ:c.a.length≤1048576) (ahR:c.t.length≤1048576) (hJ:c.l.length≤1048576):bB Tryz.prog 71 [.agg ah] h fun x J=>x=.bool (eM c)∧Ext h J:=by
 obtain ⟨aX,a6,az,rfl,dv,eL,cJ⟩:=H.open
 refine UG rfl (bO ?_)
 unfold Mj
 have ck:Ext h (h.new (.au [.int .i64 c.k,.int .i64 c.x,.int .i64 c.n,.str c.s,aX,a6,az] 0 false)):=(Ext.refl h).new _
 have step:∀g eR:ai,Ext h g→(h.next<g.next∧g.get (ao h.next)=.au [.int .i64 c.k,.int .i64 c.x,.int .i64 c.n,.str c.s,aX,a6,az] 0 false)→Ext g eR→(h.next<eR.next∧eR.get (ao h.next)=.au [.int .i64 c.k,.int .i64 c.x,.int .i64 c.n,.str c.s,aX,a6,az] 0 false)∧Ext h eR:=by
  rintro g eR e ⟨bS,cF⟩ fM
  exact ⟨⟨Nat.lt_of_lt_of_le bS fM.next,by rw [fM.get _ (dP bS)];exact cF⟩,e.trans fM⟩
 have cQ:h.next < (h.new (.au [.int .i64 c.k,.int .i64 c.x,.int .i64 c.n,.str c.s,aX,a6,az] 0 false)).next∧(h.new (.au [.int .i64 c.k,.int .i64 c.x,.int .i64 c.n,.str c.s,aX,a6,az] 0 false)).get (ao h.next)=.au [.int .i64 c.k,.int .i64 c.x,.int .i64 c.n,.str c.s,aX,a6,az] 0 false:=⟨by rw [cY];omega,gz _⟩
 have dz:=(dv.ext ck).len
 have cq:=(eL.ext ck).len
 have b6:=(cJ.ext ck).len
 by_cases ad:c.k=1
 · have E:=rU 1 ad
   have c0:eM c=(hasB c false false false false&&h8 c.a 1&&decide (c.l.length=0)):=by rw [eM];simp only [E,if_true,if_false,true_or,or_true,false_or,or_false,decide_true,decide_false,simprocAttr]
   simp +contextual only [E,dz,cq,b6,↓ab,ae,simprocAttr]
   refine aS (pK c _ _ (H.ext ck) false false false false) ?_
   rintro x bH ⟨rfl,dn⟩
   obtain ⟨bX,s1⟩:=step _ bH ck cQ dn
   obtain ⟨dL,cg⟩:=bX
   have bX:=And.intro dL cg
   cases aP:hasB c false false false false with
   | false=>
     have ar:eM c=false:=by rw [c0];grind
     simp +contextual only [E,cg,dz,cq,b6,ar,↓ab,ae,simprocAttr]
     exact s1
   | true=>
   simp +contextual only [E,cg,dz,cq,b6,↓ab,ae,simprocAttr]
   refine aS (uX c.a (1) aX bH (dv.ext s1) (by omega)) ?_
   rintro x bM ⟨rfl,fR⟩
   obtain ⟨cD,s2⟩:=step _ bM s1 bX fR
   obtain ⟨eJ,dk⟩:=cD
   have cD:=And.intro eJ dk
   cases aA:h8 c.a (1) with
   | false=>
     have ar:eM c=false:=by rw [c0];grind
     simp +contextual only [E,dk,dz,cq,b6,ar,↓ab,ae,simprocAttr]
     exact s2
   | true=>
   simp +contextual only [E,dk,dz,cq,b6,↓ab,ae,simprocAttr]
   refine ⟨?_,s2⟩
   rw [c0]
   grind
 have aI:=eq_false ad
 by_cases ni:c.k=12
 · have E:=rU 12 ni
   have c0:eM c=(hasB c false false false false&&h8 c.a 1&&decide (c.l.length=0)):=by rw [eM];simp only [E,if_true,if_false,true_or,or_true,false_or,or_false,decide_true,decide_false,simprocAttr]
   simp +contextual only [E,dz,cq,b6,↓ab,ae,simprocAttr]
   refine aS (pK c _ _ (H.ext ck) false false false false) ?_
   rintro x bH ⟨rfl,dn⟩
   obtain ⟨bX,s1⟩:=step _ bH ck cQ dn
   obtain ⟨dL,cg⟩:=bX
   have bX:=And.intro dL cg
   cases aP:hasB c false false false false with
   | false=>
     have ar:eM c=false:=by rw [c0];grind
     simp +contextual only [E,cg,dz,cq,b6,ar,↓ab,ae,simprocAttr]
     exact s1
   | true=>
   simp +contextual only [E,cg,dz,cq,b6,↓ab,ae,simprocAttr]
   refine aS (uX c.a (1) aX bH (dv.ext s1) (by omega)) ?_
   rintro x bM ⟨rfl,fR⟩
   obtain ⟨cD,s2⟩:=step _ bM s1 bX fR
   obtain ⟨eJ,dk⟩:=cD
   have cD:=And.intro eJ dk
   cases aA:h8 c.a (1) with
   | false=>
     have ar:eM c=false:=by rw [c0];grind
     simp +contextual only [E,dk,dz,cq,b6,ar,↓ab,ae,simprocAttr]
     exact s2
   | true=>
   simp +contextual only [E,dk,dz,cq,b6,↓ab,ae,simprocAttr]
   refine ⟨?_,s2⟩
   rw [c0]
   grind
 have nc:=eq_false ni
 by_cases ak:c.k=2
 · have E:=rU 2 ak
   have c0:eM c=(hasB c true false false false&&gl c.x&&decide (c.a.length=0)&&decide (c.l.length=2)):=by rw [eM];simp only [E,if_true,if_false,true_or,or_true,false_or,or_false,decide_true,decide_false,simprocAttr]
   simp +contextual only [E,dz,cq,b6,↓ab,ae,simprocAttr]
   refine aS (pK c _ _ (H.ext ck) true false false false) ?_
   rintro x bH ⟨rfl,dn⟩
   obtain ⟨bX,s1⟩:=step _ bH ck cQ dn
   obtain ⟨dL,cg⟩:=bX
   have bX:=And.intro dL cg
   cases aP:hasB c true false false false with
   | false=>
     have ar:eM c=false:=by rw [c0];grind
     simp +contextual only [E,cg,dz,cq,b6,ar,↓ab,ae,simprocAttr]
     exact s1
   | true=>
   simp +contextual only [E,cg,dz,cq,b6,↓ab,ae,simprocAttr]
   refine ih (wW _ _) ?_
   cases aA:gl c.x with
   | false=>
     have ar:eM c=false:=by rw [c0];grind
     simp +contextual only [E,cg,dz,cq,b6,ar,↓ab,ae,simprocAttr]
     exact s1
   | true=>
   simp +contextual only [E,cg,dz,cq,b6,↓ab,ae,simprocAttr]
   refine ⟨?_,s1⟩
   rw [c0]
   grind
 have bo:=eq_false ak
 by_cases jg:c.k=11
 · have E:=rU 11 jg
   have c0:eM c=(hasB c true false false false&&gl c.x&&decide (c.a.length=0)&&decide (c.l.length=2)):=by rw [eM];simp only [E,if_true,if_false,true_or,or_true,false_or,or_false,decide_true,decide_false,simprocAttr]
   simp +contextual only [E,dz,cq,b6,↓ab,ae,simprocAttr]
   refine aS (pK c _ _ (H.ext ck) true false false false) ?_
   rintro x bH ⟨rfl,dn⟩
   obtain ⟨bX,s1⟩:=step _ bH ck cQ dn
   obtain ⟨dL,cg⟩:=bX
   have bX:=And.intro dL cg
   cases aP:hasB c true false false false with
   | false=>
     have ar:eM c=false:=by rw [c0];grind
     simp +contextual only [E,cg,dz,cq,b6,ar,↓ab,ae,simprocAttr]
     exact s1
   | true=>
   simp +contextual only [E,cg,dz,cq,b6,↓ab,ae,simprocAttr]
   refine ih (wW _ _) ?_
   cases aA:gl c.x with
   | false=>
     have ar:eM c=false:=by rw [c0];grind
     simp +contextual only [E,cg,dz,cq,b6,ar,↓ab,ae,simprocAttr]
     exact s1
   | true=>
   simp +contextual only [E,cg,dz,cq,b6,↓ab,ae,simprocAttr]
   refine ⟨?_,s1⟩
   rw [c0]
   grind
 have jd:=eq_false jg
 by_cases aB:c.k=3
 · have E:=rU 3 aB
   have c0:eM c=(hasB c false false true false&&decide (0<eK c.s)&&h8 c.a (eK c.s)&&decide (c.l.length=0)):=by rw [eM];simp only [E,if_true,if_false,true_or,or_true,false_or,or_false,decide_true,decide_false,simprocAttr]
   simp +contextual only [E,dz,cq,b6,↓ab,ae,simprocAttr]
   refine aS (pK c _ _ (H.ext ck) false false true false) ?_
   rintro x bH ⟨rfl,dn⟩
   obtain ⟨bX,s1⟩:=step _ bH ck cQ dn
   obtain ⟨dL,cg⟩:=bX
   have bX:=And.intro dL cg
   cases aP:hasB c false false true false with
   | false=>
     have ar:eM c=false:=by rw [c0];grind
     simp +contextual only [E,cg,dz,cq,b6,ar,↓ab,ae,simprocAttr]
     exact s1
   | true=>
   simp +contextual only [E,cg,dz,cq,b6,↓ab,ae,simprocAttr]
   refine ih (Q_ _ _) ?_
   simp +contextual only [E,cg,dz,cq,b6,↓ab,ae,simprocAttr]
   by_cases aF:0<eK c.s
   · have mQ:=eq_true aF
     simp +contextual only [E,cg,dz,cq,b6,mQ,↓ab,ae,simprocAttr]
     refine ih (Q_ _ _) ?_
     simp +contextual only [E,cg,dz,cq,b6,mQ,↓ab,ae,simprocAttr]
     refine aS (uX c.a (eK c.s) aX bH (dv.ext s1) (by omega)) ?_
     rintro x bM ⟨rfl,fR⟩
     obtain ⟨⟨eJ,dk⟩,s2⟩:=step bH bM s1 bX fR
     cases aA:h8 c.a (eK c.s) with
     | false=>
       have ar:eM c=false:=by rw [c0];grind
       simp +contextual only [E,cg,dk,dz,cq,b6,mQ,ar,↓ab,ae,simprocAttr]
       exact s2
     | true=>
       simp +contextual only [E,cg,dk,dz,cq,b6,mQ,↓ab,ae,simprocAttr]
       refine ⟨?_,s2⟩
       rw [c0]
       grind
   · have mQ:=eq_false aF
     have ar:eM c=false:=by rw [c0];grind
     simp +contextual only [E,cg,dz,cq,b6,mQ,ar,↓ab,ae,simprocAttr]
     exact s1
 have cp:=eq_false aB
 by_cases bw:c.k=4
 · have E:=rU 4 bw
   have c0:eM c=(hasB c false true false false&&gl c.n&&decide (c.a.length≤1024)&&h8 c.a c.a.length&&decide (c.l.length=0)):=by rw [eM];simp only [E,if_true,if_false,true_or,or_true,false_or,or_false,decide_true,decide_false,simprocAttr]
   simp +contextual only [E,dz,cq,b6,↓ab,ae,simprocAttr]
   refine aS (pK c _ _ (H.ext ck) false true false false) ?_
   rintro x bH ⟨rfl,dn⟩
   obtain ⟨bX,s1⟩:=step _ bH ck cQ dn
   obtain ⟨dL,cg⟩:=bX
   have bX:=And.intro dL cg
   cases aP:hasB c false true false false with
   | false=>
     have ar:eM c=false:=by rw [c0];grind
     simp +contextual only [E,cg,dz,cq,b6,ar,↓ab,ae,simprocAttr]
     exact s1
   | true=>
   simp +contextual only [E,cg,dz,cq,b6,↓ab,ae,simprocAttr]
   refine ih (wW _ _) ?_
   cases aA:gl c.n with
   | false=>
     have ar:eM c=false:=by rw [c0];grind
     simp +contextual only [E,cg,dz,cq,b6,ar,↓ab,ae,simprocAttr]
     exact s1
   | true=>
   simp +contextual only [E,cg,dz,cq,b6,↓ab,ae,simprocAttr]
   by_cases aF:c.a.length≤1024
   · have mQ:((c.a.length:Int)≤1024)=True:=eq_true (by omega)
     simp +contextual only [E,cg,dz,cq,b6,mQ,↓ab,ae,simprocAttr]
     refine aS (uX c.a (c.a.length) aX bH (dv.ext s1) (by omega)) ?_
     rintro x bM ⟨rfl,fR⟩
     obtain ⟨⟨eJ,dk⟩,s2⟩:=step bH bM s1 bX fR
     cases a2:h8 c.a c.a.length with
     | false=>
       have ar:eM c=false:=by rw [c0];grind
       simp +contextual only [E,cg,dk,dz,cq,b6,mQ,ar,↓ab,ae,simprocAttr]
       exact s2
     | true=>
       simp +contextual only [E,cg,dk,dz,cq,b6,mQ,↓ab,ae,simprocAttr]
       refine ⟨?_,s2⟩
       rw [c0]
       grind
   · have mQ:((c.a.length:Int)≤1024)=False:=eq_false (by omega)
     have ar:eM c=false:=by rw [c0];grind
     simp +contextual only [E,cg,dz,cq,b6,mQ,ar,↓ab,ae,simprocAttr]
     exact s1
 have eA:=eq_false bw
 by_cases ej:c.k=5
 · have E:=rU 5 ej
   have c0:eM c=(hasB c false true false false&&decide (0≤c.n)&&decide (c.n<1024)&&h8 c.a 1&&decide (c.l.length=0)):=by rw [eM];simp only [E,if_true,if_false,true_or,or_true,false_or,or_false,decide_true,decide_false,simprocAttr]
   simp +contextual only [E,dz,cq,b6,↓ab,ae,simprocAttr]
   refine aS (pK c _ _ (H.ext ck) false true false false) ?_
   rintro x bH ⟨rfl,dn⟩
   obtain ⟨bX,s1⟩:=step _ bH ck cQ dn
   obtain ⟨dL,cg⟩:=bX
   have bX:=And.intro dL cg
   cases aP:hasB c false true false false with
   | false=>
     have ar:eM c=false:=by rw [c0];grind
     simp +contextual only [E,cg,dz,cq,b6,ar,↓ab,ae,simprocAttr]
     exact s1
   | true=>
   simp +contextual only [E,cg,dz,cq,b6,↓ab,ae,simprocAttr]
   by_cases aF:0≤c.n∧c.n<1024
   · have mR:=eq_true aF.1
     have Hg:=eq_true aF.2
     simp +contextual only [E,cg,dz,cq,b6,mR,Hg,↓ab,ae,simprocAttr]
     refine aS (uX c.a 1 aX bH (dv.ext s1) (by omega)) ?_
     rintro x bM ⟨rfl,fR⟩
     obtain ⟨⟨eJ,dk⟩,s2⟩:=step bH bM s1 bX fR
     cases a2:h8 c.a 1 with
     | false=>
       have ar:eM c=false:=by rw [c0];grind
       simp +contextual only [E,cg,dk,dz,cq,b6,mR,Hg,ar,↓ab,ae,simprocAttr]
       exact s2
     | true=>
       simp +contextual only [E,cg,dk,dz,cq,b6,mR,Hg,↓ab,ae,simprocAttr]
       refine ⟨?_,s2⟩
       rw [c0]
       grind
   · have ar:eM c=false:=by rw [c0];grind
     by_cases mR:0≤c.n
     · have Hf:=eq_true mR
       have YN:(c.n<1024)=False:=eq_false (by omega)
       simp +contextual only [E,cg,dz,cq,b6,Hf,YN,ar,↓ab,ae,simprocAttr]
       exact s1
     · have Hf:=eq_false mR
       simp +contextual only [E,cg,dz,cq,b6,Hf,ar,↓ab,ae,simprocAttr]
       exact s1
 have iD:=eq_false ej
 by_cases gA:c.k=6
 · have E:=rU 6 gA
   have c0:eM c=(hasB c false false false false&&h8 c.a 2&&decide (c.l.length=0)):=by rw [eM];simp only [E,if_true,if_false,true_or,or_true,false_or,or_false,decide_true,decide_false,simprocAttr]
   simp +contextual only [E,dz,cq,b6,↓ab,ae,simprocAttr]
   refine aS (pK c _ _ (H.ext ck) false false false false) ?_
   rintro x bH ⟨rfl,dn⟩
   obtain ⟨bX,s1⟩:=step _ bH ck cQ dn
   obtain ⟨dL,cg⟩:=bX
   have bX:=And.intro dL cg
   cases aP:hasB c false false false false with
   | false=>
     have ar:eM c=false:=by rw [c0];grind
     simp +contextual only [E,cg,dz,cq,b6,ar,↓ab,ae,simprocAttr]
     exact s1
   | true=>
   simp +contextual only [E,cg,dz,cq,b6,↓ab,ae,simprocAttr]
   refine aS (uX c.a (2) aX bH (dv.ext s1) (by omega)) ?_
   rintro x bM ⟨rfl,fR⟩
   obtain ⟨cD,s2⟩:=step _ bM s1 bX fR
   obtain ⟨eJ,dk⟩:=cD
   have cD:=And.intro eJ dk
   cases aA:h8 c.a (2) with
   | false=>
     have ar:eM c=false:=by rw [c0];grind
     simp +contextual only [E,dk,dz,cq,b6,ar,↓ab,ae,simprocAttr]
     exact s2
   | true=>
   simp +contextual only [E,dk,dz,cq,b6,↓ab,ae,simprocAttr]
   refine ⟨?_,s2⟩
   rw [c0]
   grind
 have jJ:=eq_false gA
 by_cases ia:c.k=9
 · have E:=rU 9 ia
   have c0:eM c=(hasB c false false false true&&h8 c.a 1&&kS (decide (c.k=10)) c.t&&ue c):=by rw [eM];simp only [E,if_true,if_false,true_or,or_true,false_or,or_false,decide_true,decide_false,simprocAttr]
   have wt:IntKind.i64.wrap ((c.t.length:Int)+1)=(c.t.length:Int)+1:=by rw [wrap_i64 (by omega) (by omega)]
   have Aa:(decide (1≤(c.l.length:Int))&&(decide ((c.l.length:Int)=c.t.length)||decide ((c.l.length:Int)=c.t.length+1)))=ue c:=rfl
   simp +contextual only [wt,Aa,E,dz,cq,b6,↓ab,ae,simprocAttr]
   refine aS (pK c _ _ (H.ext ck) false false false true) ?_
   rintro x bH ⟨rfl,dn⟩
   obtain ⟨⟨dL,cg⟩,s1⟩:=step _ bH ck cQ dn
   have bX:=And.intro dL cg
   cases aP:hasB c false false false true with
   | false=>
     have ar:eM c=false:=by rw [c0];grind
     simp +contextual only [E,cg,dz,cq,b6,ar,↓ab,ae,simprocAttr]
     exact s1
   | true=>
   simp +contextual only [E,cg,dz,cq,b6,↓ab,ae,simprocAttr]
   refine aS (uX c.a 1 aX bH (dv.ext s1) (by omega)) ?_
   rintro x bM ⟨rfl,fR⟩
   obtain ⟨⟨eJ,dk⟩,s2⟩:=step bH bM s1 bX fR
   cases aA:h8 c.a 1 with
   | false=>
     have ar:eM c=false:=by rw [c0];grind
     simp +contextual only [E,dk,cq,ar,↓ab,ae,simprocAttr]
     exact s2
   | true=>
   simp +contextual only [E,dk,cq,↓ab,ae,simprocAttr]
   refine ih (QH false c.t a6 bM (eL.ext s2) (by omega)) ?_
   simp only [E,decide_true,decide_false,simprocAttr] at c0
   cases a2:kS false c.t with
   | false=>
     have ar:eM c=false:=by rw [c0];grind
     simp +contextual only [E,dk,cq,ar,↓ab,ae,simprocAttr]
     exact s2
   | true=>
   simp +contextual only [E,dk,cq,↓ab,ae,simprocAttr]
   refine ⟨?_,s2⟩
   rw [c0]
   grind
 have jv:=eq_false ia
 by_cases il:c.k=10
 · have E:=rU 10 il
   have c0:eM c=(hasB c false false false true&&h8 c.a 1&&kS (decide (c.k=10)) c.t&&ue c):=by rw [eM];simp only [E,if_true,if_false,true_or,or_true,false_or,or_false,decide_true,decide_false,simprocAttr]
   have wt:IntKind.i64.wrap ((c.t.length:Int)+1)=(c.t.length:Int)+1:=by rw [wrap_i64 (by omega) (by omega)]
   have Aa:(decide (1≤(c.l.length:Int))&&(decide ((c.l.length:Int)=c.t.length)||decide ((c.l.length:Int)=c.t.length+1)))=ue c:=rfl
   simp +contextual only [wt,Aa,E,dz,cq,b6,↓ab,ae,simprocAttr]
   refine aS (pK c _ _ (H.ext ck) false false false true) ?_
   rintro x bH ⟨rfl,dn⟩
   obtain ⟨⟨dL,cg⟩,s1⟩:=step _ bH ck cQ dn
   have bX:=And.intro dL cg
   cases aP:hasB c false false false true with
   | false=>
     have ar:eM c=false:=by rw [c0];grind
     simp +contextual only [E,cg,dz,cq,b6,ar,↓ab,ae,simprocAttr]
     exact s1
   | true=>
   simp +contextual only [E,cg,dz,cq,b6,↓ab,ae,simprocAttr]
   refine aS (uX c.a 1 aX bH (dv.ext s1) (by omega)) ?_
   rintro x bM ⟨rfl,fR⟩
   obtain ⟨⟨eJ,dk⟩,s2⟩:=step bH bM s1 bX fR
   cases aA:h8 c.a 1 with
   | false=>
     have ar:eM c=false:=by rw [c0];grind
     simp +contextual only [E,dk,cq,ar,↓ab,ae,simprocAttr]
     exact s2
   | true=>
   simp +contextual only [E,dk,cq,↓ab,ae,simprocAttr]
   refine ih (QH true c.t a6 bM (eL.ext s2) (by omega)) ?_
   simp only [E,decide_true,decide_false,simprocAttr] at c0
   cases a2:kS true c.t with
   | false=>
     have ar:eM c=false:=by rw [c0];grind
     simp +contextual only [E,dk,cq,ar,↓ab,ae,simprocAttr]
     exact s2
   | true=>
   simp +contextual only [E,dk,cq,↓ab,ae,simprocAttr]
   refine ⟨?_,s2⟩
   rw [c0]
   grind
 have jI:=eq_false il
 have ar:eM c=false:=by rw [eM];simp only [aI,nc,bo,jd,cp,eA,iD,jJ,jv,jI,if_false,or_self]
 simp +contextual only [aI,nc,bo,jd,cp,eA,iD,jJ,jv,jI,dz,cq,b6,ar,↓ab,ae,simprocAttr]
 exact ck
theorem Qy (b:Bool) (c:aU) (ah:List V) (h:ai) (H:ef h c ah):bB Tryz.prog 70 [.agg ah,.bool b] h fun x J=>x=.bool (jw c b)∧Ext h J:=by
 obtain ⟨aX,a6,az,rfl,dv,eL,cJ⟩:=H.open
 refine UF rfl (bO ?_)
 unfold Mi
 have ck:Ext h (h.new (.au [.int .i64 c.k,.int .i64 c.x,.int .i64 c.n,.str c.s,aX,a6,az] 0 false)):=(Ext.refl h).new _
 have dz:=dv.len
 have b6:=cJ.len
 have c0:jw c b=(decide (c.k=7)&&hasB c true b false false&&gl c.x&&(!b||gl c.n)&&decide (c.a.length=0)&&decide (c.l.length=1)):=rfl
 by_cases c6:c.k=7
 · have fE:=eq_true c6
   simp +contextual only [fE,↓ab,ae,simprocAttr]
   refine aS (pK c _ _ (H.ext ck) true b false false) ?_
   rintro x bH ⟨rfl,dn⟩
   have cg:bH.get (ao h.next)=.au [.int .i64 c.k,.int .i64 c.x,.int .i64 c.n,.str c.s,aX,a6,az] 0 false:=by rw [dn.get _ (dP (by rw [cY];omega)),gz]
   have s1:=ck.trans dn
   cases aP:hasB c true b false false with
   | false=>
     have ar:jw c b=false:=by rw [c0];grind
     simp +contextual only [fE,cg,ar,↓ab,ae,simprocAttr]
     exact s1
   | true=>
   simp +contextual only [fE,cg,↓ab,ae,simprocAttr]
   refine ih (wW _ _) ?_
   cases aA:gl c.x with
   | false=>
     have ar:jw c b=false:=by rw [c0];grind
     simp +contextual only [fE,cg,ar,↓ab,ae,simprocAttr]
     exact s1
   | true=>
   cases b with
   | false=>
     simp +contextual only [fE,cg,dz,b6,Bool.not_false,↓ab,ae,simprocAttr]
     refine ⟨?_,s1⟩
     rw [c0]
     grind
   | true=>
     simp +contextual only [fE,cg,dz,b6,Bool.not_true,↓ab,ae,simprocAttr]
     refine ih (wW _ _) ?_
     cases a2:gl c.n with
     | false=>
       have ar:jw c true=false:=by rw [c0];grind
       simp +contextual only [fE,cg,dz,b6,ar,↓ab,ae,simprocAttr]
       exact s1
     | true=>
     simp +contextual only [fE,cg,dz,b6,↓ab,ae,simprocAttr]
     refine ⟨?_,s1⟩
     rw [c0]
     grind
 · have fE:=eq_false c6
   have ar:jw c b=false:=by rw [c0];grind
   simp +contextual only [fE,ar,↓ab,ae,simprocAttr]
   exact ck
theorem S6 (c:aU):tV c=(hasB c false false false false&&decide (c.a.length=0)):=by
 have bo:decide (c.a=[])=decide (c.a.length=0):=by rw [decide_eq_decide,List.length_eq_zero_iff]
 simp only [tV,hasB,Bool.false_or,bo]
theorem acb (c:aU) (h:0<c.l.length):lJ ea c=may ea c.l[0]:=by
 obtain ⟨k,x,n,s,a,t,l⟩:=c
 cases l with
 | nil=>simp [aU.l] at h
 | cons d l=>simp only [lJ,qY,aU.l,List.getElem_cons_zero]
theorem adk {c:aU}:(decide (c.k=7)&&ea true c)=jw c true:=by
 simp only [ea,if_true]
 by_cases h:c.k=7
 · simp [h]
 · simp [h,jw]
theorem Wr {c:aU} {b:Bool} (h:jw c b=true):c.l.length=1:=by
 simp only [jw,Bool.and_eq_true] at h
 exact of_decide_eq_true h.2
set_option maxHeartbeats 2000000 in
theorem ID:∀(N:Nat) (c:aU),size c≤N→fit 1048576 c→∀(ah:List V) (h:ai),ef h c ah→bB Tryz.prog 47 [.agg ah] h fun x J=>x=.bool (may ea c)∧Ext h J
 | 0,c,aM,_,_,_,_=>by have:=size_pos c;omega
 | N+1,c,aM,ar,ah,h,H=>by
   obtain ⟨f1,f2,f3,f4,f5⟩:=ar.kids
   have pU:=u2 c
   have eg:∀(i:Nat) (d:aU) (g:ai) (u:List V),c.l[i]? =some d→ef g d u→bB Tryz.prog 47 [.agg u] g fun x J=>x=.bool (may ea d)∧Ext g J:=
    fun i d g u aH hu=>ID N d (by have:=r_ aH;omega) (qy f5 aH) u g hu
   obtain ⟨aX,a6,az,rfl,dv,eL,cJ⟩:=H.open
   refine Un rfl (bO ?_)
   unfold LP
   have ck:Ext h (h.new (.au [.int .i64 c.k,.int .i64 c.x,.int .i64 c.n,.str c.s,aX,a6,az] 0 false)):=(Ext.refl h).new _
   by_cases al:c.k=8
   · have dJ:=eq_true al
     have eS:=Pn (own:=ea) al
     rw [S6] at eS
     simp +contextual only [dJ,↓ab,ae,simprocAttr]
     refine aS (pK c _ _ (H.ext ck) false false false false) ?_
     rintro x bH ⟨rfl,dn⟩
     have rK:h.next<bH.next:=by have:=dn.next;rw [cY] at this;omega
     have cg:bH.get (ao h.next)=.au [.int .i64 c.k,.int .i64 c.x,.int .i64 c.n,.str c.s,aX,a6,az] 0 false:=by rw [dn.get _ (dP (by rw [cY];omega)),gz]
     have s1:=ck.trans dn
     have Gi:=(dv.ext s1).len
     have Gl:=(cJ.ext s1).len
     cases nU:(!hasB c false false false false||decide (0 < (c.a.length:Int))||decide ((c.l.length:Int)<2)) with
     | true=>
       have ar:may ea c=false:=by rw [eS];grind
       cases aZ:hasB c false false false false with
       | false=>
         simp +contextual only [cg,Gi,Gl,ar,↓ab,ae,simprocAttr]
         exact s1
       | true=>
         rw [aZ,Bool.not_true,Bool.false_or] at nU
         simp +contextual only [cg,Gi,Gl,nU,ar,↓ab,ae,simprocAttr]
         exact s1
     | false=>
       have l':may ea c=hK ea c.l:=by rw [eS];grind
       have hlen:2≤c.l.length:=by grind
       have aZ:hasB c false false false false=true:=by grind
       rw [aZ,Bool.not_true,Bool.false_or] at nU
       have aR:IntKind.i64.wrap ((c.l.length:Int)-1)=((c.l.length-1:Nat):Int):=by rw [wrap_i64 (by omega) (by omega)];omega
       simp +contextual only [aZ,cg,Gi,Gl,nU,↓ab,ae,simprocAttr]
       refine fV (fun r J=>Ext h J∧J.get (ao h.next)=.au [.int .i64 c.k,.int .i64 c.x,.int .i64 c.n,.str c.s,aX,a6,az] 0 false∧h.next<J.next∧r 1=.ptr (ao h.next) 0∧
        ∃i:Nat,r 3=.int .i64 i∧i≤c.l.length-1∧hK ea c.l=hK ea (c.l.drop i)) (fun r J=>c.l.length - (r 3).gV) ?_ ?_
       · exact ⟨s1,cg,rK,by simp only [↓ab,bf,simprocAttr],0,by simp only [↓ab,bf,simprocAttr]<;>rfl,by omega,rfl⟩
       · rintro r J ⟨ax,af,a1,aY,i,cl,aH,b8⟩
         unfold LQ
         have b6:=(cJ.ext ax).len
         by_cases a7:i<c.l.length-1
         · have bV:((i:Int) < ((c.l.length-1:Nat):Int))=True:=eq_true (by omega)
           have kJ:i<c.l.length:=by omega
           obtain ⟨b,o,u,b9,hu,cG,dT⟩:=(cJ.ext ax).at (k:=.i64) kJ
           rw [Pj (by omega),adk] at b8
           generalize sS:c.l[i]=f at *
           have jj:c.l[i]? =some f:=by rw [List.getElem?_eq_getElem kJ,sS]
           have w:=g4 kJ (by omega)
           obtain ⟨Wb,Wc,Wd,We,F3⟩:=(qy f5 jj).kids
           simp +contextual only [aY,cl,af,b6,aR,bV,b9,cG,↓ab,ae,simprocAttr]
           refine aS (Qy true f u J hu) ?_
           rintro x bM ⟨rfl,fR⟩
           have iR:bM.get (ao h.next)=.au [.int .i64 c.k,.int .i64 c.x,.int .i64 c.n,.str c.s,aX,a6,az] 0 false:=by rw [fR.get _ (dP a1)];exact af
           cases bA:jw f true with
           | false=>
             have nm:may ea c=false:=by rw [l',b8,bA,Bool.false_and,Bool.false_and]
             simp +contextual only [iR,nm,↓ab,ae,simprocAttr]
             exact ax.trans fR
           | true=>
             have e0:=Wr bA
             obtain ⟨e5,fz,gk,AA,Oz,rW,abH⟩:=(cJ.ext (ax.trans fR)).at (k:=.i64) kJ
             rw [sS] at Oz
             obtain ⟨cX,gy,cw,rfl,rh,rj,po⟩:=Oz.open
             have OZ:=abH 6 (by omega)
             rw [show ([V.int .i64 f.k,.int .i64 f.x,.int .i64 f.n,.str f.s,cX,gy,cw])[6]? =some cw from rfl] at OZ
             obtain ⟨b2,dV,lo,k',fQ,wB,_⟩:=po.at (k:=.i64) (i:=0) (by omega)
             have b3:e8 7 cw (.int .i64 0)=some (.ptr b2 dV):=by simpa using k'
             have bY:jl 7 (bM.get b2) dV=some (.agg lo):=by simpa using wB
             have ha:f.l[0]? =some f.l[0]:=List.getElem?_eq_getElem (by omega)
             simp +contextual only [aY,cl,iR,AA,OZ,b3,bY,↓ab,ae,simprocAttr]
             refine aS (ID N f.l[0] (by have:=r_ jj;have:=r_ ha;have:=u2 f;omega) (qy F3 ha) lo bM fQ) ?_
             rintro x cT ⟨rfl,qQ⟩
             have De:=fR.trans qQ
             rw [acb f (by omega)] at b8
             cases hm:may ea f.l[0] with
             | false=>
               have nm:may ea c=false:=by rw [l',b8,hm,Bool.and_false,Bool.false_and]
               simp +contextual only [nm,↓ab,ae,simprocAttr]
               exact ax.trans De
             | true=>
               simp +contextual only [aY,cl,w,↓ab,ae,simprocAttr]
               exact ⟨⟨ax.trans De,by rw [De.get _ (dP a1)];exact af,by have:=De.next;omega,⟨i+1,rfl,by omega,by rw [b8,bA,hm];rfl⟩⟩,by omega⟩
         · have bV:((i:Int) < ((c.l.length-1:Nat):Int))=False:=eq_false (by omega)
           obtain rfl:i=c.l.length-1:=by omega
           obtain ⟨b,o,u,b9,hu,cG,_⟩:=(cJ.ext ax).at (k:=.i64) (i:=c.l.length-1) (by omega)
           simp +contextual only [aY,cl,af,b6,aR,bV,b9,cG,↓ab,ae,simprocAttr]
           refine aS (eg (c.l.length-1) _ J u (List.getElem?_eq_getElem (by omega)) hu) ?_
           rintro x bM ⟨rfl,fR⟩
           have nm:may ea c=may ea (c.l[c.l.length-1]'(by omega)):=by rw [l',b8,Pk (by omega)]
           simp +contextual only [nm,↓ab,ae,simprocAttr]
           exact ax.trans fR
   · have dJ:=eq_false al
     have eS:=Po (own:=ea) al
     have c0:ea false c=(eM c||jw c false):=rfl
     simp +contextual only [dJ,↓ab,ae,simprocAttr]
     refine aS (aen c _ _ (H.ext ck) (by omega) (by omega) (by omega)) ?_
     rintro x bH ⟨rfl,dn⟩
     have s1:=ck.trans dn
     have rK:h.next<bH.next:=by have:=dn.next;rw [cY] at this;omega
     have cg:bH.get (ao h.next)=.au [.int .i64 c.k,.int .i64 c.x,.int .i64 c.n,.str c.s,aX,a6,az] 0 false:=by rw [dn.get _ (dP (by rw [cY];omega)),gz]
     have rest:∀(g:ai) (r:bP),Ext h g→g.get (ao h.next)=.au [.int .i64 c.k,.int .i64 c.x,.int .i64 c.n,.str c.s,aX,a6,az] 0 false→h.next<g.next→r 1=.ptr (ao h.next) 0→r 4=.int .i64 0→may ea c=iG ea c.l→
      ∀(aE:List iK) (Q:cN→bP→ai→Prop),(∀eR bR,Ext h eR→iG ea c.l=true→bN Tryz.prog aE (.exit 2) bR eR Q)→(∀eR bR,Ext h eR→iG ea c.l=false→bR 2=.bool false→bN Tryz.prog aE .ret bR eR Q)→uK Tryz.prog FI aE r g Q:=by
      intro g r s d' a1 aP b' jh aE Q cq qA
      refine fV (fun r J=>Ext h J∧J.get (ao h.next)=.au [.int .i64 c.k,.int .i64 c.x,.int .i64 c.n,.str c.s,aX,a6,az] 0 false∧h.next<J.next∧r 1=.ptr (ao h.next) 0∧
       ∃i:Nat,r 4=.int .i64 i∧i≤c.l.length∧iG ea c.l=iG ea (c.l.drop i)) (fun r J=>c.l.length - (r 4).gV) ?_ ?_
      · exact ⟨s,d',a1,aP,0,by rw [b'];rfl,by omega,rfl⟩
      · rintro r J ⟨ax,af,a1,aY,i,c2,aH,b8⟩
        unfold FI
        have b6:=(cJ.ext ax).len
        by_cases a7:i<c.l.length
        · have bV:((i:Int) < (c.l.length:Int))=True:=eq_true (by omega)
          obtain ⟨b,o,u,b9,hu,cG,_⟩:=(cJ.ext ax).at (k:=.i64) a7
          rw [List.drop_eq_getElem_cons a7,iG] at b8
          have w:=g4 a7 (by omega)
          simp +contextual only [aY,c2,af,b6,bV,b9,cG,↓ab,ae,simprocAttr]
          refine aS (eg i _ J u (List.getElem?_eq_getElem a7) hu) ?_
          rintro x bM ⟨rfl,fR⟩
          cases hm:may ea c.l[i] with
          | false=>
            simp +contextual only [↓ab,ae,simprocAttr]
            exact qA _ _ (ax.trans fR) (by rw [b8,hm];rfl) (by simp only [↓ab,bf,simprocAttr])
          | true=>
            simp +contextual only [aY,c2,w,↓ab,ae,simprocAttr]
            exact ⟨⟨ax.trans fR,by rw [fR.get _ (dP a1)];exact af,by have:=fR.next;omega,⟨i+1,rfl,a7,by rw [b8,hm,Bool.true_and]⟩⟩,by omega⟩
        · have bV:((i:Int) < (c.l.length:Int))=False:=eq_false (by omega)
          rw [List.drop_eq_nil_of_le (by omega)] at b8
          simp +contextual only [aY,c2,af,b6,bV,↓ab,ae,simprocAttr]
          exact cq _ _ ax (by rw [b8];rfl)
     cases bA:eM c with
     | true=>
       have jh:may ea c=iG ea c.l:=by rw [eS,c0,bA];rfl
       simp +contextual only [cg,↓ab,ae,simprocAttr]
       refine rest bH _ s1 cg rK (by simp only [↓ab,bf,simprocAttr]) (by simp only [↓ab,bf,simprocAttr]) jh _ _ ?_ ?_
       · intro eR bR mS hm
         simp +contextual only [jh,hm,↓ab,ae,simprocAttr]
         exact mS
       · intro eR bR mS hm aA
         simp +contextual only [jh,hm,aA,↓ab,ae,simprocAttr]
         exact mS
     | false=>
       simp +contextual only [cg,↓ab,ae,simprocAttr]
       refine aS (Qy false c _ bH (H.ext s1)) ?_
       rintro x bM ⟨rfl,fR⟩
       have s2:=s1.trans fR
       have sY:h.next<bM.next:=by have:=fR.next;omega
       have dk:bM.get (ao h.next)=.au [.int .i64 c.k,.int .i64 c.x,.int .i64 c.n,.str c.s,aX,a6,az] 0 false:=by rw [fR.get _ (dP rK)];exact cg
       cases N6:jw c false with
       | false=>
         have nm:may ea c=false:=by rw [eS,c0,bA,N6];rfl
         simp +contextual only [dk,nm,↓ab,ae,simprocAttr]
         exact s2
       | true=>
         have jh:may ea c=iG ea c.l:=by rw [eS,c0,bA,N6];rfl
         simp +contextual only [dk,↓ab,ae,simprocAttr]
         refine rest bM _ s2 dk sY (by simp only [↓ab,bf,simprocAttr]) (by simp only [↓ab,bf,simprocAttr]) jh _ _ ?_ ?_
         · intro eR bR mS hm
           simp +contextual only [jh,hm,↓ab,ae,simprocAttr]
           exact mS
         · intro eR bR mS hm aA
           simp +contextual only [jh,hm,aA,↓ab,ae,simprocAttr]
           exact mS
theorem s8 (l m:List Int):cd (l++m)=cd l++cd m:=by simp [cd]
theorem yf (l:List Int):gv (cd l)=true:=by
 induction l with
 | nil=>rfl
 | cons x l bJ=>exact bJ
theorem DL (h:ai) (x:Int) (B:Nat) (dF:B≤h.next):cn B (h.new (.au [.int .i64 x] 0 false)) 1 (.slice (ao h.next) 0 1 1) 1 (cd [x]):=
 ⟨rfl,rfl,by rw [c'];exact dF,dP (by rw [cY];omega),Nat.le_refl _,by unfold top;omega,[.int .i64 x],0,false,gz _,by simp,rfl⟩
theorem Ki (c:aU) (ah:List V) (h:ai) (H:ef h c ah) (ar:fit 1048576 c) (hH:c.k=8→1≤c.l.length) (uj:c.k≠14):
 bB Tryz.prog 65 [.agg ah] h fun x J=>cn (h.next+1) J 1 x (ownNames c.k c.x c.l).length (cd (ownNames c.k c.x c.l))∧Ext h J:=by
 obtain ⟨f1,f2,f3,f4,f5⟩:=ar.kids
 obtain ⟨aX,a6,az,rfl,dv,eL,cJ⟩:=H.open
 refine UA rfl (bO ?_)
 unfold L_
 have ck:Ext h (h.new (.au [.int .i64 c.k,.int .i64 c.x,.int .i64 c.n,.str c.s,aX,a6,az] 0 false)):=(Ext.refl h).new _
 have sK:=eq_false uj
 by_cases c6:c.k=7
 · have fE:=eq_true c6
   simp +contextual only [fE,↓ab,ae,simprocAttr]
   rw [show ownNames c.k c.x c.l=[c.x] from by rw [ownNames,if_pos c6]]
   exact ⟨DL (h.new (.au [.int .i64 c.k,.int .i64 c.x,.int .i64 c.n,.str c.s,aX,a6,az] 0 false)) c.x _ (by rw [cY];omega),ck.new _⟩
 have fE:=eq_false c6
 by_cases al:c.k=8
 · have hG:=eq_true al
   have e0:=hH al
   have b6:=(cJ.ext ck).len
   have aR:IntKind.i64.wrap ((c.l.length:Int)-1)=((c.l.length-1:Nat):Int):=by rw [wrap_i64 (by omega) (by omega)];omega
   obtain ⟨db,FR,zF⟩:=(cJ.ext ck).cut (k:=.i64) (m:=c.l.length-1) (by omega)
   have zY:=zF.len
   rw [List.length_take,Nat.min_eq_left (Nat.sub_le _ _)] at zY
   simp +contextual only [fE,hG,b6,aR,FR,zY,↓ab,ae,simprocAttr]
   have hy:ownNames c.k c.x c.l=c.l.dropLast.map aU.n:=by rw [ownNames,if_neg c6,if_pos al]
   refine fV (fun r J=>Ext (h.new (.au [.int .i64 c.k,.int .i64 c.x,.int .i64 c.n,.str c.s,aX,a6,az] 0 false)) J∧r 23=db∧r 24=.int .i64 ((c.l.length-1:Nat):Int)∧
    ∃(i:Nat) (v:V),r 25=.int .i64 i∧i≤c.l.length-1∧r 3=v∧cn (h.next+1) J 1 v i (cd ((c.l.take i).map aU.n))) (fun r J=>c.l.length - (r 25).gV) ?_ ?_
   · exact ⟨Ext.refl _,by simp only [↓ab,bf,simprocAttr],by simp only [↓ab,bf,simprocAttr],0,.aw,by simp only [↓ab,bf,simprocAttr]<;>rfl,by omega,by simp only [↓ab,bf,simprocAttr],⟨rfl,rfl⟩⟩
   · rintro r J ⟨ax,tm,tn,i,v,tp,aH,cl,bh⟩
     unfold Ma
     by_cases a7:i<c.l.length-1
     · have bV:((i:Int) < ((c.l.length-1:Nat):Int))=True:=eq_true (by omega)
       have kJ:i<c.l.length:=by omega
       have x6:i < (c.l.take (c.l.length-1)).length:=by rw [List.length_take];omega
       obtain ⟨b,o,u,b9,hu,cG,_⟩:=(zF.ext ax).at (k:=.i64) x6
       rw [List.getElem_take] at hu
       have ma:(c.l.take (i+1)).map aU.n=(c.l.take i).map aU.n++[c.l[i].n]:=by rw [List.take_add_one,List.getElem?_eq_getElem kJ,List.map_append];rfl
       generalize sS:c.l[i]=f at *
       obtain ⟨cX,gy,cw,rfl,rh,rj,po⟩:=hu.open
       have w:=g4 kJ (by omega)
       have dj:=rh.one.1
       have eW:=rj.one.1
       have fz:=po.one.1
       have dn:Ext J ((J.new (.au [.int .i64 0,.int .i64 0,.int .i64 0,.str [],.aw,.aw,.aw] 0 false)).set (ao J.next) (.au [.int .i64 f.k,.int .i64 f.x,.int .i64 f.n,.str f.s,cX,gy,cw] 0 false)):=((Ext.refl J).new _).set (Nat.le_refl _) _
       have x7:=ax.next
       rw [cY] at x7
       have qz:((J.new (.au [.int .i64 0,.int .i64 0,.int .i64 0,.str [],.aw,.aw,.aw] 0 false)).set (ao J.next) (.au [.int .i64 f.k,.int .i64 f.x,.int .i64 f.n,.str f.s,cX,gy,cw] 0 false)).next=J.next+1:=by rw [hf,cY]
       simp +contextual only [cl,tm,tn,tp,bV,b9,cG,dj,eW,fz,Bool.and_self,↓ab,ae,simprocAttr]
       obtain ⟨v3,aB,aP,aA,a2,b',da⟩:=ja (cs:=[.int .i64 f.n]) (by omega) (bh.ext dn) (by rw [qz];omega) (by unfold top;omega) rfl rfl
       rw [qz] at aP
       simp +contextual only [aP,tm,tn,tp,w,↓ab,ae,simprocAttr]
       have qQ:Ext (h.new (.au [.int .i64 c.k,.int .i64 c.x,.int .i64 c.n,.str c.s,aX,a6,az] 0 false)) aB:=(ax.trans dn).qZ a2 (fun b af=>by rw [cY];exact bh.base af)
       exact ⟨⟨qQ,⟨i+1,v3,rfl,by omega,rfl,by rw [ma,s8];exact aA⟩⟩,by omega⟩
     · have bV:((i:Int) < ((c.l.length-1:Nat):Int))=False:=eq_false (by omega)
       obtain rfl:i=c.l.length-1:=by omega
       simp +contextual only [cl,tm,tn,tp,bV,↓ab,ae,simprocAttr]
       rw [hy,List.dropLast_eq_take,List.length_map,List.length_take,Nat.min_eq_left (Nat.sub_le _ _)]
       exact ⟨bh,ck.trans ax⟩
 · have hG:=eq_false al
   simp +contextual only [fE,hG,sK,↓ab,ae,simprocAttr]
   rw [show ownNames c.k c.x c.l=[] from by rw [ownNames,if_neg c6,if_neg al]]
   exact ⟨⟨rfl,rfl⟩,ck⟩
theorem sx {M N:aV→Prop} {h ad ak:ai} (m:Mod M h ad) (e:Mod N ad ak) (eT:∀b,Old h b→N b→M b):Mod M h ak:=
 ⟨Nat.le_trans m.next e.next,fun b af hm=>(e.get b (m.b5 af) (fun q=>hm (eT b af q))).trans (m.get b af hm)⟩
structure ps (g:FuncId) (af h:ai) (cH c_:aV) (acc:List Int) (bj:V):Prop where
 ext:Ext af h
 mP:h.get cH=.au [bj] 0 false
 pS:h.get c_=.au [.func g [.ptr cH 0,.ptr c_ 0]] 0 false
 wO:Old h cH
 wN:Old h c_
 H7:af.next≤cx cH
 PA:af.next≤cx c_
 ne:cH≠c_
 own:cn af.next h 1 bj acc.length (cd acc)
 yp:∀b,bj.bb b→b≠cH∧b≠c_
theorem ps.hb {g:FuncId} {af h J:ai} {cH c_:aV} {acc:List Int} {bj:V} (O:ps g af h cH c_ acc bj) (e:Ext h J):ps g af J cH c_ acc bj:=
 ⟨O.ext.trans e,by rw [e.get _ O.wO];exact O.mP,by rw [e.get _ O.wN];exact O.pS,e.b5 O.wO,e.b5 O.wN,O.H7,O.PA,O.ne,O.own.ext e,O.yp⟩
theorem ps.push {g:FuncId} {af h aB:ai} {cH c_:aV} {acc m:List Int} {bj v3:V} (O:ps g af h cH c_ acc bj) (aA:cn af.next aB 1 v3 (acc.length+m.length) (cd acc++cd m)) (a2:Mod bj.bb h aB) (da:∀b,v3.bb b→bj.bb b∨h.next≤cx b):
 ps g af (aB.set cH (.au [v3] 0 false)) cH c_ (acc++m) v3∧Mod (fun b=>b=cH∨bj.bb b) h (aB.set cH (.au [v3] 0 false)):=by
 have ux:Mod (fun b=>b=cH∨bj.bb b) h (aB.set cH (.au [v3] 0 false)):=(a2.mono fun b _ af=>.inr af).set (fun _=>.inl rfl) _
 have XE:Ext af (aB.set cH (.au [v3] 0 false)):=O.ext.qZ ux (fun b af=>by
  rcases af with rfl | af
  · exact O.H7
  · exact O.own.base af)
 have Ro:∀b,v3.bb b→b≠cH∧b≠c_:=by
  intro b af
  rcases da b af with q | q
  · exact O.yp b q
  · have ad:=O.wO
    have ak:=O.wN
    unfold Old at ad ak
    exact ⟨fun e=>by rw [e] at q;omega,fun e=>by rw [e] at q;omega⟩
 refine ⟨⟨XE,by rw [dB,if_pos rfl],?_,?_,?_,O.H7,O.PA,O.ne,?_,Ro⟩,ux⟩
 · rw [dB,if_neg O.ne,a2.get _ O.wN (fun q=>(O.yp _ q).2 rfl)];exact O.pS
 · exact a2.b5 O.wO
 · exact a2.b5 O.wN
 · rw [List.length_append,s8]
   exact aA.mod (M:=fun b=>b=cH) ((Mod.refl (fun b=>b=cH) aB).set (b:=cH) (fun _=>rfl) (.au [v3] 0 false)) (fun b af=>(Ro b af).1)
theorem PS (N:Nat) (bJ:∀c:aU,size c≤N→(order c).length+1≤3 * size c) (late:Bool) (x:Int):∀(l:List aU) (i:Nat),(∀d ∈ l,size d≤N)→(iV late x l i).length+l.length≤3 * pf l + (if late=true∧i≤1 then 1 else 0)
 | [],i,_=>by simp [iV]
 | d::l,i,ca=>by
   have ad:=bJ d (ca d (by simp))
   have ak:=PS N bJ late x l (i+1) (fun e he=>ca e (by simp [he]))
   simp only [iV,pf,List.length_append,List.length_cons]
   by_cases aC:late=true
   · subst aC
     by_cases aj:i=0
     · subst aj
       simp at ak ⊢
       omega
     · by_cases dZ:i=1
       · subst dZ
         simp at ak ⊢
         omega
       · have aI:(i == 1)=false:=by simpa using dZ
         have bo:¬(i≤1):=by omega
         have cp:¬(i+1≤1):=by omega
         simp [aI,bo,aj] at ak ⊢
         omega
   · have:late=false:=by simpa using aC
     subst this
     simp at ak ⊢
     omega
theorem PR:∀(N:Nat) (c:aU),size c≤N→(order c).length+1≤3 * size c
 | 0,c,h=>by have:=size_pos c;omega
 | N+1,c,h=>by
   obtain ⟨k,x,n,s,a,t,l⟩:=c
   simp only [size] at h ⊢
   have ad:=PS N (PR N) (dM k) x l 0 (fun d ca=>by have:=IQ ca;omega)
   simp only [order,List.length_append]
   by_cases c6:k=7
   · subst c6
     have aI:(ownNames 7 x l).length=1:=rfl
     have bo:dM 7=false:=rfl
     rw [bo] at ad ⊢
     simp at ad
     omega
   · by_cases hH:k=8
     · subst hH
       have aI:(ownNames 8 x l).length≤l.length:=by rw [ownNames,if_neg (by decide),if_pos rfl,List.length_map,List.length_dropLast];omega
       have bo:dM 8=false:=rfl
       rw [bo] at ad ⊢
       simp at ad
       omega
     · have aI:(ownNames k x l).length=0:=by rw [ownNames,if_neg c6,if_neg hH];rfl
       have cp:(if dM k=true∧0≤1 then 1 else 0)≤1:=by split<;>omega
       omega
theorem Ii (c:aU):(order c).length≤3 * size c:=by have:=PR _ c (Nat.le_refl _);omega
theorem AV:∀{l:List aU} {i:Nat} {c:aU},r7 l→l[i]? =some c→q1 c
 | [],_,_,_,h=>by simp at h
 | d::l,0,c,ar,h=>by simp only [List.getElem?_cons_zero,Option.some.injEq] at h;subst h;exact ar.1
 | d::l,i+1,c,ar,h=>AV ar.2 (by simpa using h)
theorem PQ:∀(N:Nat) (c:aU),size c≤N→fit 1048576 c→q1 c→∀(ah:List V) (af:ai),ef af c ah→∀(h:ai) (cH c_:aV) (acc:List Int) (bj:V),ps 64 af h cH c_ acc bj→acc.length + (order c).length≤8000000→
 bB Tryz.prog 64 [.agg ah,.ptr cH 0,.ptr c_ 0] h fun x J=>∃jA,ps 64 af J cH c_ (acc++order c) jA∧(∀b,jA.bb b→bj.bb b∨h.next≤cx b)∧Mod (fun b=>b=cH∨bj.bb b) h J
 | 0,c,aM,_,_,_,_,_,_,_,_,_,_,_,_=>by have:=size_pos c;omega
 | N+1,c,aM,ar,b8,ah,af,H,h,cH,c_,acc,bj,O,aL=>by
   obtain ⟨f1,f2,f3,f4,f5⟩:=ar.kids
   have pU:=u2 c
   obtain ⟨aX,a6,az,rfl,dv,eL,cJ⟩:=H.open
   have jn:=H
   refine Uz rfl (bO ?_)
   unfold L9
   have ck:Ext h (h.new (.au [.int .i64 c.k,.int .i64 c.x,.int .i64 c.n,.str c.s,aX,a6,az] 0 false)):=(Ext.refl h).new _
   have Fb:=O.hb ck
   simp +contextual only [Fb.mP,↓ab,bf,cN.ends,eZ,oneOf,top,↓reduceIte,Nat.reduceEqDiff,Nat.reduceLeDiff,Nat.reduceAdd,Nat.reduceSub,Nat.reduceMul,reduceCtorEq,Int.reduceEq,Int.reduceLT,Int.reduceLE,Int.reduceNeg]
   have vY:(c.k=8→1≤c.l.length)∧c.k≠14∧(dM c.k=true→c.l.length=2)∧r7 c.l:=by cases c;exact b8
   obtain ⟨bS,cF,gS,kL⟩:=vY
   refine aS (Ki c _ _ (H.ext (O.ext.trans ck)) ar bS cF) ?_
   rintro x bH ⟨hy,dn⟩
   have hQ:=Fb.hb dn
   have Y_:=ck.trans dn
   have WJ:h.next<bH.next:=by have:=dn.next;rw [cY] at this;omega
   have cg:bH.get (ao h.next)=.au [.int .i64 c.k,.int .i64 c.x,.int .i64 c.n,.str c.s,aX,a6,az] 0 false:=by rw [dn.get _ (dP (by rw [cY];omega)),gz]
   have ah1:=Ii c
   have ah2:(ownNames c.k c.x c.l).length≤(order c).length:=by
    cases c
    simp only [order,List.length_append,aU.k,aU.x,aU.l]
    omega
   obtain ⟨v3,aB,aP,aA,a2,da⟩:=zo (by omega) hQ.own hy.v (hQ.ext.next) (by unfold top;omega) (yf _)
   obtain ⟨qf,gh⟩:=hQ.push aA a2 da
   have Oe:cx cH<h.next:=O.wO
   have pR:∀b,bj.bb b→cx b<h.next:=fun b af=>O.own.v.b5 af
   have G8:(ao h.next=cH)=False:=eq_false (fun e=>by rw [←e,c'] at Oe;omega)
   have jc:(aB.set cH (.au [v3] 0 false)).get (ao h.next)=.au [.int .i64 c.k,.int .i64 c.x,.int .i64 c.n,.str c.s,aX,a6,az] 0 false:=by
    have a1:¬(ao h.next=cH∨bj.bb (ao h.next)):=by
     rintro (e | e)
     · exact G8.mp e
     · have:=pR _ e
       rw [c'] at this
       omega
    rw [gh.get _ (dP WJ) a1]
    exact cg
   have W4:aB.get cH=.au [bj] 0 false:=by rw [a2.get _ hQ.wO (fun q=>(O.yp _ q).1 rfl)];exact hQ.mP
   have Y0:v3.one=true:=aA.v.one.1
   have YY:v3.cells=[v3]:=aA.v.one.2.1
   have Xd:=(cJ.ext qf.ext).len
   simp +contextual only [Fb.mP,hQ.mP,W4,cg,jc,aP,Y0,YY,Xd,↓ab,bf,cN.ends,eZ,oneOf,top,↓reduceIte,Nat.reduceEqDiff,Nat.reduceLeDiff,Nat.reduceAdd,Nat.reduceSub,Nat.reduceMul,reduceCtorEq,Int.reduceEq,Int.reduceLT,Int.reduceLE,Int.reduceNeg]
   generalize aB.set cH (.au [v3] 0 false)=hB at *
   have adK:∀b,v3.bb b→bj.bb b∨h.next≤cx b:=fun b af=>(da b af).imp id (fun q=>by omega)
   have ab3:Mod (fun b=>b=cH∨bj.bb b) h hB:=(Y_.mod _).trans gh
   have WK:h.next<hB.next:=by have:=gh.next;omega
   have Yn:cx c_<h.next:=O.wN
   refine fV (fun r J=>r 1=.ptr cH 0∧r 2=.ptr c_ 0∧r 3=.ptr (ao h.next) 0∧r 11=az∧r 12=.int .i64 c.l.length∧h.next<J.next∧J.get (ao h.next)=.au [.int .i64 c.k,.int .i64 c.x,.int .i64 c.n,.str c.s,aX,a6,az] 0 false∧Mod (fun b=>b=cH∨bj.bb b) h J∧
    ∃(i:Nat) (done:List Int) (w:V),r 13=.int .i64 i∧i≤c.l.length∧ps 64 af J cH c_ done w∧(∀b,w.bb b→(bj.bb b∨h.next≤cx b)∧b≠ao h.next)∧done++iV (dM c.k) c.x (c.l.drop i) i=acc++order c) (fun r J=>c.l.length - (r 13).gV) ?_ ?_
   · refine ⟨by simp only [↓ab,bf,↓reduceIte,Nat.reduceEqDiff,reduceCtorEq],by simp only [↓ab,bf,↓reduceIte,Nat.reduceEqDiff,reduceCtorEq],by simp only [↓ab,bf,↓reduceIte,Nat.reduceEqDiff,reduceCtorEq],by simp only [↓ab,bf,↓reduceIte,Nat.reduceEqDiff,reduceCtorEq],by simp only [↓ab,bf,↓reduceIte,Nat.reduceEqDiff,reduceCtorEq],WK,jc,ab3,0,acc++ownNames c.k c.x c.l,v3,by simp only [↓ab,bf,↓reduceIte,Nat.reduceEqDiff,reduceCtorEq]<;>rfl,by omega,qf,fun b af=>⟨adK b af,?_⟩,?_⟩
     · rintro rfl
       rcases da _ af with q | q
       · have:=pR _ q;rw [c'] at this;omega
       · rw [c'] at q;omega
     · cases c
       simp only [order,List.append_assoc,List.drop_zero,aU.k,aU.x,aU.l]
   · rintro r J ⟨aY,bn,cl,kQ,o',a1,nj,ux,i,done,w,o_,aH,sy,hw,hl⟩
     unfold L'
     by_cases a7:i<c.l.length
     · have bV:((i:Int) < (c.l.length:Int))=True:=eq_true (by omega)
       obtain ⟨b,o,u,b9,hu,jz⟩:=cJ.m9 (k:=.i64) a7
       have cG:=(jz J sy.ext).1
       rw [List.drop_eq_getElem_cons a7,iV] at hl
       have jj:c.l[i]? =some c.l[i]:=List.getElem?_eq_getElem a7
       generalize sS:c.l[i]=f at *
       obtain ⟨cX,gy,cw,rfl,rh,rj,po⟩:=hu.open
       have hs:=g4 a7 (by omega)
       have dj:=rh.one.1
       have eW:=rj.one.1
       have fz:=po.one.1
       have dn:Ext J ((J.new (.au [.int .i64 0,.int .i64 0,.int .i64 0,.str [],.aw,.aw,.aw] 0 false)).set (ao J.next) (.au [.int .i64 f.k,.int .i64 f.x,.int .i64 f.n,.str f.s,cX,gy,cw] 0 false)):=((Ext.refl J).new _).set (Nat.le_refl _) _
       have qz:((J.new (.au [.int .i64 0,.int .i64 0,.int .i64 0,.str [],.aw,.aw,.aw] 0 false)).set (ao J.next) (.au [.int .i64 f.k,.int .i64 f.x,.int .i64 f.n,.str f.s,cX,gy,cw] 0 false)).next=J.next+1:=by rw [hf,cY]
       have ik:((J.new (.au [.int .i64 0,.int .i64 0,.int .i64 0,.str [],.aw,.aw,.aw] 0 false)).set (ao J.next) (.au [.int .i64 f.k,.int .i64 f.x,.int .i64 f.n,.str f.s,cX,gy,cw] 0 false)).get (ao J.next)=.au [.int .i64 f.k,.int .i64 f.x,.int .i64 f.n,.str f.s,cX,gy,cw] 0 false:=by rw [dB,if_pos rfl]
       have AO:(J.next=h.next)=False:=eq_false (by omega)
       have AP:(h.next=J.next)=False:=eq_false (by omega)
       have yr:(ao J.next=c_)=False:=eq_false (fun e=>by rw [←e,c'] at Yn;omega)
       have wK:(ao J.next=cH)=False:=eq_false (fun e=>by rw [←e,c'] at Oe;omega)
       have oV:∀(w:V),(∀b,w.bb b→b≠ao h.next)→¬(ao h.next=cH∨w.bb (ao h.next)):=by
        rintro w hw (e | e)
        · exact G8.mp e
        · exact hw _ e rfl
       have after:∀(G:ai) (zI:List Int) (aT:V),ps 64 af G cH c_ zI aT→h.next<G.next→G.get (ao h.next)=.au [.int .i64 c.k,.int .i64 c.x,.int .i64 c.n,.str c.s,aX,a6,az] 0 false→Mod (fun b=>b=cH∨bj.bb b) h G→
        (∀b,aT.bb b→(bj.bb b∨h.next≤cx b)∧b≠ao h.next)→zI.length + (order f).length≤8000000→
        bB Tryz.prog 64 [.agg [.int .i64 f.k,.int .i64 f.x,.int .i64 f.n,.str f.s,cX,gy,cw],.ptr cH 0,.ptr c_ 0] G fun x bM=>∃dq,ps 64 af bM cH c_ (zI++order f) dq∧h.next<bM.next∧bM.get (ao h.next)=.au [.int .i64 c.k,.int .i64 c.x,.int .i64 c.n,.str c.s,aX,a6,az] 0 false∧Mod (fun b=>b=cH∨bj.bb b) h bM∧
         (∀b,dq.bb b→(bj.bb b∨h.next≤cx b)∧b≠ao h.next):=by
        intro G zI aT rp xZ W' Xa Gj W_
        refine (PQ N f (by have:=r_ jj;omega) (qy f5 jj) (AV kL jj) _ af hu G cH c_ zI aT rp W_).mono ?_
        rintro x bM ⟨dq,kX,b_,ch⟩
        refine ⟨dq,kX,by have:=ch.next;omega,?_,?_,?_⟩
        · rw [ch.get _ (dP xZ) (oV aT fun b af=>(Gj b af).2)];exact W'
        · refine sx Xa ch fun b af eT=>?_
          rcases eT with e | e
          · exact .inl e
          · rcases (Gj b e).1 with q | q
            · exact .inr q
            · unfold Old at af;omega
        · intro b af
          rcases b_ b af with q | q
          · exact Gj b q
          · exact ⟨.inr (by omega),by rintro rfl;rw [c'] at q;omega⟩
       have N_:Mod (fun b=>b=cH∨bj.bb b) h ((J.new (.au [.int .i64 0,.int .i64 0,.int .i64 0,.str [],.aw,.aw,.aw] 0 false)).set (ao J.next) (.au [.int .i64 f.k,.int .i64 f.x,.int .i64 f.n,.str f.s,cX,gy,cw] 0 false)):=sx ux (dn.mod fun _=>False) (fun _ _ q=>q.elim)
       have NV:((J.new (.au [.int .i64 0,.int .i64 0,.int .i64 0,.str [],.aw,.aw,.aw] 0 false)).set (ao J.next) (.au [.int .i64 f.k,.int .i64 f.x,.int .i64 f.n,.str f.s,cX,gy,cw] 0 false)).get (ao h.next)=.au [.int .i64 c.k,.int .i64 c.x,.int .i64 c.n,.str c.s,aX,a6,az] 0 false:=by rw [dn.get _ (dP a1)];exact nj
       have rp:=sy.hb dn
       by_cases gP:dM c.k=true∧i=1
       · obtain ⟨vU,rfl⟩:=gP
         have qF:(if (dM c.k&&(1:Nat) == 1)=true then [c.x] else [])=[c.x]:=by
          rw [if_pos]
          rw [vU];rfl
         rw [qF] at hl
         have hlen:=congrArg List.length hl
         simp only [List.length_append,List.length_cons,List.length_nil] at hlen
         have uq:(decide (c.k=2)||decide (c.k=11))=true:=by simpa [dM] using vU
         have pQ:(((1:Nat):Int)=1)=True:=eq_true rfl
         obtain ⟨Eo,k5,bt,b1,a3,a4,a5⟩:=ja (cs:=[.int .i64 c.x]) (by omega) rp.own rp.ext.next (by unfold top;omega) rfl rfl
         rw [qz] at bt
         obtain ⟨Sa,r0⟩:=rp.push (m:=[c.x]) b1 a3 (fun b af=>(a5 b af).imp id (fun q=>by omega))
         have Y1:Eo.one=true:=b1.v.one.1
         have YZ:Eo.cells=[Eo]:=b1.v.one.2.1
         have W5:k5.get cH=.au [w] 0 false:=by rw [a3.get _ rp.wO (fun q=>(sy.yp _ q).1 rfl)];exact rp.mP
         have W3:k5.get c_=.au [.func 64 [.ptr cH 0,.ptr c_ 0]] 0 false:=by rw [a3.get _ rp.wN (fun q=>(sy.yp _ q).2 rfl)];exact rp.pS
         have Yl:Old ((J.new (.au [.int .i64 0,.int .i64 0,.int .i64 0,.str [],.aw,.aw,.aw] 0 false)).set (ao J.next) (.au [.int .i64 f.k,.int .i64 f.x,.int .i64 f.n,.str f.s,cX,gy,cw] 0 false)) (ao J.next):=dP (by rw [qz];omega)
         have Y7:∀b,w.bb b→cx b<J.next:=fun b af=>sy.own.v.b5 af
         have W2:k5.get (ao J.next)=.au [.int .i64 f.k,.int .i64 f.x,.int .i64 f.n,.str f.s,cX,gy,cw] 0 false:=by
          rw [a3.get _ Yl (fun q=>by have:=Y7 _ q;rw [c'] at this;omega)];exact ik
         have NN:k5.get (ao h.next)=.au [.int .i64 c.k,.int .i64 c.x,.int .i64 c.n,.str c.s,aX,a6,az] 0 false:=by
          rw [a3.get _ (dP (by rw [qz];omega)) (fun q=>(hw _ q).2 rfl)];exact NV
         have Oj:(cH=ao h.next)=False:=eq_false (fun e=>G8.mp e.symm)
         have acr:(cH=ao J.next)=False:=eq_false (fun e=>wK.mp e.symm)
         have acD:(cH=c_)=False:=eq_false O.ne
         simp +contextual only [aY,bn,cl,kQ,o',o_,nj,sy.mP,sy.pS,pQ,bV,b9,cG,dj,eW,fz,AO,AP,yr,wK,uq,Bool.and_self,bt,Y1,YZ,W5,W3,W2,NN,Oj,acr,acD,↓ab,bf,cN.ends,eZ,oneOf,top,↓reduceIte,Nat.reduceEqDiff,Nat.reduceLeDiff,Nat.reduceAdd,Nat.reduceSub,Nat.reduceMul,reduceCtorEq,Int.reduceEq,Int.reduceLT,Int.reduceLE,Int.reduceNeg]
         refine aS (after _ (done++[c.x]) Eo Sa (by rw [hf];have:=a3.next;rw [qz] at this;omega) (by rw [dB,if_neg (fun e=>Oj.mp e)];exact NN) (sx N_ r0 fun b af eT=>?_) (fun b af=>?_) (by simp only [List.length_append,List.length_cons,List.length_nil];omega)) ?_
         · rcases eT with e | e
           · exact .inl e
           · rcases (hw b e).1 with q | q
             · exact .inr q
             · unfold Old at af;omega
         · rcases a5 b af with q | q
           · exact hw b q
           · rw [qz] at q
             exact ⟨.inr (by omega),by rintro rfl;rw [c'] at q;omega⟩
         rintro x bM ⟨dq,kX,b_,ch,cI,ga⟩
         simp +contextual only [aY,bn,cl,kQ,o',o_,hs,↓ab,bf,cN.ends,eZ,oneOf,top,↓reduceIte,Nat.reduceEqDiff,Nat.reduceLeDiff,Nat.reduceAdd,Nat.reduceSub,Nat.reduceMul,reduceCtorEq,Int.reduceEq,Int.reduceLT,Int.reduceLE,Int.reduceNeg]
         exact ⟨⟨b_,ch,cI,2,done++[c.x]++order f,dq,rfl,a7,kX,ga,by rw [←hl];simp only [List.append_assoc]⟩,by omega⟩
       · have qF:(if (dM c.k&&i == 1)=true then [c.x] else [])=([]:List Int):=by
          rw [if_neg]
          simp only [Bool.and_eq_true,beq_iff_eq]
          exact gP
         rw [qF,List.nil_append] at hl
         have hlen:=congrArg List.length hl
         simp only [List.length_append,List.length_cons,List.length_nil] at hlen
         have uq:(decide ((i:Int)=1)&&(decide (c.k=2)||decide (c.k=11)))=false:=by
          rw [Bool.and_eq_false_iff]
          by_cases ad:i=1
          · right
            have:¬dM c.k=true:=fun q=>gP ⟨q,ad⟩
            simpa [dM] using this
          · left
            exact decide_eq_false (by omega)
         simp +contextual only [aY,bn,cl,kQ,o',o_,nj,sy.pS,bV,b9,cG,dj,eW,fz,AO,AP,yr,wK,uq,Bool.and_self,↓ab,bf,cN.ends,eZ,oneOf,top,↓reduceIte,Nat.reduceEqDiff,Nat.reduceLeDiff,Nat.reduceAdd,Nat.reduceSub,Nat.reduceMul,reduceCtorEq,Int.reduceEq,Int.reduceLT,Int.reduceLE,Int.reduceNeg]
         refine aS (after _ done w rp (by rw [qz];omega) NV N_ hw (by omega)) ?_
         rintro x bM ⟨dq,kX,b_,ch,cI,ga⟩
         simp +contextual only [aY,bn,cl,kQ,o',o_,hs,↓ab,bf,cN.ends,eZ,oneOf,top,↓reduceIte,Nat.reduceEqDiff,Nat.reduceLeDiff,Nat.reduceAdd,Nat.reduceSub,Nat.reduceMul,reduceCtorEq,Int.reduceEq,Int.reduceLT,Int.reduceLE,Int.reduceNeg]
         exact ⟨⟨b_,ch,cI,i+1,done++order f,dq,rfl,a7,kX,ga,by rw [List.append_assoc];exact hl⟩,by omega⟩
     · have bV:((i:Int) < (c.l.length:Int))=False:=eq_false (by omega)
       rw [List.drop_eq_nil_of_le (by omega),iV,List.append_nil] at hl
       simp +contextual only [aY,bn,cl,kQ,o',o_,bV,↓ab,bf,cN.ends,eZ,oneOf,top,↓reduceIte,Nat.reduceEqDiff,Nat.reduceLeDiff,Nat.reduceAdd,Nat.reduceSub,Nat.reduceMul,reduceCtorEq,Int.reduceEq,Int.reduceLT,Int.reduceLE,Int.reduceNeg]
       rw [←hl]
       exact ⟨w,sy,fun b af=>(hw b af).1,ux⟩
theorem J1 (c:aU) (ah:List V) (h:ai) (H:ef h c ah) (ar:fit 1048576 c) (b8:q1 c) (aL:(order c).length≤8000000):
 bB Tryz.prog 45 [.agg ah] h fun x J=>cn h.next J 1 x (order c).length (cd (order c))∧Ext h J:=by
 obtain ⟨aX,a6,az,rfl,dv,eL,cJ⟩:=H.open
 refine Ul rfl (bO ?_)
 unfold LN
 simp +contextual only [↓ab,ae,simprocAttr]
 generalize xZ:((((h.new (.au [.int .i64 c.k,.int .i64 c.x,.int .i64 c.n,.str c.s,aX,a6,az] 0 false)).new (.au [.aw] 0 false)).new (.au [.kN] 0 false)).set (ao (h.next+2)) (.au [.func 64 [.ptr (ao (h.next+1)) 0,.ptr (ao (h.next+2)) 0]] 0 false))=G at *
 have ax:Ext h G:=by rw [←xZ];exact (((Ext.refl h).new _).new _ |>.new _).set (by omega) _
 have a1:G.next=h.next+3:=by rw [←xZ];simp only [hf,cY]
 have bH:G.get (ao (h.next+1))=.au [.aw] 0 false:=by
  rw [←xZ,dB,if_neg (by rw [gM];omega),eG,if_neg (by simp only [cY];rw [gM];omega),eG,if_pos (by simp only [cY])]
 have bM:G.get (ao (h.next+2))=.au [.func 64 [.ptr (ao (h.next+1)) 0,.ptr (ao (h.next+2)) 0]] 0 false:=by rw [←xZ,dB,if_pos rfl]
 have O:ps 64 h G (ao (h.next+1)) (ao (h.next+2)) [] .aw:=⟨ax,bH,bM,dP (by omega),dP (by omega),by rw [c'];omega,by rw [c'];omega,by rw [Ne,gM];omega,⟨rfl,rfl⟩,fun b af=>af.elim⟩
 refine aS (PQ (size c) c (Nat.le_refl _) ar b8 _ h H G _ _ [] .aw O (by simpa using aL)) ?_
 rintro x J ⟨w,B_,b_,ch⟩
 rw [List.nil_append] at B_
 simp +contextual only [B_.mP,↓ab,ae,simprocAttr]
 exact ⟨B_.own,B_.ext⟩
theorem PT {x:Int}:∀{l:List aU} (h:l.length=2),iV true x l 0=order (l[0]'(by omega))++[x]++order (l[1]'(by omega))
 | [p,q],_=>by simp [iV]
structure Grown (af aj:ai) (v0:V) (h:ai) (l:List Int) (v:V):Prop where
 ext:Ext af h
 own:cn af.next h 1 v l.length (cd l)
 mod:Mod v0.bb aj h
 new:∀b,v.bb b→v0.bb b∨aj.next≤cx b
theorem Grown.start {af h:ai} {l:List Int} {v:V} (e:Ext af h) (o:cn af.next h 1 v l.length (cd l)):Grown af h v h l v:=⟨e,o,Mod.refl _ _,fun b af=>.inl af⟩
theorem Grown.hb {af aj h J:ai} {v0 v:V} {l:List Int} (G:Grown af aj v0 h l v) (e:Ext h J):Grown af aj v0 J l v:=
 ⟨G.ext.trans e,G.own.ext e,sx G.mod (e.mod fun _=>False) (fun _ _ q=>q.elim),G.new⟩
theorem Grown.off {af aj h:ai} {v0 v:V} {l:List Int} (G:Grown af aj v0 h l v) {b:aV} (bA:Old aj b) (a1:¬v0.bb b):¬v.bb b:=by
 intro q
 rcases G.new b q with e | e
 · exact a1 e
 · unfold Old at bA;omega
theorem Grown.step {af aj h J:ai} {v0 v db:V} {l m:List Int} (G:Grown af aj v0 h l v) (aA:cn af.next J 1 db (l.length+m.length) (cd l++cd m)) (a2:Mod v.bb h J) (da:∀b,db.bb b→v.bb b∨h.next≤cx b):Grown af aj v0 J (l++m) db:=by
 refine ⟨G.ext.qZ a2 (fun b af=>G.own.base af),by rw [List.length_append,s8];exact aA,sx G.mod a2 (fun b af aZ=>?_),fun b af=>?_⟩
 · rcases G.new b aZ with e | e
   · exact e
   · unfold Old at af;omega
 · have:=G.mod.next
   rcases da b af with e | e
   · exact G.new b e
   · exact .inr (by omega)
theorem Grown.call {af aj h J:ai} {v0 v db:V} {l m:List Int} (G:Grown af aj v0 h l v) (mA:Grown af h v J m db):Grown af aj v0 J m db:=by
 refine ⟨mA.ext,mA.own,sx G.mod mA.mod (fun b af aZ=>?_),fun b af=>?_⟩
 · rcases G.new b aZ with e | e
   · exact e
   · unfold Old at af;omega
 · have:=G.mod.next
   rcases mA.new b af with e | e
   · exact G.new b e
   · exact .inr (by omega)
set_option maxHeartbeats 2000000 in
theorem IF:∀(N:Nat) (c:aU),size c≤N→fit 1048576 c→q1 c→∀(ah:List V) (af:ai),ef af c ah→∀(h:ai) (acc:List Int) (bj:V),Ext af h→cn af.next h 1 bj acc.length (cd acc)→acc.length + (order c).length≤8000000→
 bB Tryz.prog 48 [.agg ah,bj] h fun x J=>Grown af h bj J (acc++order c) x
 | 0,c,aM,_,_,_,_,_,_,_,_,_,_,_=>by have:=size_pos c;omega
 | N+1,c,aM,ar,b8,ah,af,H,h,acc,bj,CZ,hy,aL=>by
   obtain ⟨f1,f2,f3,f4,f5⟩:=ar.kids
   have pU:=u2 c
   obtain ⟨aX,a6,az,rfl,dv,eL,cJ⟩:=H.open
   have vY:(c.k=8→1≤c.l.length)∧c.k≠14∧(dM c.k=true→c.l.length=2)∧r7 c.l:=by cases c;exact b8
   obtain ⟨bS,cF,gS,kL⟩:=vY
   have eg:∀(i:Nat) (d:aU) (u:List V) (g:ai) (l:List Int) (w:V),c.l[i]? =some d→ef af d u→Ext af g→cn af.next g 1 w l.length (cd l)→l.length + (order d).length≤8000000→
    bB Tryz.prog 48 [.agg u,w] g fun x J=>Grown af g w J (l++order d) x:=
    fun i d u g l w aH hu bl hw aL=>IF N d (by have:=r_ aH;omega) (qy f5 aH) (AV kL aH) u af hu g l w bl hw aL
   refine Uo rfl (bO ?_)
   unfold LR
   have ck:Ext h (h.new (.au [.int .i64 c.k,.int .i64 c.x,.int .i64 c.n,.str c.s,aX,a6,az] 0 false)):=(Ext.refl h).new _
   have vc:Grown af h bj (h.new (.au [.int .i64 c.k,.int .i64 c.x,.int .i64 c.n,.str c.s,aX,a6,az] 0 false)) acc bj:=(Grown.start CZ hy).hb ck
   have Hm:∀b,bj.bb b→cx b<h.next:=fun b af=>hy.v.b5 af
   have sZ:order c=ownNames c.k c.x c.l++iV (dM c.k) c.x c.l 0:=by cases c;rfl
   have fo:(h.new (.au [.int .i64 c.k,.int .i64 c.x,.int .i64 c.n,.str c.s,aX,a6,az] 0 false)).get (ao h.next)=.au [.int .i64 c.k,.int .i64 c.x,.int .i64 c.n,.str c.s,aX,a6,az] 0 false:=gz _
   have k1:(h.new (.au [.int .i64 c.k,.int .i64 c.x,.int .i64 c.n,.str c.s,aX,a6,az] 0 false)).next=h.next+1:=cY _ _
   have box:∀(g:ai) (l:List Int) (w:V),Grown af (h.new (.au [.int .i64 c.k,.int .i64 c.x,.int .i64 c.n,.str c.s,aX,a6,az] 0 false)) bj g l w→g.get (ao h.next)=.au [.int .i64 c.k,.int .i64 c.x,.int .i64 c.n,.str c.s,aX,a6,az] 0 false∧h.next<g.next∧¬w.bb (ao h.next):=by
    intro g l w G
    have oV:¬bj.bb (ao h.next):=fun q=>by have:=Hm _ q;rw [c'] at this;omega
    exact ⟨by rw [G.mod.get _ (dP (by rw [k1];omega)) oV];exact fo,by have:=G.mod.next;omega,G.off (dP (by rw [k1];omega)) oV⟩
   have fin:∀(g:ai) (l:List Int) (w:V),Grown af (h.new (.au [.int .i64 c.k,.int .i64 c.x,.int .i64 c.n,.str c.s,aX,a6,az] 0 false)) bj g l w→Grown af h bj g l w:=fun g l w G=>vc.call G
   have jW:Grown af (h.new (.au [.int .i64 c.k,.int .i64 c.x,.int .i64 c.n,.str c.s,aX,a6,az] 0 false)) bj (h.new (.au [.int .i64 c.k,.int .i64 c.x,.int .i64 c.n,.str c.s,aX,a6,az] 0 false)) acc bj:=Grown.start vc.ext vc.own
   generalize vG:(h.new (.au [.int .i64 c.k,.int .i64 c.x,.int .i64 c.n,.str c.s,aX,a6,az] 0 false))=iA at *
   have loop:∀(g:ai) (l:List Int) (w:V) (r:bP) (aE:List iK) (Q:cN→bP→ai→Prop),Grown af iA bj g l w→dM c.k=false→l++iV (dM c.k) c.x c.l 0=acc++order c→r 1=w→r 2=.ptr (ao h.next) 0→r 6=.int .i64 0→
    (∀eR aT bR,Grown af iA bj eR (acc++order c) aT→bR 1=aT→bN Tryz.prog aE (.exit 3) bR eR Q)→uK Tryz.prog FJ aE r g Q:=by
    intro g l w r aE Q G gP fY aP aA eh dd
    refine fV (fun r J=>r 2=.ptr (ao h.next) 0∧∃(i:Nat) (done:List Int) (w:V),r 6=.int .i64 i∧i≤c.l.length∧r 1=w∧Grown af iA bj J done w∧done++iV (dM c.k) c.x (c.l.drop i) i=acc++order c) (fun r J=>c.l.length - (r 6).gV) ?_ ?_
    · exact ⟨aA,0,l,w,by rw [eh];rfl,by omega,aP,G,by simpa using fY⟩
    · rintro r J ⟨bn,i,done,w,q7,aH,aY,fD,hl⟩
      unfold FJ
      obtain ⟨dR,DJ,_⟩:=box _ _ _ fD
      have b6:=(cJ.ext fD.ext).len
      by_cases a7:i<c.l.length
      · have bV:((i:Int) < (c.l.length:Int))=True:=eq_true (by omega)
        obtain ⟨b,o,u,b9,hu,jz⟩:=cJ.m9 (k:=.i64) a7
        have cG:=(jz J fD.ext).1
        have hs:=g4 a7 (by omega)
        rw [List.drop_eq_getElem_cons a7,iV] at hl
        have qF:(if (dM c.k&&i == 1)=true then [c.x] else [])=([]:List Int):=by rw [gP];rfl
        rw [qF,List.nil_append] at hl
        have hlen:=congrArg List.length hl
        simp only [List.length_append] at hlen
        simp +contextual only [aY,bn,q7,dR,b6,bV,b9,cG,↓ab,ae,simprocAttr]
        refine aS (eg i _ u J done w (List.getElem?_eq_getElem a7) hu fD.ext fD.own (by omega)) ?_
        rintro x bM fu
        simp +contextual only [bn,q7,hs,↓ab,ae,simprocAttr]
        exact ⟨⟨i+1,done++order c.l[i],x,rfl,a7,rfl,fD.call fu,by rw [List.append_assoc];exact hl⟩,by omega⟩
      · have bV:((i:Int) < (c.l.length:Int))=False:=eq_false (by omega)
        rw [List.drop_eq_nil_of_le (by omega),iV,List.append_nil] at hl
        rw [hl] at fD
        simp +contextual only [aY,bn,q7,dR,b6,bV,↓ab,ae,simprocAttr]
        exact dd _ w _ fD (by simp only [aY,↓ab,bf,simprocAttr])
   by_cases ak:c.k=2
   · have bo:=eq_true ak
     have gP:dM c.k=true:=by simp [dM,ak]
     have gZ:=gS gP
     obtain ⟨b,o,u,b9,hu,jz⟩:=cJ.m9 (k:=.i64) (i:=0) (by omega)
     obtain ⟨b2,dV,lo,k',fQ,wD⟩:=cJ.m9 (k:=.i64) (i:=1) (by omega)
     have b3:e8 7 az (.int .i64 0)=some (.ptr b o):=by simpa using b9
     have cB:e8 7 az (.int .i64 1)=some (.ptr b2 (dV+7)):=by simpa using k'
     have bY:∀g,Ext af g→jl 7 (g.get b) o=some (.agg u):=fun g e=>by simpa using (jz g e).1
     have b7:∀g,Ext af g→jl 7 (g.get b2) (dV+7)=some (.agg lo):=fun g e=>by simpa using (wD g e).1
     have As:order c=order c.l[0]++[c.x]++order c.l[1]:=by
      rw [sZ,show ownNames c.k c.x c.l=[] from by rw [ownNames,if_neg (by omega),if_neg (by omega)],gP]
      rw [PT gZ]
      rfl
     have hlen:=congrArg List.length As
     simp only [List.length_append,List.length_cons,List.length_nil] at hlen
     simp +contextual only [vG,bo,fo,b3,bY iA jW.ext,↓ab,ae,simprocAttr]
     refine aS (eg 0 _ u iA acc bj (List.getElem?_eq_getElem (by omega)) hu jW.ext jW.own (by omega)) ?_
     rintro x bM fu
     obtain ⟨cD,eJ,dq⟩:=box _ _ _ fu
     have sL:Ext bM (bM.new (.au [.int .i64 c.x] 0 false)):=(Ext.refl bM).new _
     obtain ⟨v3,aB,aP,aA,a2,b',da⟩:=ja (cs:=[.int .i64 c.x]) (by omega) fu.own fu.ext.next (by simp only [List.length_append];unfold top;omega) rfl rfl
     have hB:=fu.step (m:=[c.x]) aA a2 (fun b af=>(da b af).imp id (fun q=>by omega))
     obtain ⟨e5,DB,hA⟩:=box _ _ _ hB
     have zq:(bM.new (.au [.int .i64 c.x] 0 false)).get (ao h.next)=.au [.int .i64 c.k,.int .i64 c.x,.int .i64 c.n,.str c.s,aX,a6,az] 0 false:=by rw [sL.get _ (dP eJ)];exact cD
     simp +contextual only [cD,zq,e5,aP,cB,b7 bM fu.ext,b7 aB hB.ext,b7 _ (fu.ext.trans sL),↓ab,ae,simprocAttr]
     refine aS (eg 1 _ lo aB (acc++order c.l[0]++[c.x]) v3 (List.getElem?_eq_getElem (by omega)) fQ hB.ext hB.own (by simp only [List.length_append,List.length_cons,List.length_nil];omega)) ?_
     rintro y fF j5
     have yW:=hB.call j5
     obtain ⟨g8,DC,ix⟩:=box _ _ _ yW
     have mM:Grown af h bj fF (acc++order c) y:=by
      have:=fin _ _ _ yW
      rw [As]
      simpa only [List.append_assoc] using this
     simp +contextual only [cD,zq,e5,g8,cB,b7 bM fu.ext,b7 aB hB.ext,b7 _ (fu.ext.trans sL),↓ab,ae,simprocAttr]
     refine ⟨?_,mM⟩
     have:=b7 _ (fu.ext.trans sL)
     rw [eG] at this
     exact this
   have bo:=eq_false ak
   by_cases jg:c.k=11
   · have jd:=eq_true jg
     have gP:dM c.k=true:=by simp [dM,jg]
     have gZ:=gS gP
     obtain ⟨b,o,u,b9,hu,jz⟩:=cJ.m9 (k:=.i64) (i:=0) (by omega)
     obtain ⟨b2,dV,lo,k',fQ,wD⟩:=cJ.m9 (k:=.i64) (i:=1) (by omega)
     have b3:e8 7 az (.int .i64 0)=some (.ptr b o):=by simpa using b9
     have cB:e8 7 az (.int .i64 1)=some (.ptr b2 (dV+7)):=by simpa using k'
     have bY:∀g,Ext af g→jl 7 (g.get b) o=some (.agg u):=fun g e=>by simpa using (jz g e).1
     have b7:∀g,Ext af g→jl 7 (g.get b2) (dV+7)=some (.agg lo):=fun g e=>by simpa using (wD g e).1
     have As:order c=order c.l[0]++[c.x]++order c.l[1]:=by
      rw [sZ,show ownNames c.k c.x c.l=[] from by rw [ownNames,if_neg (by omega),if_neg (by omega)],gP]
      rw [PT gZ]
      rfl
     have hlen:=congrArg List.length As
     simp only [List.length_append,List.length_cons,List.length_nil] at hlen
     simp +contextual only [vG,bo,jd,fo,b3,bY iA jW.ext,↓ab,ae,simprocAttr]
     refine aS (eg 0 _ u iA acc bj (List.getElem?_eq_getElem (by omega)) hu jW.ext jW.own (by omega)) ?_
     rintro x bM fu
     obtain ⟨cD,eJ,dq⟩:=box _ _ _ fu
     have sL:Ext bM (bM.new (.au [.int .i64 c.x] 0 false)):=(Ext.refl bM).new _
     obtain ⟨v3,aB,aP,aA,a2,b',da⟩:=ja (cs:=[.int .i64 c.x]) (by omega) fu.own fu.ext.next (by simp only [List.length_append];unfold top;omega) rfl rfl
     have hB:=fu.step (m:=[c.x]) aA a2 (fun b af=>(da b af).imp id (fun q=>by omega))
     obtain ⟨e5,DB,hA⟩:=box _ _ _ hB
     have zq:(bM.new (.au [.int .i64 c.x] 0 false)).get (ao h.next)=.au [.int .i64 c.k,.int .i64 c.x,.int .i64 c.n,.str c.s,aX,a6,az] 0 false:=by rw [sL.get _ (dP eJ)];exact cD
     simp +contextual only [cD,zq,e5,aP,cB,b7 bM fu.ext,b7 aB hB.ext,b7 _ (fu.ext.trans sL),↓ab,ae,simprocAttr]
     refine aS (eg 1 _ lo aB (acc++order c.l[0]++[c.x]) v3 (List.getElem?_eq_getElem (by omega)) fQ hB.ext hB.own (by simp only [List.length_append,List.length_cons,List.length_nil];omega)) ?_
     rintro y fF j5
     have yW:=hB.call j5
     obtain ⟨g8,DC,ix⟩:=box _ _ _ yW
     have mM:Grown af h bj fF (acc++order c) y:=by
      have:=fin _ _ _ yW
      rw [As]
      simpa only [List.append_assoc] using this
     simp +contextual only [cD,zq,e5,g8,cB,b7 bM fu.ext,b7 aB hB.ext,b7 _ (fu.ext.trans sL),↓ab,ae,simprocAttr]
     refine ⟨?_,mM⟩
     have:=b7 _ (fu.ext.trans sL)
     rw [eG] at this
     exact this
   have jd:=eq_false jg
   have gP:dM c.k=false:=by simp [dM,ak,jg]
   by_cases c6:c.k=7
   · have fE:=eq_true c6
     have Of:order c=[c.x]++iV (dM c.k) c.x c.l 0:=by rw [sZ,ownNames,if_pos c6]
     have hlen:=congrArg List.length Of
     simp only [List.length_append,List.length_cons,List.length_nil] at hlen
     obtain ⟨v3,aB,aP,aA,a2,b',da⟩:=ja (cs:=[.int .i64 c.x]) (by omega) jW.own jW.ext.next (by unfold top;omega) rfl rfl
     have hB:=jW.step (m:=[c.x]) aA a2 (fun b af=>(da b af).imp id (fun q=>by omega))
     simp +contextual only [vG,bo,jd,fE,fo,aP,↓ab,ae,simprocAttr]
     refine loop aB (acc++[c.x]) v3 _ _ _ hB gP (by rw [Of];simp only [List.append_assoc]) (by simp only [↓ab,bf,simprocAttr]) (by simp only [↓ab,bf,simprocAttr]) (by simp only [↓ab,bf,simprocAttr]) ?_
     intro eR aT bR mA b_
     simp +contextual only [b_,↓ab,ae,simprocAttr]
     exact fin _ _ _ mA
   have fE:=eq_false c6
   by_cases hH:c.k=8
   · have hG:=eq_true hH
     have Og:order c=c.l.dropLast.map aU.n++iV (dM c.k) c.x c.l 0:=by rw [sZ,ownNames,if_neg c6,if_pos hH]
     have hlen:=congrArg List.length Og
     simp only [List.length_append] at hlen
     have e0:=bS hH
     have aR:IntKind.i64.wrap ((c.l.length:Int)-1)=((c.l.length-1:Nat):Int):=by rw [wrap_i64 (by omega) (by omega)];omega
     simp +contextual only [vG,bo,jd,fE,hG,fo,↓ab,ae,simprocAttr]
     refine fV (fun r J=>r 2=.ptr (ao h.next) 0∧∃(i:Nat) (w:V),r 5=.int .i64 i∧i≤c.l.length-1∧r 1=w∧Grown af iA bj J (acc++(c.l.take i).map aU.n) w) (fun r J=>c.l.length - (r 5).gV) ?_ ?_
     · exact ⟨by simp only [↓ab,bf,simprocAttr],0,bj,by simp only [↓ab,bf,simprocAttr]<;>rfl,by omega,by simp only [↓ab,bf,simprocAttr],by simpa using jW⟩
     · rintro r J ⟨bn,i,w,hz,aH,aY,fD⟩
       unfold LS
       obtain ⟨dR,DJ,_⟩:=box _ _ _ fD
       have b6:=(cJ.ext fD.ext).len
       by_cases a7:i<c.l.length-1
       · have bV:((i:Int) < ((c.l.length-1:Nat):Int))=True:=eq_true (by omega)
         have kJ:i<c.l.length:=by omega
         obtain ⟨b,o,u,b9,hu,jz⟩:=cJ.m9 (k:=.i64) kJ
         have dT:=(jz J fD.ext).2
         have hs:=g4 kJ (by omega)
         have ma:(c.l.take (i+1)).map aU.n=(c.l.take i).map aU.n++[c.l[i].n]:=by rw [List.take_add_one,List.getElem?_eq_getElem kJ,List.map_append];rfl
         have N3:(c.l.dropLast.map aU.n).length=c.l.length-1:=by rw [List.length_map,List.length_dropLast]
         have qO:((c.l.take i).map aU.n).length=i:=by rw [List.length_map,List.length_take];omega
         generalize sS:c.l[i]=f at *
         obtain ⟨cX,gy,cw,rfl,rh,rj,po⟩:=hu.open
         have eI:=dT 2 (by omega)
         rw [show ([V.int .i64 f.k,.int .i64 f.x,.int .i64 f.n,.str f.s,cX,gy,cw])[2]? =some (.int .i64 f.n) from rfl] at eI
         obtain ⟨v3,aB,aP,aA,a2,b',da⟩:=ja (cs:=[.int .i64 f.n]) (by omega) fD.own fD.ext.next (by rw [List.length_append,qO];unfold top;omega) rfl rfl
         have hB:=fD.step (m:=[f.n]) aA a2 (fun b af=>(da b af).imp id (fun q=>by omega))
         simp +contextual only [aY,bn,hz,dR,b6,aR,bV,b9,eI,aP,hs,↓ab,ae,simprocAttr]
         exact ⟨⟨i+1,v3,rfl,by omega,rfl,by rw [ma,←List.append_assoc];exact hB⟩,by omega⟩
       · have bV:((i:Int) < ((c.l.length-1:Nat):Int))=False:=eq_false (by omega)
         obtain rfl:i=c.l.length-1:=by omega
         simp +contextual only [aY,bn,hz,dR,b6,aR,bV,↓ab,ae,simprocAttr]
         refine loop J _ w _ _ _ fD gP (by rw [Og,List.dropLast_eq_take];simp only [List.append_assoc]) (by simp only [aY,↓ab,bf,simprocAttr]) (by simp only [bn,↓ab,bf,simprocAttr]) (by simp only [↓ab,bf,simprocAttr]) ?_
         intro eR aT bR mA b_
         simp +contextual only [b_,↓ab,ae,simprocAttr]
         exact fin _ _ _ mA
   have hG:=eq_false hH
   have Yk:order c=iV (dM c.k) c.x c.l 0:=by rw [sZ,ownNames,if_neg c6,if_neg hH,List.nil_append]
   simp +contextual only [vG,bo,jd,fE,hG,fo,↓ab,ae,simprocAttr]
   refine loop iA acc bj _ _ _ jW gP (by rw [Yk]) (by simp only [↓ab,bf,simprocAttr]) (by simp only [↓ab,bf,simprocAttr]) (by simp only [↓ab,bf,simprocAttr]) ?_
   intro eR aT bR mA b_
   simp +contextual only [b_,↓ab,ae,simprocAttr]
   exact fin _ _ _ mA
def tU (l:List Int) (n:Int):Bool:=l.any (fun m=>decide (m=n))
theorem SL (l:List Int) (n:Int) (v:V) (h:ai) (H:cj h 1 v l.length (cd l)) (aL:l.length≤4611686018427387904):
 bB Tryz.prog 74 [v,.int .i64 n] h fun x J=>x=.bool (tU l n)∧J=h:=by
 refine UH rfl (bO ?_)
 unfold Mk
 simp +contextual only [↓ab,ae,simprocAttr]
 refine fV (fun r J=>J=h∧r 0=v∧r 1=.int .i64 n∧∃i:Nat,r 5=.int .i64 i∧i≤l.length∧tU l n=tU (l.drop i) n) (fun r J=>l.length - (r 5).gV) ?_ ?_
 · exact ⟨rfl,by simp only [↓ab,bf,simprocAttr],by simp only [↓ab,bf,simprocAttr],0,by simp only [↓ab,bf,simprocAttr]<;>rfl,by omega,rfl⟩
 · rintro r J ⟨rfl,bm,aY,i,hz,aH,b8⟩
   unfold Ml
   have b6:=H.len
   by_cases a7:i<l.length
   · have bV:((i:Int) < (l.length:Int))=True:=eq_true (by omega)
     obtain ⟨b,o,b9,cG⟩:=ints_at H (k:=.i64) a7
     rw [List.drop_eq_getElem_cons a7] at b8
     have w:=g4 a7 aL
     have aM:tU (l[i]::l.drop (i+1)) n=(decide (l[i]=n)||tU (l.drop (i+1)) n):=rfl
     rw [aM] at b8
     by_cases aC:l[i]=n
     · have e:=eq_true aC
       simp +contextual only [bm,aY,hz,b6,bV,b9,cG,e,↓ab,ae,simprocAttr]
       rw [b8];simp [aC]
     · have e:=eq_false aC
       simp +contextual only [bm,aY,hz,b6,bV,b9,cG,e,w,↓ab,ae,simprocAttr]
       exact ⟨⟨i+1,rfl,a7,by rw [b8];simp [aC]⟩,by omega⟩
   · have bV:((i:Int) < (l.length:Int))=False:=eq_false (by omega)
     rw [List.drop_eq_nil_of_le (by omega)] at b8
     simp +contextual only [bm,aY,hz,b6,bV,↓ab,ae,simprocAttr]
     rw [b8];rfl
theorem HB {x:Int}:∀{o:List Int} {k:Nat} (al:k≤o.length),(∀(j:Nat) (h:j<k),o[j]'(by omega)<x)→(∀h:k<o.length,¬o[k]<x)→
 ins x o=if (∃h:k<o.length,o[k]=x) then o else o.take k++[x]++o.drop k
 | [],k,al,_,_=>by
   obtain rfl:k=0:=by simpa using al
   simp [ins]
 | y::o,0,al,_,ak=>by
   have:=ak (by simp)
   simp only [List.getElem_cons_zero] at this
   simp only [ins,if_neg this,List.getElem_cons_zero,List.length_cons,Nat.zero_lt_succ,exists_true_left,List.take_zero,List.nil_append,List.drop_zero,List.cons_append]
 | y::o,k+1,al,ad,ak=>by
   have aj:=ad 0 (by omega)
   simp only [List.getElem_cons_zero] at aj
   have bJ:=HB (x:=x) (o:=o) (k:=k) (by simpa using al) (fun j bQ=>by simpa using ad (j+1) (by omega)) (fun h=>by have:=ak (Nat.succ_lt_succ h);simp only [List.getElem_cons_succ] at this;exact this)
   simp only [ins,if_pos aj,bJ,List.getElem_cons_succ,List.length_cons,Nat.add_lt_add_iff_right,List.take_succ_cons,List.drop_succ_cons,List.cons_append]
   split<;>rfl
theorem OK (x:Int):∀o:List Int,(ins x o).length≤o.length+1
 | []=>by simp [ins]
 | y::o=>by
   have:=OK x o
   simp only [ins]
   split
   · simp only [List.length_cons];omega
   · split<;>simp
theorem ad8 (l:List Int):(rising l).length≤l.length:=by
 have:∀(l o:List Int),(l.foldl (fun o x=>ins x o) o).length≤o.length+l.length:=by
  intro l
  induction l with
  | nil=>intro o;simp
  | cons x l bJ=>intro o;rw [List.foldl_cons];have:=bJ (ins x o);have:=OK x o;simp only [List.length_cons];omega
 simpa [rising] using this l []
theorem cn.VP {B:Nat} {h:ai} {size:Nat} {v:V} {n:Nat} {ah:List V} (H:cn B h size v n ah) {k:IntKind} {m:Nat} (hm:m≤n) (aF:m≤top):
 ∃db,gI size v none (some (.int k m)) (some (.int k m))=some db∧cn B h size db m (ah.take (m * size))∧∀b,db.bb b→v.bb b:=by
 obtain ⟨aP,aA⟩:=H
 have X_:=Nat.mul_le_mul_right size hm
 have gF:(ah.take (m * size)).length=m * size:=by rw [List.length_take];omega
 cases v<;>simp only at aA<;>try (exact aA.elim)
 case aw=>
  subst aA
  obtain rfl:m=0:=by omega
  refine ⟨.aw,?_,⟨gF,rfl⟩,fun b af=>af⟩
  have e:=fun d=>m' (k:=k) (m:=0) (d:=d) (y:=0) (Nat.le_refl 0)
  simp only [gI,wY,e,mI]
 case slice b off len cap=>
  obtain ⟨rfl,a2,b',da,eh,us,cS,st,eE,fa,hM⟩:=aA
  have e:gI size (.slice b off len cap) none (some (.int k m)) (some (.int k m))=some (.slice b off m m):=by
   simp only [gI,p',m' (k:=k) (m:=m) (d:=cap) (y:=cap) (by omega),m' (k:=k) (m:=m) (d:=len) (y:=m) (Nat.le_refl _),mI]
   cases Nat.beq m 0<;>simp
  rw [e]
  have ahW:=Nat.mul_le_mul_right size (Nat.le_trans hm da)
  refine ⟨_,rfl,⟨gF,rfl,a2,b',Nat.le_refl _,aF,us,cS,st,eE,by omega,?_⟩,fun b2 af=>af⟩
  rw [gF,←hM,List.take_take]
  congr 1
  omega
 case ei b off len idx=>
  obtain ⟨rfl,a2,b',rfl,rfl,us,st,eE,fa,hM⟩:=aA
  have e:gI size (.ei b 0 len 0) none (some (.int k m)) (some (.int k m))=some (.slice b 0 m m):=by
   simp only [gI,pg,m' (k:=k) (m:=m) (d:=len) (y:=len) (by omega),m' (k:=k) (m:=m) (d:=len) (y:=m) (Nat.le_refl _),mI]
   cases Nat.beq m 0<;>simp
  rw [e]
  refine ⟨_,rfl,⟨gF,rfl,a2,b',Nat.le_refl _,aF,us,size,st,eE,by omega,?_⟩,fun b2 af=>af⟩
  rw [gF,List.drop_zero,←hM,List.take_take]
  congr 1
  omega
theorem cn.empty {B:Nat} {h:ai} (size:Nat) (dF:B≤h.next):cn B (h.new (.au [] 0 false)) size (.slice (ao h.next) 0 0 0) 0 []:=
 ⟨by simp,rfl,by rw [c'];exact dF,dP (by rw [cY];omega),Nat.le_refl _,Nat.zero_le _,[],0,false,gz _,by simp,by simp⟩
theorem cj.Ve {h:ai} {B size:Nat} {v:V} {n:Nat} {ah:List V} (H:cn B h size v n ah):∀b off l c,v=.slice b off l c→l≤c:=by
 intro b off l c e
 subst e
 obtain ⟨_,rfl,_,_,q,_⟩:=H
 exact q
theorem Zu (l:List Int) (k:Nat):(cd l).drop k=cd (l.drop k):=by
 induction l generalizing k with
 | nil=>simp [cd]
 | cons x l bJ=>cases k<;>simp [cd,bJ]
theorem Dj (l:List Int) (k:Nat):(cd l).take k=cd (l.take k):=by
 induction l generalizing k with
 | nil=>simp [cd]
 | cons x l bJ=>cases k<;>simp [cd,bJ]
theorem Zs {B:Nat} {h:ai} {w:V} {o:List Int} (O:cn B h 1 w o.length (cd o)) (dF:B≤h.next) {k:Nat} (al:k≤o.length) (aL:o.length+1≤top) (x:Int):
 ∃v1 v2 ak v3 v4 bw v5 ej,gI 1 w (some (.int .i64 k)) none none=some v1∧l2 1 (.slice (ao h.next) 0 0 0) v1 (h.new (.au [] 0 false))=.val v2 ak∧Ext h ak∧
  gI 1 w none (some (.int .i64 k)) (some (.int .i64 k))=some v3∧l2 1 v3 (.slice (ao ak.next) 0 1 1) (ak.new (.au [.int .i64 x] 0 false))=.val v4 bw∧l2 1 v4 v2 bw=.val v5 ej∧
  Mod w.bb h ej∧cn B ej 1 v5 (o.take k++[x]++o.drop k).length (cd (o.take k++[x]++o.drop k))∧∀b,v5.bb b→w.bb b∨h.next≤cx b:=by
 obtain ⟨v1,bt,b1,a3⟩:=O.v.cut (k:=.i64) (cb:=.i64) (cm:=k) (aH:=o.length) al (Nat.le_refl _) (some (.int .i64 k)) none (.inl rfl) (.inr ⟨rfl,rfl⟩) (cj.Ve O)
 have ca:((cd o).drop (k * 1)).take ((o.length-k) * 1)=cd (o.drop k):=by
  rw [Nat.mul_one,Nat.mul_one,Zu,Dj,List.take_of_length_le (by rw [List.length_drop];omega)]
 rw [ca] at b1
 have ck:Ext h (h.new (.au [] 0 false)):=(Ext.refl h).new _
 obtain ⟨v2,ak,bX,cD,e5,g8⟩:=zo (B:=h.next) (Nat.le_refl 1) (cn.empty (h:=h) 1 (Nat.le_refl _)) (b1.ext ck) (by rw [cY];omega) (by omega) (yf _)
 have bo:Ext h ak:=ck.qZ e5 (fun b af=>by
  have:b=ao h.next:=af
  rw [this,c'];exact Nat.le_refl _)
 rw [List.nil_append,Nat.zero_add] at cD
 obtain ⟨v3,cg,dk,jc⟩:=cn.VP (O.ext bo) (k:=.i64) (m:=k) al (by omega)
 rw [Nat.mul_one,Dj] at dk
 obtain ⟨v4,bw,d1,d2,d3,d4,d5⟩:=ja (cs:=[.int .i64 x]) (Nat.le_refl 1) dk (Nat.le_trans dF bo.next) (by omega) rfl rfl
 have YW:cn h.next bw 1 v2 (o.length-k) (cd (o.drop k)):=cD.mod d3 (fun b aP aA=>by
  have f1:=cD.base aP
  have f2:cx b<h.next:=O.v.b5 (jc b aA)
  omega)
 obtain ⟨v5,ej,f1,f2,f3,f4⟩:=zo (Nat.le_refl 1) d2 YW.v (by have:=bo.next;omega) (by omega) (yf _)
 have r0:Mod w.bb h bw:=sx (bo.mod _) d3 (fun b _ q=>jc b q)
 refine ⟨v1,v2,ak,v3,v4,bw,v5,ej,bt,bX,bo,cg,d1,f1,sx r0 f3 (fun b bA q=>?_),?_,fun b af=>?_⟩
 · rcases d5 b q with q | q
   · exact jc b q
   · have:=bo.next
     unfold Old at bA
     omega
 · have:(o.take k++[x]++o.drop k).length=k+1 + (o.length-k):=by
    simp only [List.length_append,List.length_take,List.length_drop,List.length_cons,List.length_nil]
    omega
   rw [this,s8,s8]
   exact f2
 · have:=bo.next
   rcases f4 b af with q | q
   · rcases d5 b q with q | q
     · exact .inl (jc b q)
     · exact .inr (by omega)
   · exact .inr (by omega)
theorem Zw {h:ai} {l:List Int} {v:V} (H:cj h 1 v l.length (cd l)) {k:IntKind} {i:Nat} (aH:i<l.length):
 ∃b off,e8 1 v (.int k i)=some (.ptr b (off+i * 1))∧∀J,Ext h J→hU (J.get b) (off+i * 1)=some (.int .i64 l[i]):=by
 obtain ⟨b,off,aI,bo⟩:=H.b9 (k:=k) aH
 refine ⟨b,off,aI,fun J ax=>?_⟩
 rw [Nat.mul_one,(bo.ext ax).b7 (by rw [k_];exact aH)]
 simp [cd]
set_option maxHeartbeats 1000000 in
theorem Qz (l:List Int) (v:V) (h:ai) (H:cj h 1 v l.length (cd l)) (aL:l.length≤8000000):
 bB Tryz.prog 53 [v] h fun x J=>cn h.next J 1 x (rising l).length (cd (rising l))∧Ext h J:=by
 refine Us rfl (bO ?_)
 unfold LX
 simp +contextual only [↓ab,ae,simprocAttr]
 refine fV (fun r J=>Ext h J∧r 0=v∧∃(i:Nat) (w:V),r 4=.int .i64 i∧i≤l.length∧r 3=w∧cn h.next J 1 w (rising (l.take i)).length (cd (rising (l.take i)))) (fun r J=>l.length - (r 4).gV) ?_ ?_
 · exact ⟨Ext.refl _,by simp only [↓ab,bf,simprocAttr],0,.aw,by simp only [↓ab,bf,simprocAttr]<;>rfl,by omega,by simp only [↓ab,bf,simprocAttr],⟨rfl,rfl⟩⟩
 · rintro r J ⟨ax,bm,i,w,c2,aH,cl,O⟩
   unfold LZ
   have b6:=(H.ext ax).len
   by_cases a7:i<l.length
   · have bV:((i:Int) < (l.length:Int))=True:=eq_true (by omega)
     obtain ⟨b,o,b9,jz⟩:=Zw (H.ext ax) (k:=.i64) a7
     have cG:=jz J (Ext.refl _)
     have Hb:rising (l.take (i+1))=ins l[i] (rising (l.take i)):=by
      rw [rising,rising,List.take_succ_eq_append_getElem a7,List.foldl_append];rfl
     have rO:(rising (l.take i)).length≤8000000:=by have:=ad8 (l.take i);rw [List.length_take] at this;omega
     generalize rising (l.take i)=q at *
     have qB:=O.v.len
     have hs:=g4 a7 (by omega)
     simp +contextual only [bm,c2,b6,bV,↓ab,ae,simprocAttr]
     refine fV (fun bR ak=>ak=J∧bR 0=v∧bR 3=w∧bR 4=.int .i64 i∧∃k:Nat,bR 5=.int .i64 k∧∃al:k≤q.length,∀(j:Nat) (bQ:j<k),q[j]'(by omega)<l[i]) (fun r J=>q.length - (r 5).gV) ?_ ?_
     · exact ⟨rfl,by simp only [bm,↓ab,bf,simprocAttr],by simp only [cl,↓ab,bf,simprocAttr],by simp only [c2,↓ab,bf,simprocAttr],0,by simp only [↓ab,bf,simprocAttr]<;>rfl,by omega,fun j bQ=>by omega⟩
     · rintro bR ak ⟨rfl,iX,h3,od,k,nw,al,Gu⟩
       unfold LY
       have fin:=Zs O ax.next al (by unfold top;omega) l[i]
       obtain ⟨v1,v2,bM,v3,v4,fF,v5,gY,bt,b1,a3,a4,a5,jH,vo,tS,a9⟩:=fin
       have jN:=jz bM a3
       have done:(∀h:k<q.length,¬q[k]<l[i])→(¬∃h:k<q.length,q[k]=l[i])→ins l[i] q=q.take k++[l[i]]++q.drop k:=fun b_ ch=>by rw [HB al Gu b_,if_neg ch]
       have Nm:Ext h gY:=ax.qZ vo (fun b af=>O.base af)
       by_cases bT:k<q.length
       · have mL:((k:Int) < (q.length:Int))=True:=eq_true (by omega)
         obtain ⟨b2,dV,k',wB⟩:=ints_at O.v (k:=.i64) bT
         have agG:=g4 bT (by omega)
         by_cases aC:q[k]<l[i]
         · have e:=eq_true aC
           simp +contextual only [iX,h3,od,nw,qB,mL,k',wB,b9,cG,e,agG,↓ab,ae,simprocAttr]
           exact ⟨⟨k+1,rfl,by omega,fun j bQ=>by
            by_cases XT:j<k
            · exact Gu j XT
            · obtain rfl:j=k:=by omega
              exact aC⟩,by omega⟩
         · have e:=eq_false aC
           by_cases he:q[k]=l[i]
           · have fM:=eq_true he
             simp +contextual only [iX,h3,od,nw,qB,mL,k',wB,b9,cG,e,fM,hs,↓ab,ae,simprocAttr]
             refine ⟨⟨ax,i+1,w,rfl,a7,rfl,?_⟩,by omega⟩
             rw [Hb,HB al Gu (fun _=>aC),if_pos ⟨bT,he⟩]
             exact O
           · have fM:=eq_false he
             simp +contextual only [iX,h3,od,nw,qB,mL,k',wB,b9,cG,e,fM,hs,bt,b1,a4,a5,jH,jN,↓ab,ae,simprocAttr]
             refine ⟨by have:=jz (bM.new (.au [.int .i64 l[i]] 0 false)) (a3.new _);rw [eG] at this;exact this,⟨Nm,i+1,v5,rfl,a7,rfl,?_⟩,by omega⟩
             rw [Hb,done (fun _=>aC) (fun ⟨_,p⟩=>he p)]
             exact tS
       · have mL:((k:Int) < (q.length:Int))=False:=eq_false (by omega)
         simp +contextual only [iX,h3,od,nw,qB,mL,b9,cG,hs,bt,b1,a4,a5,jH,jN,↓ab,ae,simprocAttr]
         refine ⟨by have:=jz (bM.new (.au [.int .i64 l[i]] 0 false)) (a3.new _);rw [eG] at this;exact this,⟨Nm,i+1,v5,rfl,a7,rfl,?_⟩,by omega⟩
         rw [Hb,done (fun p=>absurd p bT) (fun ⟨p,_⟩=>bT p)]
         exact tS
   · have bV:((i:Int) < (l.length:Int))=False:=eq_false (by omega)
     rw [List.take_of_length_le (by omega)] at O
     simp +contextual only [bm,cl,c2,b6,bV,↓ab,ae,simprocAttr]
     exact ⟨O,ax⟩
theorem Grown.side {af aj g eR:ai} {v0 w:V} {l:List Int} {M:aV→Prop} (G:Grown af aj v0 g l w) (m:Mod M g eR) (eS:∀b,M b→aj.next≤cx b∧¬w.bb b) (a1:af.next≤aj.next):Grown af aj v0 eR l w:=
 ⟨G.ext.qZ m (fun b af=>Nat.le_trans a1 (eS b af).1),G.own.mod m (fun b aP aA=>(eS b aA).2 aP),sx G.mod m (fun b bA q=>by have:=(eS b q).1;unfold Old at bA;omega),G.new⟩
theorem J6 (l:List Int) (n:Int):tU l n=l.contains n:=by
 unfold tU
 rw [List.contains_eq_any_beq]
 congr 1
 funext m
 by_cases h:m=n
 · subst h;simp
 · have:¬n=m:=fun e=>h e.symm
   simp [h,this]
theorem Rm (b:List Int) (q:At) (a:List At):iJ b (q::a)=(if q.k=1∧b.contains q.n=false then [q.n] else [])++iJ b a:=by
 unfold iJ
 by_cases ad:q.k=1
 · by_cases ak:q.n ∈ b
   · simp [List.filter_cons,ad,ak]
   · simp [List.filter_cons,ad,ak]
 · simp [List.filter_cons,ad]
theorem wQ (late:Bool) (x:Int):∀(l:List aU) (j i:Nat) (d:aU),l[i]? =some d→(order d).length + (if (late&&j+i == 1)=true then 1 else 0)≤(iV late x l j).length
 | [],_,_,_,h=>by simp at h
 | c::l,j,0,d,h=>by
   simp only [List.getElem?_cons_zero,Option.some.injEq] at h
   subst h
   simp only [iV,List.length_append,Nat.add_zero]
   split<;>simp<;>omega
 | c::l,j,i+1,d,h=>by
   have:=wQ late x l (j+1) i d (by simpa using h)
   simp only [iV,List.length_append]
   rw [show j+1+i=j + (i+1) from by omega] at this
   omega
theorem ND {x:Int} {b:List Int}:∀{l:List aU} (h:l.length=2),iP true x l b 0=free (l[0]'(by omega)) b++free (l[1]'(by omega)) (b++[x])
 | [p,q],_=>by simp [iP]
set_option maxHeartbeats 4000000 in
theorem Qx:∀(N:Nat) (c:aU),size c≤N→fit 1048576 c→q1 c→∀(ah:List V) (af:ai),ef af c ah→∀(h:ai) (fm:List Int) (ra:V) (acc:List Int) (bj:V),Ext af h→cj h 1 ra fm.length (cd fm)→cn af.next h 1 bj acc.length (cd acc)→
 (∀b,ra.bb b→¬bj.bb b)→fm.length + (order c).length≤8000000→acc.length + (free c fm).length≤8000000→
 bB Tryz.prog 54 [.agg ah,ra,bj] h fun x J=>Grown af h bj J (acc++free c fm) x
 | 0,c,aM,_,_,_,_,_,_,_,_,_,_,_,_,_,_,_,_=>by have:=size_pos c;omega
 | N+1,c,aM,ar,b8,ah,af,H,h,fm,ra,acc,bj,CZ,NY,hy,N2,ahU,aL=>by
   obtain ⟨f1,f2,f3,f4,f5⟩:=ar.kids
   have pU:=u2 c
   obtain ⟨aX,a6,az,rfl,dv,eL,cJ⟩:=H.open
   have vY:(c.k=8→1≤c.l.length)∧c.k≠14∧(dM c.k=true→c.l.length=2)∧r7 c.l:=by cases c;exact b8
   obtain ⟨bS,cF,gS,kL⟩:=vY
   have sZ:order c=ownNames c.k c.x c.l++iV (dM c.k) c.x c.l 0:=by cases c;rfl
   have pP:free c fm=iJ fm c.a++iP (dM c.k) c.x c.l (fm++ownNames c.k c.x c.l) 0:=by cases c;rfl
   have G2:=congrArg List.length sZ
   rw [List.length_append] at G2
   have XK:=congrArg List.length pP
   rw [List.length_append] at XK
   have eg:∀(i:Nat) (d:aU) (u:List V) (g:ai) (jb:List Int) (iy:V) (l:List Int) (w:V),c.l[i]? =some d→ef af d u→Ext af g→cj g 1 iy jb.length (cd jb)→cn af.next g 1 w l.length (cd l)→(∀b,iy.bb b→¬w.bb b)→jb.length + (order d).length≤8000000→l.length + (free d jb).length≤8000000→
    bB Tryz.prog 54 [.agg u,iy,w] g fun x J=>Grown af g w J (l++free d jb) x:=
    fun i d u g jb iy l w aH hu bl wc hw ca e0 gZ=>Qx N d (by have:=r_ aH;omega) (qy f5 aH) (AV kL aH) u af hu g jb iy l w bl wc hw ca e0 gZ
   refine Ut rfl (bO ?_)
   unfold L0
   have ck:Ext h (h.new (.au [.int .i64 c.k,.int .i64 c.x,.int .i64 c.n,.str c.s,aX,a6,az] 0 false)):=(Ext.refl h).new _
   have vc:Grown af h bj (h.new (.au [.int .i64 c.k,.int .i64 c.x,.int .i64 c.n,.str c.s,aX,a6,az] 0 false)) acc bj:=(Grown.start CZ hy).hb ck
   have Hm:∀b,bj.bb b→cx b<h.next:=fun b af=>hy.v.b5 af
   have Y3:∀b,ra.bb b→cx b<h.next:=fun b af=>NY.b5 af
   have fo:(h.new (.au [.int .i64 c.k,.int .i64 c.x,.int .i64 c.n,.str c.s,aX,a6,az] 0 false)).get (ao h.next)=.au [.int .i64 c.k,.int .i64 c.x,.int .i64 c.n,.str c.s,aX,a6,az] 0 false:=gz _
   have k1:(h.new (.au [.int .i64 c.k,.int .i64 c.x,.int .i64 c.n,.str c.s,aX,a6,az] 0 false)).next=h.next+1:=cY _ _
   have qE:af.next≤h.next:=CZ.next
   simp +contextual only [↓ab,ae,simprocAttr]
   generalize vG:(h.new (.au [.int .i64 c.k,.int .i64 c.x,.int .i64 c.n,.str c.s,aX,a6,az] 0 false))=iA at *
   have box:∀(g:ai) (l:List Int) (w:V),Grown af iA bj g l w→g.get (ao h.next)=.au [.int .i64 c.k,.int .i64 c.x,.int .i64 c.n,.str c.s,aX,a6,az] 0 false∧h.next<g.next∧¬w.bb (ao h.next):=by
    intro g l w G
    have oV:¬bj.bb (ao h.next):=fun q=>by have:=Hm _ q;rw [c'] at this;omega
    exact ⟨by rw [G.mod.get _ (dP (by rw [k1];omega)) oV];exact fo,by have:=G.mod.next;omega,G.off (dP (by rw [k1];omega)) oV⟩
   have Fw:∀(g:ai) (l:List Int) (w:V),Grown af iA bj g l w→cj g 1 ra fm.length (cd fm)∧∀b,ra.bb b→¬w.bb b:=fun g l w G=>
    ⟨(NY.ext ck).mod G.mod N2,fun b q=>G.off (by have:=Y3 b q;unfold Old;omega) (N2 b q)⟩
   have fin:∀(g:ai) (l:List Int) (w:V),Grown af iA bj g l w→Grown af h bj g l w:=fun g l w G=>vc.call G
   have jW:Grown af iA bj iA acc bj:=Grown.start vc.ext vc.own
   have loop:∀(g:ai) (jb:List Int) (iy:V) (l:List Int) (w:V) (r:bP) (aE:List iK) (Q:cN→bP→ai→Prop),Grown af iA bj g l w→cj g 1 iy jb.length (cd jb)→(∀b,iy.bb b→¬w.bb b)→dM c.k=false→jb=fm++ownNames c.k c.x c.l→l=acc++iJ fm c.a→r 2=w→r 3=.ptr (ao h.next) 0→r 8=iy→r 10=.int .i64 0→
    (∀eR aT bR,Grown af iA bj eR (acc++free c fm) aT→bR 2=aT→bN Tryz.prog aE (.exit 5) bR eR Q)→uK Tryz.prog FK aE r g Q:=by
    intro g jb iy l w r aE Q G wc kh gP NX fY aA a2 fa kv dd
    refine fV (fun r J=>r 3=.ptr (ao h.next) 0∧r 8=iy∧cj J 1 iy jb.length (cd jb)∧∃(i:Nat) (done:List Int) (w:V),r 10=.int .i64 i∧i≤c.l.length∧r 2=w∧Grown af iA bj J done w∧(∀b,iy.bb b→¬w.bb b)∧done++iP false c.x (c.l.drop i) jb i=acc++free c fm) (fun r J=>c.l.length - (r 10).gV) ?_ ?_
    · exact ⟨a2,fa,wc,0,l,w,by rw [kv];rfl,by omega,aA,G,kh,by rw [fY,pP,gP,NX,List.drop_zero,List.append_assoc]⟩
    · rintro r J ⟨cl,iH,wc,i,done,w,jm,aH,bn,fD,kh,hl⟩
      unfold FK
      obtain ⟨dR,DJ,_⟩:=box _ _ _ fD
      have b6:=(cJ.ext fD.ext).len
      by_cases a7:i<c.l.length
      · have bV:((i:Int) < (c.l.length:Int))=True:=eq_true (by omega)
        obtain ⟨b,o,u,b9,hu,jz⟩:=cJ.m9 (k:=.i64) a7
        have cG:=(jz J fD.ext).1
        have hs:=g4 a7 (by omega)
        have jj:=List.getElem?_eq_getElem a7
        have Aq:=wQ (dM c.k) c.x c.l 0 i _ jj
        rw [List.drop_eq_getElem_cons a7,iP] at hl
        rw [show (if (false&&i == 1)=true then jb++[c.x] else jb)=jb from rfl] at hl
        have hlen:=congrArg List.length hl
        simp only [List.length_append] at hlen
        have ji:=congrArg List.length NX
        rw [List.length_append] at ji
        simp +contextual only [bn,cl,iH,jm,dR,b6,bV,b9,cG,↓ab,ae,simprocAttr]
        refine aS (eg i _ u J jb iy done w jj hu fD.ext wc fD.own kh (by omega) (by omega)) ?_
        rintro x bM fu
        simp +contextual only [cl,iH,jm,hs,↓ab,ae,simprocAttr]
        exact ⟨⟨wc.mod fu.mod kh,i+1,done++free c.l[i] jb,x,rfl,a7,rfl,fD.call fu,fun b q=>fu.off (wc.b5 q) (kh b q),by rw [List.append_assoc];exact hl⟩,by omega⟩
      · have bV:((i:Int) < (c.l.length:Int))=False:=eq_false (by omega)
        rw [List.drop_eq_nil_of_le (by omega),iP,List.append_nil] at hl
        rw [hl] at fD
        simp +contextual only [bn,cl,iH,jm,dR,b6,bV,↓ab,ae,simprocAttr]
        exact dd _ w _ fD (by simp only [bn,↓ab,bf,simprocAttr])
   refine fV (fun r J=>r 0=r 0∧r 1=ra∧r 3=.ptr (ao h.next) 0∧∃(i:Nat) (done:List Int) (w:V),r 7=.int .i64 i∧i≤c.a.length∧r 2=w∧Grown af iA bj J done w∧done++iJ fm (c.a.drop i)=acc++iJ fm c.a) (fun r J=>c.a.length - (r 7).gV) ?_ ?_
   · exact ⟨rfl,by simp only [↓ab,bf,simprocAttr],by simp only [↓ab,bf,simprocAttr],0,acc,bj,by simp only [↓ab,bf,simprocAttr]<;>rfl,by omega,by simp only [↓ab,bf,simprocAttr],jW,by rw [List.drop_zero]⟩
   · rintro r g ⟨_,aY,cl,i,done,w,gj,aH,bn,fD,hl⟩
     unfold L1
     obtain ⟨dR,DJ,_⟩:=box _ _ _ fD
     have b6:=(dv.ext fD.ext).len
     by_cases a7:i<c.a.length
     · have bV:((i:Int) < (c.a.length:Int))=True:=eq_true (by omega)
       obtain ⟨b,o,b9,gT,cG⟩:=xB (dv.ext fD.ext) (k:=.i64) a7
       have a8:=cG 0 (by omega)
       have bc:=cG 1 (by omega)
       have hs:=g4 a7 (by omega)
       rw [List.drop_eq_getElem_cons a7,Rm] at hl
       generalize c.a[i]=q at *
       rw [show q.enc[0]? =some (.int .i64 q.k) from rfl,Nat.add_zero] at a8
       rw [show q.enc[1]? =some (.int .i64 q.n) from rfl] at bc
       by_cases aZ:q.k=1
       · have eq:=eq_true aZ
         simp +contextual only [aY,bn,cl,gj,dR,b6,bV,b9,a8,bc,eq,↓ab,ae,simprocAttr]
         refine aS (SL fm q.n ra g (Fw _ _ _ fD).1 (by omega)) ?_
         rintro x bM ⟨rfl,rfl⟩
         cases hm:tU fm q.n with
         | true=>
           rw [if_neg (fun p=>by rw [←J6,hm] at p;exact absurd p.2 (by simp)),List.nil_append] at hl
           simp +contextual only [aY,bn,cl,gj,hs,↓ab,ae,simprocAttr]
           exact ⟨⟨i+1,done,w,rfl,a7,rfl,fD,hl⟩,by omega⟩
         | false=>
           rw [if_pos ⟨aZ,by rw [←J6,hm]⟩,←List.append_assoc] at hl
           have hlen:=congrArg List.length hl
           simp only [List.length_append,List.length_cons,List.length_nil] at hlen
           obtain ⟨v3,aB,aP,aA,a2,b',da⟩:=ja (cs:=[.int .i64 q.n]) (by omega) fD.own fD.ext.next (by unfold top;omega) rfl rfl
           have hB:=fD.step (m:=[q.n]) aA a2 (fun b af=>(da b af).imp id (fun q=>by omega))
           simp +contextual only [aY,bn,cl,gj,dR,b9,bc,aP,hs,↓ab,ae,simprocAttr]
           exact ⟨⟨i+1,_,v3,rfl,a7,rfl,hB,hl⟩,by omega⟩
       · have eq:=eq_false aZ
         rw [if_neg (fun p=>aZ p.1),List.nil_append] at hl
         simp +contextual only [aY,bn,cl,gj,dR,b6,bV,b9,a8,bc,eq,hs,↓ab,ae,simprocAttr]
         exact ⟨⟨i+1,done,w,rfl,a7,rfl,fD,hl⟩,by omega⟩
     · have bV:((i:Int) < (c.a.length:Int))=False:=eq_false (by omega)
       rw [List.drop_eq_nil_of_le (by omega),show iJ fm []=[] from rfl,List.append_nil] at hl
       subst hl
       obtain ⟨Xl,z6⟩:=Fw _ _ _ fD
       have es:Ext g (g.new (.au [] 0 false)):=(Ext.refl g).new _
       obtain ⟨iy,bM,b_,ch,cI,ga⟩:=zo (B:=g.next) (Nat.le_refl 1) (cn.empty (h:=g) 1 (Nat.le_refl _)) (Xl.ext es) (by rw [cY];omega) (by unfold top;omega) (yf _)
       have bo:Ext g bM:=es.qZ cI (fun b af=>by
        have:b=ao g.next:=af
        rw [this,c'];exact Nat.le_refl _)
       rw [List.nil_append,Nat.zero_add] at ch
       have fu:=fD.hb bo
       obtain ⟨kY,uO,_⟩:=box _ _ _ fu
       obtain ⟨NW,_⟩:=Fw _ _ _ fu
       have OB:∀b,w.bb b→cx b<g.next:=fun b q=>fD.own.v.b5 q
       have kh:∀b,iy.bb b→iA.next≤cx b∧¬w.bb b:=fun b q=>⟨by have:=ch.base q;have:=fD.mod.next;omega,fun hg=>by have:=ch.base q;have:=OB b hg;omega⟩
       have CW:af.next≤iA.next:=by omega
       by_cases ak:c.k=2
       · have xM:=eq_true ak
         have gP:dM c.k=true:=by simp [dM,ak]
         have gZ:=gS gP
         obtain ⟨b,o,u,b9,hu,jz⟩:=cJ.m9 (k:=.i64) (i:=0) (by omega)
         obtain ⟨b2,dV,lo,k',fQ,wD⟩:=cJ.m9 (k:=.i64) (i:=1) (by omega)
         have b3:e8 7 az (.int .i64 0)=some (.ptr b o):=by simpa using b9
         have cB:e8 7 az (.int .i64 1)=some (.ptr b2 (dV+7)):=by simpa using k'
         have bY:∀g,Ext af g→jl 7 (g.get b) o=some (.agg u):=fun g e=>by simpa using (jz g e).1
         have b7:∀g,Ext af g→jl 7 (g.get b2) (dV+7)=some (.agg lo):=fun g e=>by simpa using (wD g e).1
         have nq:ownNames c.k c.x c.l=[]:=by rw [ownNames,if_neg (by omega),if_neg (by omega)]
         have Ab:free c fm=iJ fm c.a++(free c.l[0] fm++free c.l[1] (fm++[c.x])):=by
          rw [pP,gP,nq,List.append_nil,ND gZ]
         have hlen:=congrArg List.length Ab
         simp only [List.length_append] at hlen
         have Aq:=wQ (dM c.k) c.x c.l 0 0 _ (List.getElem?_eq_getElem (by omega))
         have C':(order c.l[1]).length+1≤(iV (dM c.k) c.x c.l 0).length:=by
          have:=wQ (dM c.k) c.x c.l 0 1 _ (List.getElem?_eq_getElem (by omega))
          rw [gP] at this ⊢
          exact this
         simp +contextual only [aY,bn,cl,gj,dR,b6,bV,b_,kY,xM,b3,bY bM fu.ext,↓ab,ae,simprocAttr]
         refine aS (eg 0 _ u bM fm ra (acc++iJ fm c.a) w (List.getElem?_eq_getElem (by omega)) hu fu.ext NW fu.own z6 (by omega) (by simp only [List.length_append];omega)) ?_
         rintro x cT hB
         have lY:=fu.call hB
         obtain ⟨oJ,q0,_⟩:=box _ _ _ lY
         have Ip:cn g.next cT 1 iy fm.length (cd fm):=ch.mod hB.mod (fun b q=>(kh b q).2)
         have z':∀b,iy.bb b→iA.next≤cx b∧¬x.bb b:=fun b q=>⟨(kh b q).1,hB.off (ch.v.b5 q) (kh b q).2⟩
         obtain ⟨ix,fF,bt,b1,a3,a4,a5⟩:=ja (cs:=[.int .i64 c.x]) (by omega) Ip (by have:=hB.mod.next;have:=bo.next;omega) (by unfold top;omega) rfl rfl
         have j5:=lY.side a3 z' CW
         obtain ⟨zz,tc,_⟩:=box _ _ _ j5
         have sM:Ext cT (cT.new (.au [.int .i64 c.x] 0 false)):=(Ext.refl cT).new _
         have zy:(cT.new (.au [.int .i64 c.x] 0 false)).get (ao h.next)=.au [.int .i64 c.k,.int .i64 c.x,.int .i64 c.n,.str c.s,aX,a6,az] 0 false:=by rw [sM.get _ (dP q0)];exact oJ
         simp +contextual only [aY,bn,cl,kY,oJ,zy,zz,bt,cB,b7 cT lY.ext,b7 fF j5.ext,b7 _ (lY.ext.trans sM),↓ab,ae,simprocAttr]
         have vN:∀b,ix.bb b→¬x.bb b:=fun b q hg=>by
          rcases a5 b q with q | q
          · exact (z' b q).2 hg
          · have:cx b<cT.next:=lY.own.v.b5 hg
            omega
         refine aS (eg 1 _ lo fF (fm++[c.x]) ix (acc++iJ fm c.a++free c.l[0] fm) x (List.getElem?_eq_getElem (by omega)) fQ j5.ext (by rw [List.length_append,s8];exact b1.v) j5.own vN (by simp only [List.length_append,List.length_cons,List.length_nil];omega) (by simp only [List.length_append];omega)) ?_
         rintro y gY EJ
         have yX:=j5.call EJ
         obtain ⟨FC,H8,_⟩:=box _ _ _ yX
         have mM:Grown af h bj gY (acc++free c fm) y:=by
          have:=fin _ _ _ yX
          rw [Ab]
          simpa only [List.append_assoc] using this
         simp +contextual only [aY,bn,cl,kY,oJ,zy,zz,FC,cB,b7 cT lY.ext,b7 fF j5.ext,b7 _ (lY.ext.trans sM),↓ab,ae,simprocAttr]
         refine ⟨?_,mM⟩
         have:=b7 _ (lY.ext.trans sM)
         rw [eG] at this
         exact this
       have xM:=eq_false ak
       by_cases jg:c.k=11
       · have jd:=eq_true jg
         have gP:dM c.k=true:=by simp [dM,jg]
         have gZ:=gS gP
         obtain ⟨b,o,u,b9,hu,jz⟩:=cJ.m9 (k:=.i64) (i:=0) (by omega)
         obtain ⟨b2,dV,lo,k',fQ,wD⟩:=cJ.m9 (k:=.i64) (i:=1) (by omega)
         have b3:e8 7 az (.int .i64 0)=some (.ptr b o):=by simpa using b9
         have cB:e8 7 az (.int .i64 1)=some (.ptr b2 (dV+7)):=by simpa using k'
         have bY:∀g,Ext af g→jl 7 (g.get b) o=some (.agg u):=fun g e=>by simpa using (jz g e).1
         have b7:∀g,Ext af g→jl 7 (g.get b2) (dV+7)=some (.agg lo):=fun g e=>by simpa using (wD g e).1
         have nq:ownNames c.k c.x c.l=[]:=by rw [ownNames,if_neg (by omega),if_neg (by omega)]
         have Ab:free c fm=iJ fm c.a++(free c.l[0] fm++free c.l[1] (fm++[c.x])):=by
          rw [pP,gP,nq,List.append_nil,ND gZ]
         have hlen:=congrArg List.length Ab
         simp only [List.length_append] at hlen
         have Aq:=wQ (dM c.k) c.x c.l 0 0 _ (List.getElem?_eq_getElem (by omega))
         have C':(order c.l[1]).length+1≤(iV (dM c.k) c.x c.l 0).length:=by
          have:=wQ (dM c.k) c.x c.l 0 1 _ (List.getElem?_eq_getElem (by omega))
          rw [gP] at this ⊢
          exact this
         simp +contextual only [aY,bn,cl,gj,dR,b6,bV,b_,kY,xM,jd,b3,bY bM fu.ext,↓ab,ae,simprocAttr]
         refine aS (eg 0 _ u bM fm ra (acc++iJ fm c.a) w (List.getElem?_eq_getElem (by omega)) hu fu.ext NW fu.own z6 (by omega) (by simp only [List.length_append];omega)) ?_
         rintro x cT hB
         have lY:=fu.call hB
         obtain ⟨oJ,q0,_⟩:=box _ _ _ lY
         have Ip:cn g.next cT 1 iy fm.length (cd fm):=ch.mod hB.mod (fun b q=>(kh b q).2)
         have z':∀b,iy.bb b→iA.next≤cx b∧¬x.bb b:=fun b q=>⟨(kh b q).1,hB.off (ch.v.b5 q) (kh b q).2⟩
         obtain ⟨ix,fF,bt,b1,a3,a4,a5⟩:=ja (cs:=[.int .i64 c.x]) (by omega) Ip (by have:=hB.mod.next;have:=bo.next;omega) (by unfold top;omega) rfl rfl
         have j5:=lY.side a3 z' CW
         obtain ⟨zz,tc,_⟩:=box _ _ _ j5
         have sM:Ext cT (cT.new (.au [.int .i64 c.x] 0 false)):=(Ext.refl cT).new _
         have zy:(cT.new (.au [.int .i64 c.x] 0 false)).get (ao h.next)=.au [.int .i64 c.k,.int .i64 c.x,.int .i64 c.n,.str c.s,aX,a6,az] 0 false:=by rw [sM.get _ (dP q0)];exact oJ
         simp +contextual only [aY,bn,cl,kY,oJ,zy,zz,bt,cB,b7 cT lY.ext,b7 fF j5.ext,b7 _ (lY.ext.trans sM),↓ab,ae,simprocAttr]
         have vN:∀b,ix.bb b→¬x.bb b:=fun b q hg=>by
          rcases a5 b q with q | q
          · exact (z' b q).2 hg
          · have:cx b<cT.next:=lY.own.v.b5 hg
            omega
         refine aS (eg 1 _ lo fF (fm++[c.x]) ix (acc++iJ fm c.a++free c.l[0] fm) x (List.getElem?_eq_getElem (by omega)) fQ j5.ext (by rw [List.length_append,s8];exact b1.v) j5.own vN (by simp only [List.length_append,List.length_cons,List.length_nil];omega) (by simp only [List.length_append];omega)) ?_
         rintro y gY EJ
         have yX:=j5.call EJ
         obtain ⟨FC,H8,_⟩:=box _ _ _ yX
         have mM:Grown af h bj gY (acc++free c fm) y:=by
          have:=fin _ _ _ yX
          rw [Ab]
          simpa only [List.append_assoc] using this
         simp +contextual only [aY,bn,cl,kY,oJ,zy,zz,FC,cB,b7 cT lY.ext,b7 fF j5.ext,b7 _ (lY.ext.trans sM),↓ab,ae,simprocAttr]
         refine ⟨?_,mM⟩
         have:=b7 _ (lY.ext.trans sM)
         rw [eG] at this
         exact this
       have jd:=eq_false jg
       have gP:dM c.k=false:=by simp [dM,ak,jg]
       by_cases c6:c.k=7
       · have fE:=eq_true c6
         have nq:ownNames c.k c.x c.l=[c.x]:=by rw [ownNames,if_pos c6]
         have G1:=congrArg List.length nq
         simp only [List.length_cons,List.length_nil] at G1
         obtain ⟨ix,fF,bt,b1,a3,a4,a5⟩:=ja (cs:=[.int .i64 c.x]) (by omega) ch (by have:=bo.next;omega) (by unfold top;omega) rfl rfl
         have j5:=fu.side a3 kh CW
         have vN:∀b,ix.bb b→¬w.bb b:=fun b q hg=>by
          rcases a5 b q with q | q
          · exact (kh b q).2 hg
          · have:=OB b hg;have:=bo.next;omega
         simp +contextual only [aY,bn,cl,gj,dR,b6,bV,b_,kY,xM,jd,fE,bt,↓ab,ae,simprocAttr]
         refine loop fF (fm++[c.x]) ix _ w _ _ _ j5 (by rw [List.length_append,s8];exact b1.v) vN gP (by rw [nq]) rfl (by simp only [bn,↓ab,bf,simprocAttr]) (by simp only [cl,↓ab,bf,simprocAttr]) (by simp only [↓ab,bf,simprocAttr]) (by simp only [↓ab,bf,simprocAttr]) ?_
         intro eR aT bR mA b_
         simp +contextual only [b_,↓ab,ae,simprocAttr]
         exact fin _ _ _ mA
       have fE:=eq_false c6
       by_cases hH:c.k=8
       · have hG:=eq_true hH
         have nq:ownNames c.k c.x c.l=c.l.dropLast.map aU.n:=by rw [ownNames,if_neg c6,if_pos hH]
         have G1:=congrArg List.length nq
         rw [List.length_map,List.length_dropLast] at G1
         have e0:=bS hH
         have aR:IntKind.i64.wrap ((c.l.length:Int)-1)=((c.l.length-1:Nat):Int):=by rw [wrap_i64 (by omega) (by omega)];omega
         simp +contextual only [aY,bn,cl,gj,dR,b6,bV,b_,kY,xM,jd,fE,hG,↓ab,ae,simprocAttr]
         refine fV (fun r J=>r 2=w∧r 3=.ptr (ao h.next) 0∧∃(i:Nat) (iy:V),r 9=.int .i64 i∧i≤c.l.length-1∧r 8=iy∧Grown af iA bj J (acc++iJ fm c.a) w∧cn g.next J 1 iy (fm++(c.l.take i).map aU.n).length (cd (fm++(c.l.take i).map aU.n))∧g.next≤J.next∧∀b,iy.bb b→iA.next≤cx b∧¬w.bb b) (fun r J=>c.l.length - (r 9).gV) ?_ ?_
         · exact ⟨by simp only [bn,↓ab,bf,simprocAttr],by simp only [cl,↓ab,bf,simprocAttr],0,iy,by simp only [↓ab,bf,simprocAttr]<;>rfl,by omega,by simp only [↓ab,bf,simprocAttr],fu,by simpa using ch,bo.next,kh⟩
         · clear aY bn cl gj kh b_ ch cI ga
           rintro r gY ⟨bn,cl,i,iy,iI,aH,iH,fD,Qf,XL,kh⟩
           unfold L2
           obtain ⟨dR,DJ,_⟩:=box _ _ _ fD
           have b6:=(cJ.ext fD.ext).len
           by_cases a7:i<c.l.length-1
           · have bV:((i:Int) < ((c.l.length-1:Nat):Int))=True:=eq_true (by omega)
             have kJ:i<c.l.length:=by omega
             obtain ⟨b,o,u,b9,hu,jz⟩:=cJ.m9 (k:=.i64) kJ
             have dT:=(jz gY fD.ext).2
             have hs:=g4 kJ (by omega)
             have ma:(c.l.take (i+1)).map aU.n=(c.l.take i).map aU.n++[c.l[i].n]:=by rw [List.take_add_one,List.getElem?_eq_getElem kJ,List.map_append];rfl
             have qO:((c.l.take i).map aU.n).length=i:=by rw [List.length_map,List.length_take];omega
             generalize sS:c.l[i]=f at *
             obtain ⟨cX,gy,cw,rfl,rh,rj,po⟩:=hu.open
             have eI:=dT 2 (by omega)
             rw [show ([V.int .i64 f.k,.int .i64 f.x,.int .i64 f.n,.str f.s,cX,gy,cw])[2]? =some (.int .i64 f.n) from rfl] at eI
             obtain ⟨ix,fF,bt,b1,a3,a4,a5⟩:=ja (cs:=[.int .i64 f.n]) (by omega) Qf XL (by rw [List.length_append,qO];unfold top;omega) rfl rfl
             have j5:=fD.side a3 kh CW
             have vN:∀b,ix.bb b→iA.next≤cx b∧¬w.bb b:=fun b q=>by
              rcases a5 b q with q | q
              · exact kh b q
              · have:=fD.mod.next
                exact ⟨by omega,fun hg=>by have:cx b<gY.next:=fD.own.v.b5 hg;omega⟩
             simp +contextual only [bn,cl,iH,iI,dR,b6,aR,bV,b9,eI,bt,hs,↓ab,ae,simprocAttr]
             exact ⟨⟨i+1,ix,rfl,by omega,rfl,j5,by rw [ma,←List.append_assoc,s8 (fm++(c.l.take i).map aU.n),List.length_append];exact b1,by omega,vN⟩,by omega⟩
           · have bV:((i:Int) < ((c.l.length-1:Nat):Int))=False:=eq_false (by omega)
             obtain rfl:i=c.l.length-1:=by omega
             simp +contextual only [bn,cl,iH,iI,dR,b6,aR,bV,↓ab,ae,simprocAttr]
             refine loop gY _ iy _ w _ _ _ fD Qf.v (fun b q=>(kh b q).2) gP (by rw [nq,List.dropLast_eq_take]) rfl (by simp only [bn,↓ab,bf,simprocAttr]) (by simp only [cl,↓ab,bf,simprocAttr]) (by simp only [iH,↓ab,bf,simprocAttr]) (by simp only [↓ab,bf,simprocAttr]) ?_
             intro eR aT bR mA b_
             simp +contextual only [b_,↓ab,ae,simprocAttr]
             exact fin _ _ _ mA
       have hG:=eq_false hH
       have nq:ownNames c.k c.x c.l=[]:=by rw [ownNames,if_neg c6,if_neg hH]
       simp +contextual only [aY,bn,cl,gj,dR,b6,bV,b_,kY,xM,jd,fE,hG,↓ab,ae,simprocAttr]
       refine loop bM fm iy _ w _ _ _ fu ch.v (fun b q=>(kh b q).2) gP (by rw [nq,List.append_nil]) rfl (by simp only [bn,↓ab,bf,simprocAttr]) (by simp only [cl,↓ab,bf,simprocAttr]) (by simp only [↓ab,bf,simprocAttr]) (by simp only [↓ab,bf,simprocAttr]) ?_
       intro eR aT bR mA b_
       simp +contextual only [b_,↓ab,ae,simprocAttr]
       exact fin _ _ _ mA
def pF:List (Int × Int × Nat)→List jY
 | []=>[]
 | (x,v,n)::l=>⟨.int .i64 x,.int .i64 v,n⟩::pF l
def oM (k:Int):List (Int × Int × Nat)→Bool
 | []=>false
 | (x,_,_)::l=>decide (k=x)||oM k l
def mJ (k:Int):List (Int × Int × Nat)→Int
 | []=>0
 | (x,v,_)::l=>if k=x then v else mJ k l
def ua (k v:Int) (c:Nat):List (Int × Int × Nat)→List (Int × Int × Nat)
 | []=>[(k,v,c)]
 | (x,w,n)::l=>if k=x then (x,v,n)::l else (x,w,n)::ua k v c l
theorem MP {k:Int}:∀{l:List (Int × Int × Nat)},oM k l=false→mJ k l=0
 | [],_=>rfl
 | (x,v,n)::l,h=>by
   simp only [oM,Bool.or_eq_false_iff,decide_eq_false_iff_not] at h
   simp only [mJ,if_neg h.1,MP h.2]
theorem MQ (k v:Int) (c:Nat) (cb:Int):∀l:List (Int × Int × Nat),mJ cb (ua k v c l)=if cb=k then v else mJ cb l
 | []=>by simp only [ua,mJ]
 | (x,w,n)::l=>by
   have bJ:=MQ k v c cb l
   by_cases h:k=x
   · subst h
     rw [ua,if_pos rfl,mJ,mJ]
     split<;>simp_all
   · simp only [ua,if_neg h,mJ,bJ]
     by_cases J:cb=x
     · have:¬cb=k:=by omega
       simp only [if_pos J,if_neg this]
     · simp only [if_neg J]
theorem Nt {k:Int}:∀(l:List (Int × Int × Nat)),nf fH.int.eq (.int .i64 k) (pF l)=some (if oM k l then some (.int .i64 (mJ k l)) else none)
 | []=>rfl
 | (x,v,n)::l=>by
   have bJ:=Nt (k:=k) l
   by_cases h:k=x
   · subst h
     rw [show oM k ((k,v,n)::l)=true from by simp [oM],if_pos rfl,show mJ k ((k,v,n)::l)=v from by simp [mJ]]
     simp only [pF,nf,fH.eq,oN,V.eX,show nO .i64 .i64=true from rfl,cond_true,pE]
     simp
   · rw [show oM k ((x,v,n)::l)=oM k l from by simp [oM,h],show mJ k ((x,v,n)::l)=mJ k l from by simp [mJ,h],←bJ]
     simp only [pF,nf,fH.eq,oN,V.eX,show nO .i64 .i64=true from rfl,cond_true,pE]
     rw [decide_eq_false h,cond_false]
theorem Qa {k v:Int} {c:Nat}:∀(l:List (Int × Int × Nat)),mj fH.int.eq (.int .i64 k) (.int .i64 v) c (pF l)=some (pF (ua k v c l),!oM k l)
 | []=>rfl
 | (x,w,n)::l=>by
   have bJ:=Qa (k:=k) (v:=v) (c:=c) l
   simp only [pF,oM,ua,mj,fH.eq,oN,V.eX,show nO .i64 .i64=true from rfl,cond_true,pE] at bJ ⊢
   by_cases h:k=x
   · subst h;simp [pF]
   · rw [decide_eq_false h,if_neg h,cond_false,bJ]
     simp [pF]
def rf (h:ai) (b:aV) (f:Int→Int):Prop:=∃L c,h.get b=.mp (pF L) c∧∀k,mJ k L=f k
theorem rf.look {h:ai} {b:aV} {f:Int→Int} (H:rf h b f) (k:Int):lb fH.int.eq (.int .i64 0) false h (.map b) (.int .i64 k)=some (.int .i64 (f k)):=by
 obtain ⟨L,c,ad,ak⟩:=H
 simp only [lb,r1,ad,cL.o6,Nt,cond_false,←ak k]
 cases e:oM k L with
 | true=>rfl
 | false=>rw [MP e];rfl
theorem rf.fc {h:ai} {b:aV} {f:Int→Int} (H:rf h b f) (k v:Int):∃B,lp fH.int.eq h (.map b) (.int .i64 k) (.int .i64 v)=some (h.set b B)∧rf (h.set b B) b (fun n=>if n=k then v else f n):=by
 obtain ⟨L,c,ad,ak⟩:=H
 refine ⟨.mp (pF (ua k v c L)) (bif !oM k L then c+1 else c),by simp only [lp,ad,cL.o6,Qa],_,_,by rw [dB,if_pos rfl],fun n=>?_⟩
 rw [MQ,ak]
theorem rf.mod {h J:ai} {b:aV} {f g:Int→Int} (H:rf h b f) (e:J.get b=h.get b) (ar:∀n,f n=g n):rf J b g:=by
 obtain ⟨L,c,ad,ak⟩:=H
 exact ⟨L,c,e.trans ad,fun k=>(ak k).trans (ar k)⟩
theorem Qc {k:Int} {c:Nat}:∀(l:List Int) (n:Nat),l.contains k=true→mj fH.int.eq (.int .i64 k) (.bool true) c (hx l n)=some (hx l n,false)
 | [],_,h=>by simp at h
 | x::l,n,h=>by
   have bJ:=Qc (k:=k) (c:=c) l (n+1)
   simp only [hx,mj,fH.eq,oN,V.eX,show nO .i64 .i64=true from rfl,cond_true,pE] at bJ ⊢
   by_cases ax:k=x
   · subst ax;simp
   · rw [decide_eq_false ax,cond_false,bJ (by simpa [ax] using h)]
def oF (l:List Int) (k:Int):List Int:=if l.contains k then l else l++[k]
theorem ace {l:List Int} {k z:Int}:z ∈ oF l k↔z ∈ l∨z=k:=by
 unfold oF
 split
 · rename_i h
   rw [List.contains_iff_mem] at h
   constructor
   · exact .inl
   · rintro (q | rfl)
     · exact q
     · exact h
 · simp
theorem SI {l:List Int} {k:Int} (h:l.Nodup):(oF l k).Nodup:=by
 unfold oF
 split
 · exact h
 · rename_i al
   have dJ:k ∉ l:=by simpa using al
   rw [List.nodup_append]
   exact ⟨h,by simp,fun a bT b af=>by simp only [List.mem_singleton] at af;subst af;exact fun e=>dJ (e ▸ bT)⟩
theorem ago {h:ai} {b:aV} {l:List Int} (bl:h.get b=.mp (hx l 0) l.length) (k:Int):lp fH.int.eq h (.map b) (.int .i64 k) (.bool true)=some (h.set b (.mp (hx (oF l k) 0) (oF l k).length)):=by
 cases al:l.contains k with
 | false=>rw [I7 bl al,oF,if_neg (by rw [al];simp)]
 | true=>
   simp only [lp,bl,cL.o6,Qc l 0 al,cond_false]
   rw [oF,if_pos al]
end Go.Proofs.YtjbiefneffiogaaGreat
