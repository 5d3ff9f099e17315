/- The chapter's functions, walked by the abstract machine: plain lemmas, no condition. Printed by a program from longer texts: names made short. -/
import Derived.Test.YthemdhlheglhoaaGreatDoorM10
import Derived.Test.YthemdhlheglhoaaGreatDoorM14
import Derived.Test.YthemdhlheglhoaaGreatDoorM8
import Derived.Test.YthemdhlheglhoaaGreatDoorM15
import Derived.Test.YthemdhlheglhoaaGreatDoorM5
import Derived.Test.YthemdhlheglhoaaGreatDoorM4
import Derived.Lay
import Derived.LaidLaws
import Derived.PinnedBridge
import Derived.Lib.LaidU8T
import Derived.Shelf.Vars
import Derived.MakeChecks
set_option linter.unusedSectionVars false
set_option linter.unusedSimpArgs false
set_option linter.unusedVariables false
namespace Go.Proofs.YthemdhlheglhoaaGreatDoor
open Go aY
theorem Et:Tryz.prog.cellsOf 35=4:=by kernel_rfl
theorem T8:Tryz.prog.cellsOf 22=1:=by kernel_rfl
theorem T9:Tryz.prog.cellsOf 9=1:=by kernel_rfl
theorem cells3:Tryz.prog.cellsOf 3=1:=by kernel_rfl
theorem Oc:∀l:List aB,eH l=(l.map aB.size).sum
 | []=>rfl
 | t::l=>by rw [eH,List.map_cons,List.sum_cons,Oc l]
set_option maxRecDepth 10000 in
theorem BX:∀(n:Nat) {m:Nat} {h:af} {ad:List V},dB Tryz.prog h n m 35 ad→m≤1048576→∃t:aB,b5 Any h t.enc ad∧ad.length=4∧t.size≤m
 | 0,m,h,ad,H,_=>H.elim
 | n+1,m,h,ad,H,hm=>by
   obtain ⟨im,e,ao,ms,aa,ae,aH⟩:=H.struct Tryz.underlying35
   obtain rfl:n=im:=by omega
   rw [Et] at ao
   match ad,ao with
   | [v0,v1,v3,v4],_=>
     have jo:ms.length=4:=aa
     clear aa
     match ms,jo with
     | [m0,m1,m3,m4],_=>
       have f0:=(aH 0 _ _ rfl rfl).2
       have f1:=(aH 1 _ _ rfl rfl).2
       have f3:=(aH 2 _ _ rfl rfl).2
       have f4:=(aH 3 _ _ rfl rfl).2
       simp only [cells3,T9,T8] at f0 f1 f3 f4
       obtain ⟨i0,cR,_⟩:=f0.int Tryz.underlying3
       obtain ⟨i1,aP,_⟩:=f1.int Tryz.underlying3
       obtain ⟨kQ,bW,hZ⟩:=f3.str Tryz.underlying9
       obtain ⟨ha,jd,GG,fB,eu,rK⟩:=f4.slice Tryz.underlying22 (by rw [Et];decide)
       simp only [List.drop_zero,List.drop_succ_cons,List.take_succ_cons,List.take_zero,List.cons.injEq,and_true] at cR aP bW eu
       subst cR aP bW eu
       simp only [List.sum_cons,List.sum_nil] at ae
       rw [Et] at rK
       obtain rfl:n=ha+1:=fB
       obtain ⟨l,_,aO,L⟩:=acr aB.enc aB.size rK (by omega) fun k ad ay q=>BX ha q (by omega)
       refine ⟨.mk i0 i1 kQ l,?_,rfl,?_⟩
       · rw [wF]
         exact .i (.i (.s (by show kQ.length≤top;unfold top;omega) (L.cons .nil)))
       · rw [aB.size,Oc];omega
end Go.Proofs.YthemdhlheglhoaaGreatDoor
namespace Go.Proofs.YthemdhlheglhoaaGreatDoor
open Go aY Go.RowKit
set_option maxRecDepth 100000 in
theorem RP:Il ctx 100000 11 []=true:=by kernel_rfl
theorem RN (h:af):gp Tryz.prog 11 [] h (.bool true) h:=
 Us (by kernel_rfl) (fun E x q=>by subst q;simp [Rel]) ⟨_,Tryz.func11,by kernel_rfl⟩ (fun w hw=>aeO (C:=ctx) follows eQ hw acY (by kernel_rfl) (by kernel_rfl) RP) h
theorem RO (h:af):b_ Tryz.prog 11 [] h fun x ab=>x=.bool true∧ab=h:=⟨_,_,RN h,rfl,rfl⟩
end Go.Proofs.YthemdhlheglhoaaGreatDoor
namespace Go.Proofs.YthemdhlheglhoaaGreatDoor
open Go aY
theorem ff [Lay] {p:aB} {w:V} {h:af} {S:aN→Prop} (W:fr h S p.l w) (aO:p.s.length≤top):b5 Any h p.enc (cJ p w):=by
 rw [wF]
 exact .i (.i (.s aO ((W.hf fun _ _=>trivial).cons .nil)))
theorem abb [Lay] {F:aN→Prop} {h:af} {size:Nat} {d1 d2 d3:List D} {bL b0 c3:List V} (cm:bL.length=size) (z2:b0.length=size) (z3:c3.length=size) (H1:b5 F h d1 bL) (cG:b5 F h d2 b0) (CQ:b5 F h d3 c3) (jS:F (ai h.next)):∃g,h.new (.bg (bL++(b0++c3)) 0 false)=g∧Ext h g∧eg F g size [d1,d2,d3] (.slice (ai h.next) 0 3 3):=by
 have:=M0 (F:=F) (h:=h) (size:=size) [d1,d2,d3] [bL,b0,c3] rfl (fun c q=>by
  simp only [List.mem_cons,List.not_mem_nil,or_false] at q
  rcases q with rfl | rfl | rfl
  · exact cm
  · exact z2
  · exact z3) (fun i e u a b=>by
  match i with
  | 0=>simp only [List.getElem?_cons_zero,Option.some.injEq] at a b;subst a b;exact H1
  | 1=>simp only [List.getElem?_cons_succ,List.getElem?_cons_zero,Option.some.injEq] at a b;subst a b;exact cG
  | 2=>simp only [List.getElem?_cons_succ,List.getElem?_cons_zero,Option.some.injEq] at a b;subst a b;exact CQ
  | i+3=>simp at a) jS (by show _≤top;unfold top;simp)
 simpa using this
set_option maxHeartbeats 32000000 in
theorem acB (a b c:aB) (bd:a.size≤1048576) (ah:b.size≤1048576) (aD:c.size≤1048576) (PV PY wW:List V) (h:af) (IT:b5 Any h a.enc PV) (IU:b5 Any h b.enc PY) (IV:b5 Any h c.enc wW):
 b_ Tryz.prog 6 [.agg PV,.agg PY,.agg wW] h fun x _=>x=.bool true:=by
 have dQ:=IT
 have ir:=IU
 have CS:=IV
 obtain ⟨ud,rfl,Qt,_⟩:=aB.open IT
 obtain ⟨iS,rfl,Qu,_⟩:=aB.open IU
 obtain ⟨lc,rfl,Qv,_⟩:=aB.open IV
 have bo:=Qt.one
 have bk:=Qu.one
 have bn:=Qv.one
 refine TL rfl (eA ?_)
 unfold Eg
 obtain ⟨aa,au,aP,cw⟩:=gY h (cJ a ud)
 obtain ⟨ae,az,bl,dd⟩:=gY aa (cJ b iS)
 obtain ⟨aH,aM,bW,IC⟩:=gY ae (cJ c lc)
 have IA:=(cw.ext bl).ext bW
 have gl:=dd.ext bW
 have gA:=(aP.trans bl).trans bW
 simp +contextual only [bo.1,bo.2.1,bk.1,bk.2.1,bn.1,bn.2.1,au,az,aM,↓aA,aI,simprocAttr]
 refine bM (RO _) ?_
 rintro x bf ⟨rfl,rfl⟩
 obtain ⟨g1,eR,bx,QN⟩:=abb (F:=Any) (size:=4) (bL:=cJ a ud) (b0:=cJ b iS) (c3:=cJ c lc) rfl rfl rfl (dQ.ext gA) (ir.ext gA) (CS.ext gA) trivial
 have afu:bf.new (.bg [.int .i64 a.k,.int .i64 a.n,.str a.s,ud,.int .i64 b.k,.int .i64 b.n,.str b.s,iS,.int .i64 c.k,.int .i64 c.n,.str c.s,lc] 0 false)=g1:=eR
 simp +contextual only [bo.1,bo.2.1,bk.1,bk.2.1,bn.1,bn.2.1,IA.g,gl.g,IC.g,afu,↓aA,aI,simprocAttr]
 refine bM (aaG [a,b,c] 200 _ g1 QN) ?_
 rintro x g1 ⟨⟨DD,rfl⟩,rfl⟩
 have cw:=IA.ext bx
 have jH:=gl.ext bx
 have jI:=IC.ext bx
 have eX:=gA.trans bx
 cases DD with
 | true=>simp +contextual only [↓aA,aI,simprocAttr]
 | false=>
 simp +contextual only [bo.1,bo.2.1,bk.1,bk.2.1,bn.1,bn.2.1,cw.g,jH.g,jI.g,decide_true,decide_false,↓aA,aI,simprocAttr]
 refine bM (s9 a (by omega) _ g1 (dQ.ext eX)) ?_
 rintro x g2 ⟨rfl,c1⟩
 have cf:=cw.ext c1
 have dd:=jH.ext c1
 have hG:=jI.ext c1
 have b9:=eX.trans c1
 by_cases mh:¬a.check=0
 · have qP:∀u,kj a u=false:=fun u=>by unfold kj;rw [decide_eq_false mh];simp
   have cp:=eq_false mh
   have na:=qP b
   simp +contextual only [bo.1,bo.2.1,bk.1,bk.2.1,bn.1,bn.2.1,cw.g,jH.g,jI.g,cf.g,dd.g,hG.g,cp,decide_true,decide_false,↓aA,aI,simprocAttr]
   refine bM (iV a a (by omega) (by omega) _ _ g2 (dQ.ext b9) (dQ.ext b9)) ?_
   rintro x g3 ⟨rfl,iE⟩
   rw [qP]
   have dt:=cf.ext iE
   have eT:=dd.ext iE
   have gM:=hG.ext iE
   have fT:=b9.trans iE
   simp +contextual only [bo.1,bo.2.1,bk.1,bk.2.1,bn.1,bn.2.1,cw.g,jH.g,jI.g,cf.g,dd.g,hG.g,dt.g,eT.g,gM.g,cp,decide_true,decide_false,↓aA,aI,simprocAttr]
   refine bM (iV a b (by omega) (by omega) _ _ g3 (dQ.ext fT) (ir.ext fT)) ?_
   rintro x g4 ⟨rfl,lA⟩
   rw [na]
   have eS:=dt.ext lA
   have eU:=eT.ext lA
   have fS:=gM.ext lA
   have jJ:=fT.trans lA
   simp +contextual only [bo.1,bo.2.1,bk.1,bk.2.1,bn.1,bn.2.1,cw.g,jH.g,jI.g,cf.g,dd.g,hG.g,dt.g,eT.g,gM.g,eS.g,eU.g,fS.g,cp,decide_true,decide_false,↓aA,aI,simprocAttr]
   refine bM (iV a b (by omega) (by omega) _ _ g4 (dQ.ext jJ) (ir.ext jJ)) ?_
   rintro x g5 ⟨rfl,iF⟩
   rw [na]
   have eL:=eS.ext iF
   have eV:=eU.ext iF
   have e':=fS.ext iF
   have ji:=jJ.trans iF
   obtain ⟨g6,y6,ib,Dh⟩:=wk (F:=Any) (size:=5) (ds:=qD (0,b)) (cs:=.int .i64 0::cJ b iS) rfl (.i (ir.ext ji)) trivial
   have eb:=eL.ext ib
   have ed:=eV.ext ib
   have ef:=e'.ext ib
   have jj:=ji.trans ib
   simp +contextual only [bo.1,bo.2.1,bk.1,bk.2.1,bn.1,bn.2.1,cw.g,jH.g,jI.g,cf.g,dd.g,hG.g,dt.g,eT.g,gM.g,eS.g,eU.g,fS.g,eL.g,eV.g,e'.g,eb.g,ed.g,ef.g,cp,y6,decide_true,decide_false,↓aA,aI,simprocAttr]
   refine bM (u3 [(0,b)] (fun p ag=>by rw [List.mem_singleton] at ag;subst ag;show b.size≤_;omega) a (by omega) _ _ g6 Dh (dQ.ext jj)) ?_
   rintro x g7 ⟨⟨w,rfl,W,nW⟩,gV⟩
   have dK:=eb.ext gV
   have dE:=ed.ext gV
   have dS:=ef.ext gV
   have hv:=jj.trans gV
   have bz:=W.one
   have hz:hy [(0,b)] a=(jF,2):=by unfold hy;rw [if_neg (fun q=>mh q.2)]
   rw [hz] at W nW ⊢
   simp only at W nW ⊢
   obtain ⟨g8,gW,gK,mL⟩:=gD g7 z4 (cJ jF w)
   have dy:=dK.ext gK
   have dz:=dE.ext gK
   have dA:=dS.ext gK
   have hU:=hv.trans gK
   have afw:(g7.new (.bg z4 0 false)).set (ai g7.next) (.bg [.int .i64 jF.k,.int .i64 jF.n,.str jF.s,w] 0 false)=g8:=gW
   simp +contextual only [bo.1,bo.2.1,bk.1,bk.2.1,bn.1,bn.2.1,cf.g,dd.g,hG.g,dt.g,eT.g,gM.g,eS.g,eU.g,fS.g,eL.g,eV.g,e'.g,eb.g,ed.g,ef.g,dK.g,dE.g,dS.g,dy.g,dz.g,dA.g,cp,y6,gW,bz.1,bz.2.1,mL.g,show ((2:Int)=0)=False from by simp,afw,decide_true,decide_false,↓aA,aI,simprocAttr]
 have mh:a.check=0:=by simpa using mh
 have cp:=eq_true mh
 have Wx:kj a a=true:=by rw [abw,decide_eq_true mh]
 have kh:(cS (cS a)).same (cS a)=true:=(wN _ _).2 (adv mh)
 have pU:(cS a).size≤900000000:=by have:=(kB (OM mh)).2.1;omega
 have tR:(hy [(0,b)] a).1.size≤900000000:=by unfold hy;split;(split;(rename_i z;have:=z.1;simp only;omega);simp [jF,aB.size,eH]);simp [jF,aB.size,eH]
 simp +contextual only [bo.1,bo.2.1,bk.1,bk.2.1,bn.1,bn.2.1,cw.g,jH.g,jI.g,cf.g,dd.g,hG.g,cp,decide_true,decide_false,↓aA,aI,simprocAttr]
 refine bM (iV a a (by omega) (by omega) _ _ g2 (dQ.ext b9) (dQ.ext b9)) ?_
 rintro x g3 ⟨rfl,iE⟩
 rw [Wx]
 have dt:=cf.ext iE
 have eT:=dd.ext iE
 have gM:=hG.ext iE
 have fT:=b9.trans iE
 simp +contextual only [bo.1,bo.2.1,bk.1,bk.2.1,bn.1,bn.2.1,cw.g,jH.g,jI.g,cf.g,dd.g,hG.g,dt.g,eT.g,gM.g,cp,decide_true,decide_false,↓aA,aI,simprocAttr]
 refine bM (iV a b (by omega) (by omega) _ _ g3 (dQ.ext fT) (ir.ext fT)) ?_
 rintro x g4 ⟨rfl,lA⟩
 have eS:=dt.ext lA
 have eU:=eT.ext lA
 have fS:=gM.ext lA
 have jJ:=fT.trans lA
 cases na:kj a b with
 | false=>
   simp +contextual only [bo.1,bo.2.1,bk.1,bk.2.1,bn.1,bn.2.1,cw.g,jH.g,jI.g,cf.g,dd.g,hG.g,dt.g,eT.g,gM.g,eS.g,eU.g,fS.g,cp,decide_true,decide_false,↓aA,aI,simprocAttr]
   refine bM (iV a b (by omega) (by omega) _ _ g4 (dQ.ext jJ) (ir.ext jJ)) ?_
   rintro x g5 ⟨rfl,iF⟩
   rw [na]
   have eL:=eS.ext iF
   have eV:=eU.ext iF
   have e':=fS.ext iF
   have ji:=jJ.trans iF
   obtain ⟨g6,y6,ib,Dh⟩:=wk (F:=Any) (size:=5) (ds:=qD (0,b)) (cs:=.int .i64 0::cJ b iS) rfl (.i (ir.ext ji)) trivial
   have eb:=eL.ext ib
   have ed:=eV.ext ib
   have ef:=e'.ext ib
   have jj:=ji.trans ib
   simp +contextual only [bo.1,bo.2.1,bk.1,bk.2.1,bn.1,bn.2.1,cw.g,jH.g,jI.g,cf.g,dd.g,hG.g,dt.g,eT.g,gM.g,eS.g,eU.g,fS.g,eL.g,eV.g,e'.g,eb.g,ed.g,ef.g,cp,y6,decide_true,decide_false,↓aA,aI,simprocAttr]
   refine bM (u3 [(0,b)] (fun p ag=>by rw [List.mem_singleton] at ag;subst ag;show b.size≤_;omega) a (by omega) _ _ g6 Dh (dQ.ext jj)) ?_
   rintro x g7 ⟨⟨w,rfl,W,nW⟩,gV⟩
   have dK:=eb.ext gV
   have dE:=ed.ext gV
   have dS:=ef.ext gV
   have hv:=jj.trans gV
   have bz:=W.one
   have hz:=@yF a b
   generalize hy [(0,b)] a=q9 at *
   obtain ⟨p,ρ⟩:=q9
   simp only at *
   obtain ⟨g8,gW,gK,mL⟩:=gD g7 z4 (cJ p w)
   have dy:=dK.ext gK
   have dz:=dE.ext gK
   have dA:=dS.ext gK
   have hU:=hv.trans gK
   by_cases c5:ρ=0
   · subst c5
     simp +contextual only [bo.1,bo.2.1,bk.1,bk.2.1,bn.1,bn.2.1,cf.g,dd.g,hG.g,dt.g,eT.g,gM.g,eS.g,eU.g,fS.g,eL.g,eV.g,e'.g,eb.g,ed.g,ef.g,dK.g,dE.g,dS.g,dy.g,dz.g,dA.g,cp,y6,gW,bz.1,bz.2.1,mL.g,show ((0:Int)=0)=True from by simp,decide_true,decide_false,↓aA,aI,simprocAttr]
     refine bM (iV a p (by omega) tR _ _ g8 (dQ.ext hU) (ff (W.ext gK) nW)) ?_
     rintro x g9 ⟨rfl,gL⟩
     rw [hz rfl]
     have du:=dy.ext gL
     have db:=dz.ext gL
     have dv:=dA.ext gL
     have hV:=hU.trans gL
     simp +contextual only [bo.1,bo.2.1,bk.1,bk.2.1,bn.1,bn.2.1,dt.g,eT.g,gM.g,eS.g,eU.g,fS.g,eL.g,eV.g,e'.g,eb.g,ed.g,ef.g,dK.g,dE.g,dS.g,dy.g,dz.g,dA.g,du.g,db.g,dv.g,cp,y6,gW,bz.1,bz.2.1,mL.g,show ((0:Int)=0)=True from by simp,decide_true,decide_false,↓aA,aI,simprocAttr]
     refine bM (fQ a (by omega) _ g9 (dQ.ext hV)) ?_
     rintro x g10 ⟨⟨bT,rfl,gO,hO⟩,gy⟩
     have dm:=du.ext gy
     have dn:=db.ext gy
     have dp:=dv.ext gy
     have kU:=hV.trans gy
     have bC:=gO.one
     simp +contextual only [bo.1,bo.2.1,bk.1,bk.2.1,bn.1,bn.2.1,eS.g,eU.g,fS.g,eL.g,eV.g,e'.g,eb.g,ed.g,ef.g,dK.g,dE.g,dS.g,dy.g,dz.g,dA.g,du.g,db.g,dv.g,dm.g,dn.g,dp.g,cp,y6,gW,bz.1,bz.2.1,mL.g,show ((0:Int)=0)=True from by simp,bC.1,bC.2.1,decide_true,decide_false,↓aA,aI,simprocAttr]
     refine bM (fQ (cS a) pU _ g10 (ff gO hO)) ?_
     rintro x g11 ⟨⟨bP,rfl,fM,jY⟩,fD⟩
     have di:=dm.ext fD
     have dj:=dn.ext fD
     have dk:=dp.ext fD
     have jh:=kU.trans fD
     have bR:=fM.one
     simp +contextual only [bo.1,bo.2.1,bk.1,bk.2.1,bn.1,bn.2.1,eL.g,eV.g,e'.g,eb.g,ed.g,ef.g,dK.g,dE.g,dS.g,dy.g,dz.g,dA.g,du.g,db.g,dv.g,dm.g,dn.g,dp.g,di.g,dj.g,dk.g,cp,y6,gW,bz.1,bz.2.1,mL.g,show ((0:Int)=0)=True from by simp,bC.1,bC.2.1,bR.1,bR.2.1,decide_true,decide_false,↓aA,aI,simprocAttr]
     refine bM (fQ a (by omega) _ g11 (dQ.ext jh)) ?_
     rintro x g12 ⟨⟨iD,rfl,gq,jZ⟩,dW⟩
     have dC:=di.ext dW
     have dD:=dj.ext dW
     have dF:=dk.ext dW
     have kt:=jh.trans dW
     have dX:=gq.one
     simp +contextual only [bo.1,bo.2.1,bk.1,bk.2.1,bn.1,bn.2.1,eb.g,ed.g,ef.g,dK.g,dE.g,dS.g,dy.g,dz.g,dA.g,du.g,db.g,dv.g,dm.g,dn.g,dp.g,di.g,dj.g,dk.g,dC.g,dD.g,dF.g,cp,y6,gW,bz.1,bz.2.1,mL.g,show ((0:Int)=0)=True from by simp,bC.1,bC.2.1,bR.1,bR.2.1,dX.1,dX.2.1,decide_true,decide_false,↓aA,aI,simprocAttr]
     refine bM (nx (cS (cS a)) (cS a) _ _ g12 ((ff fM jY).ext dW) (ff gq jZ)) ?_
     rintro x g13 ⟨rfl,fE⟩
     rw [kh]
     have ea:=dC.ext fE
     have ec:=dD.ext fE
     have ee:=dF.ext fE
     have ku:=kt.trans fE
     simp +contextual only [bo.1,bo.2.1,bk.1,bk.2.1,bn.1,bn.2.1,dK.g,dE.g,dS.g,dy.g,dz.g,dA.g,du.g,db.g,dv.g,dm.g,dn.g,dp.g,di.g,dj.g,dk.g,dC.g,dD.g,dF.g,ea.g,ec.g,ee.g,cp,y6,gW,bz.1,bz.2.1,mL.g,show ((0:Int)=0)=True from by simp,bC.1,bC.2.1,bR.1,bR.2.1,dX.1,dX.2.1,decide_true,decide_false,↓aA,aI,simprocAttr]
   · have gP:=eq_false c5
     simp +contextual only [bo.1,bo.2.1,bk.1,bk.2.1,bn.1,bn.2.1,cf.g,dd.g,hG.g,dt.g,eT.g,gM.g,eS.g,eU.g,fS.g,eL.g,eV.g,e'.g,eb.g,ed.g,ef.g,dK.g,dE.g,dS.g,dy.g,dz.g,dA.g,cp,y6,gW,bz.1,bz.2.1,mL.g,gP,decide_true,decide_false,↓aA,aI,simprocAttr]
     refine bM (fQ a (by omega) _ g8 (dQ.ext hU)) ?_
     rintro x g9 ⟨⟨bT,rfl,gO,hO⟩,gL⟩
     have du:=dy.ext gL
     have db:=dz.ext gL
     have dv:=dA.ext gL
     have hV:=hU.trans gL
     have bC:=gO.one
     simp +contextual only [bo.1,bo.2.1,bk.1,bk.2.1,bn.1,bn.2.1,dt.g,eT.g,gM.g,eS.g,eU.g,fS.g,eL.g,eV.g,e'.g,eb.g,ed.g,ef.g,dK.g,dE.g,dS.g,dy.g,dz.g,dA.g,du.g,db.g,dv.g,cp,y6,gW,bz.1,bz.2.1,mL.g,gP,bC.1,bC.2.1,decide_true,decide_false,↓aA,aI,simprocAttr]
     refine bM (fQ (cS a) pU _ g9 (ff gO hO)) ?_
     rintro x g10 ⟨⟨bP,rfl,fM,jY⟩,gy⟩
     have dm:=du.ext gy
     have dn:=db.ext gy
     have dp:=dv.ext gy
     have kU:=hV.trans gy
     have bR:=fM.one
     simp +contextual only [bo.1,bo.2.1,bk.1,bk.2.1,bn.1,bn.2.1,eS.g,eU.g,fS.g,eL.g,eV.g,e'.g,eb.g,ed.g,ef.g,dK.g,dE.g,dS.g,dy.g,dz.g,dA.g,du.g,db.g,dv.g,dm.g,dn.g,dp.g,cp,y6,gW,bz.1,bz.2.1,mL.g,gP,bC.1,bC.2.1,bR.1,bR.2.1,decide_true,decide_false,↓aA,aI,simprocAttr]
     refine bM (fQ a (by omega) _ g10 (dQ.ext kU)) ?_
     rintro x g11 ⟨⟨iD,rfl,gq,jZ⟩,fD⟩
     have di:=dm.ext fD
     have dj:=dn.ext fD
     have dk:=dp.ext fD
     have jh:=kU.trans fD
     have dX:=gq.one
     simp +contextual only [bo.1,bo.2.1,bk.1,bk.2.1,bn.1,bn.2.1,eL.g,eV.g,e'.g,eb.g,ed.g,ef.g,dK.g,dE.g,dS.g,dy.g,dz.g,dA.g,du.g,db.g,dv.g,dm.g,dn.g,dp.g,di.g,dj.g,dk.g,cp,y6,gW,bz.1,bz.2.1,mL.g,gP,bC.1,bC.2.1,bR.1,bR.2.1,dX.1,dX.2.1,decide_true,decide_false,↓aA,aI,simprocAttr]
     refine bM (nx (cS (cS a)) (cS a) _ _ g11 ((ff fM jY).ext fD) (ff gq jZ)) ?_
     rintro x g12 ⟨rfl,dW⟩
     rw [kh]
     have dC:=di.ext dW
     have dD:=dj.ext dW
     have dF:=dk.ext dW
     have kt:=jh.trans dW
     simp +contextual only [bo.1,bo.2.1,bk.1,bk.2.1,bn.1,bn.2.1,eb.g,ed.g,ef.g,dK.g,dE.g,dS.g,dy.g,dz.g,dA.g,du.g,db.g,dv.g,dm.g,dn.g,dp.g,di.g,dj.g,dk.g,dC.g,dD.g,dF.g,cp,y6,gW,bz.1,bz.2.1,mL.g,gP,bC.1,bC.2.1,bR.1,bR.2.1,dX.1,dX.2.1,decide_true,decide_false,↓aA,aI,simprocAttr]
 | true=>
   simp +contextual only [bo.1,bo.2.1,bk.1,bk.2.1,bn.1,bn.2.1,cw.g,jH.g,jI.g,cf.g,dd.g,hG.g,dt.g,eT.g,gM.g,eS.g,eU.g,fS.g,cp,decide_true,decide_false,↓aA,aI,simprocAttr]
   refine bM (iV b c (by omega) (by omega) _ _ g4 (ir.ext jJ) (CS.ext jJ)) ?_
   rintro x g5 ⟨rfl,iF⟩
   have eL:=eS.ext iF
   have eV:=eU.ext iF
   have e':=fS.ext iF
   have ji:=jJ.trans iF
   cases pI:kj b c with
   | false=>
     simp +contextual only [bo.1,bo.2.1,bk.1,bk.2.1,bn.1,bn.2.1,cw.g,jH.g,jI.g,cf.g,dd.g,hG.g,dt.g,eT.g,gM.g,eS.g,eU.g,fS.g,eL.g,eV.g,e'.g,cp,decide_true,decide_false,↓aA,aI,simprocAttr]
     cases tt:kj b a with
     | false=>
       refine bM (iV a b (by omega) (by omega) _ _ g5 (dQ.ext ji) (ir.ext ji)) ?_
       rintro x g6 ⟨rfl,ib⟩
       rw [na]
       have eb:=eL.ext ib
       have ed:=eV.ext ib
       have ef:=e'.ext ib
       have jj:=ji.trans ib
       simp +contextual only [bo.1,bo.2.1,bk.1,bk.2.1,bn.1,bn.2.1,cw.g,jH.g,jI.g,cf.g,dd.g,hG.g,dt.g,eT.g,gM.g,eS.g,eU.g,fS.g,eL.g,eV.g,e'.g,eb.g,ed.g,ef.g,cp,decide_true,decide_false,↓aA,aI,simprocAttr]
       refine bM (iV b a (by omega) (by omega) _ _ g6 (ir.ext jj) (dQ.ext jj)) ?_
       rintro x g7 ⟨rfl,gV⟩
       rw [tt]
       have dK:=eb.ext gV
       have dE:=ed.ext gV
       have dS:=ef.ext gV
       have hv:=jj.trans gV
       obtain ⟨g8,gW,gK,QS⟩:=wk (F:=Any) (size:=5) (ds:=qD (0,b)) (cs:=.int .i64 0::cJ b iS) rfl (.i (ir.ext hv)) trivial
       have dy:=dK.ext gK
       have dz:=dE.ext gK
       have dA:=dS.ext gK
       have hU:=hv.trans gK
       simp +contextual only [bo.1,bo.2.1,bk.1,bk.2.1,bn.1,bn.2.1,cf.g,dd.g,hG.g,dt.g,eT.g,gM.g,eS.g,eU.g,fS.g,eL.g,eV.g,e'.g,eb.g,ed.g,ef.g,dK.g,dE.g,dS.g,dy.g,dz.g,dA.g,cp,gW,decide_true,decide_false,↓aA,aI,simprocAttr]
       refine bM (u3 [(0,b)] (fun p ag=>by rw [List.mem_singleton] at ag;subst ag;show b.size≤_;omega) a (by omega) _ _ g8 QS (dQ.ext hU)) ?_
       rintro x g9 ⟨⟨w,rfl,W,nW⟩,gL⟩
       have du:=dy.ext gL
       have db:=dz.ext gL
       have dv:=dA.ext gL
       have hV:=hU.trans gL
       have bz:=W.one
       have hz:=@yF a b
       generalize hy [(0,b)] a=q9 at *
       obtain ⟨p,ρ⟩:=q9
       simp only at *
       obtain ⟨g10,pe,gy,oz⟩:=gD g9 z4 (cJ p w)
       have dm:=du.ext gy
       have dn:=db.ext gy
       have dp:=dv.ext gy
       have kU:=hV.trans gy
       by_cases c5:ρ=0
       · subst c5
         simp +contextual only [bo.1,bo.2.1,bk.1,bk.2.1,bn.1,bn.2.1,eS.g,eU.g,fS.g,eL.g,eV.g,e'.g,eb.g,ed.g,ef.g,dK.g,dE.g,dS.g,dy.g,dz.g,dA.g,du.g,db.g,dv.g,dm.g,dn.g,dp.g,cp,gW,pe,bz.1,bz.2.1,oz.g,show ((0:Int)=0)=True from by simp,decide_true,decide_false,↓aA,aI,simprocAttr]
         refine bM (iV a p (by omega) tR _ _ g10 (dQ.ext kU) (ff (W.ext gy) nW)) ?_
         rintro x g11 ⟨rfl,fD⟩
         rw [hz rfl]
         have di:=dm.ext fD
         have dj:=dn.ext fD
         have dk:=dp.ext fD
         have jh:=kU.trans fD
         simp +contextual only [bo.1,bo.2.1,bk.1,bk.2.1,bn.1,bn.2.1,eL.g,eV.g,e'.g,eb.g,ed.g,ef.g,dK.g,dE.g,dS.g,dy.g,dz.g,dA.g,du.g,db.g,dv.g,dm.g,dn.g,dp.g,di.g,dj.g,dk.g,cp,gW,pe,bz.1,bz.2.1,oz.g,show ((0:Int)=0)=True from by simp,decide_true,decide_false,↓aA,aI,simprocAttr]
         refine bM (fQ a (by omega) _ g11 (dQ.ext jh)) ?_
         rintro x g12 ⟨⟨bT,rfl,gO,hO⟩,dW⟩
         have dC:=di.ext dW
         have dD:=dj.ext dW
         have dF:=dk.ext dW
         have kt:=jh.trans dW
         have bC:=gO.one
         simp +contextual only [bo.1,bo.2.1,bk.1,bk.2.1,bn.1,bn.2.1,eb.g,ed.g,ef.g,dK.g,dE.g,dS.g,dy.g,dz.g,dA.g,du.g,db.g,dv.g,dm.g,dn.g,dp.g,di.g,dj.g,dk.g,dC.g,dD.g,dF.g,cp,gW,pe,bz.1,bz.2.1,oz.g,show ((0:Int)=0)=True from by simp,bC.1,bC.2.1,decide_true,decide_false,↓aA,aI,simprocAttr]
         refine bM (fQ (cS a) pU _ g12 (ff gO hO)) ?_
         rintro x g13 ⟨⟨bP,rfl,fM,jY⟩,fE⟩
         have ea:=dC.ext fE
         have ec:=dD.ext fE
         have ee:=dF.ext fE
         have ku:=kt.trans fE
         have bR:=fM.one
         simp +contextual only [bo.1,bo.2.1,bk.1,bk.2.1,bn.1,bn.2.1,dK.g,dE.g,dS.g,dy.g,dz.g,dA.g,du.g,db.g,dv.g,dm.g,dn.g,dp.g,di.g,dj.g,dk.g,dC.g,dD.g,dF.g,ea.g,ec.g,ee.g,cp,gW,pe,bz.1,bz.2.1,oz.g,show ((0:Int)=0)=True from by simp,bC.1,bC.2.1,bR.1,bR.2.1,decide_true,decide_false,↓aA,aI,simprocAttr]
         refine bM (fQ a (by omega) _ g13 (dQ.ext ku)) ?_
         rintro x g14 ⟨⟨iD,rfl,gq,jZ⟩,fv⟩
         have e5:=ea.ext fv
         have e6:=ec.ext fv
         have e7:=ee.ext fv
         have kv:=ku.trans fv
         have dX:=gq.one
         simp +contextual only [bo.1,bo.2.1,bk.1,bk.2.1,bn.1,bn.2.1,dy.g,dz.g,dA.g,du.g,db.g,dv.g,dm.g,dn.g,dp.g,di.g,dj.g,dk.g,dC.g,dD.g,dF.g,ea.g,ec.g,ee.g,e5.g,e6.g,e7.g,cp,gW,pe,bz.1,bz.2.1,oz.g,show ((0:Int)=0)=True from by simp,bC.1,bC.2.1,bR.1,bR.2.1,dX.1,dX.2.1,decide_true,decide_false,↓aA,aI,simprocAttr]
         refine bM (nx (cS (cS a)) (cS a) _ _ g14 ((ff fM jY).ext fv) (ff gq jZ)) ?_
         rintro x g15 ⟨rfl,fJ⟩
         rw [kh]
         have gk:=e5.ext fJ
         have gm:=e6.ext fJ
         have gn:=e7.ext fJ
         have mN:=kv.trans fJ
         simp +contextual only [bo.1,bo.2.1,bk.1,bk.2.1,bn.1,bn.2.1,du.g,db.g,dv.g,dm.g,dn.g,dp.g,di.g,dj.g,dk.g,dC.g,dD.g,dF.g,ea.g,ec.g,ee.g,e5.g,e6.g,e7.g,gk.g,gm.g,gn.g,cp,gW,pe,bz.1,bz.2.1,oz.g,show ((0:Int)=0)=True from by simp,bC.1,bC.2.1,bR.1,bR.2.1,dX.1,dX.2.1,decide_true,decide_false,↓aA,aI,simprocAttr]
       · have gP:=eq_false c5
         simp +contextual only [bo.1,bo.2.1,bk.1,bk.2.1,bn.1,bn.2.1,eS.g,eU.g,fS.g,eL.g,eV.g,e'.g,eb.g,ed.g,ef.g,dK.g,dE.g,dS.g,dy.g,dz.g,dA.g,du.g,db.g,dv.g,dm.g,dn.g,dp.g,cp,gW,pe,bz.1,bz.2.1,oz.g,gP,decide_true,decide_false,↓aA,aI,simprocAttr]
         refine bM (fQ a (by omega) _ g10 (dQ.ext kU)) ?_
         rintro x g11 ⟨⟨bT,rfl,gO,hO⟩,fD⟩
         have di:=dm.ext fD
         have dj:=dn.ext fD
         have dk:=dp.ext fD
         have jh:=kU.trans fD
         have bC:=gO.one
         simp +contextual only [bo.1,bo.2.1,bk.1,bk.2.1,bn.1,bn.2.1,eL.g,eV.g,e'.g,eb.g,ed.g,ef.g,dK.g,dE.g,dS.g,dy.g,dz.g,dA.g,du.g,db.g,dv.g,dm.g,dn.g,dp.g,di.g,dj.g,dk.g,cp,gW,pe,bz.1,bz.2.1,oz.g,gP,bC.1,bC.2.1,decide_true,decide_false,↓aA,aI,simprocAttr]
         refine bM (fQ (cS a) pU _ g11 (ff gO hO)) ?_
         rintro x g12 ⟨⟨bP,rfl,fM,jY⟩,dW⟩
         have dC:=di.ext dW
         have dD:=dj.ext dW
         have dF:=dk.ext dW
         have kt:=jh.trans dW
         have bR:=fM.one
         simp +contextual only [bo.1,bo.2.1,bk.1,bk.2.1,bn.1,bn.2.1,eb.g,ed.g,ef.g,dK.g,dE.g,dS.g,dy.g,dz.g,dA.g,du.g,db.g,dv.g,dm.g,dn.g,dp.g,di.g,dj.g,dk.g,dC.g,dD.g,dF.g,cp,gW,pe,bz.1,bz.2.1,oz.g,gP,bC.1,bC.2.1,bR.1,bR.2.1,decide_true,decide_false,↓aA,aI,simprocAttr]
         refine bM (fQ a (by omega) _ g12 (dQ.ext kt)) ?_
         rintro x g13 ⟨⟨iD,rfl,gq,jZ⟩,fE⟩
         have ea:=dC.ext fE
         have ec:=dD.ext fE
         have ee:=dF.ext fE
         have ku:=kt.trans fE
         have dX:=gq.one
         simp +contextual only [bo.1,bo.2.1,bk.1,bk.2.1,bn.1,bn.2.1,dK.g,dE.g,dS.g,dy.g,dz.g,dA.g,du.g,db.g,dv.g,dm.g,dn.g,dp.g,di.g,dj.g,dk.g,dC.g,dD.g,dF.g,ea.g,ec.g,ee.g,cp,gW,pe,bz.1,bz.2.1,oz.g,gP,bC.1,bC.2.1,bR.1,bR.2.1,dX.1,dX.2.1,decide_true,decide_false,↓aA,aI,simprocAttr]
         refine bM (nx (cS (cS a)) (cS a) _ _ g13 ((ff fM jY).ext fE) (ff gq jZ)) ?_
         rintro x g14 ⟨rfl,fv⟩
         rw [kh]
         have e5:=ea.ext fv
         have e6:=ec.ext fv
         have e7:=ee.ext fv
         have kv:=ku.trans fv
         simp +contextual only [bo.1,bo.2.1,bk.1,bk.2.1,bn.1,bn.2.1,dy.g,dz.g,dA.g,du.g,db.g,dv.g,dm.g,dn.g,dp.g,di.g,dj.g,dk.g,dC.g,dD.g,dF.g,ea.g,ec.g,ee.g,e5.g,e6.g,e7.g,cp,gW,pe,bz.1,bz.2.1,oz.g,gP,bC.1,bC.2.1,bR.1,bR.2.1,dX.1,dX.2.1,decide_true,decide_false,↓aA,aI,simprocAttr]
     | true=>
       refine bM (iV a b (by omega) (by omega) _ _ g5 (dQ.ext ji) (ir.ext ji)) ?_
       rintro x g6 ⟨rfl,ib⟩
       rw [na]
       have eb:=eL.ext ib
       have ed:=eV.ext ib
       have ef:=e'.ext ib
       have jj:=ji.trans ib
       simp +contextual only [bo.1,bo.2.1,bk.1,bk.2.1,bn.1,bn.2.1,cw.g,jH.g,jI.g,cf.g,dd.g,hG.g,dt.g,eT.g,gM.g,eS.g,eU.g,fS.g,eL.g,eV.g,e'.g,eb.g,ed.g,ef.g,cp,decide_true,decide_false,↓aA,aI,simprocAttr]
       refine bM (iV b a (by omega) (by omega) _ _ g6 (ir.ext jj) (dQ.ext jj)) ?_
       rintro x g7 ⟨rfl,gV⟩
       rw [tt]
       have dK:=eb.ext gV
       have dE:=ed.ext gV
       have dS:=ef.ext gV
       have hv:=jj.trans gV
       simp +contextual only [bo.1,bo.2.1,bk.1,bk.2.1,bn.1,bn.2.1,cw.g,jH.g,jI.g,cf.g,dd.g,hG.g,dt.g,eT.g,gM.g,eS.g,eU.g,fS.g,eL.g,eV.g,e'.g,eb.g,ed.g,ef.g,dK.g,dE.g,dS.g,cp,decide_true,decide_false,↓aA,aI,simprocAttr]
       refine bM (fQ a (by omega) _ g7 (dQ.ext hv)) ?_
       rintro x g8 ⟨⟨l4,rfl,xg,yd⟩,gK⟩
       have dy:=dK.ext gK
       have dz:=dE.ext gK
       have dA:=dS.ext gK
       have hU:=hv.trans gK
       have bu:=xg.one
       simp +contextual only [bo.1,bo.2.1,bk.1,bk.2.1,bn.1,bn.2.1,cf.g,dd.g,hG.g,dt.g,eT.g,gM.g,eS.g,eU.g,fS.g,eL.g,eV.g,e'.g,eb.g,ed.g,ef.g,dK.g,dE.g,dS.g,dy.g,dz.g,dA.g,cp,bu.1,bu.2.1,decide_true,decide_false,↓aA,aI,simprocAttr]
       refine bM (fQ b (by omega) _ g8 (ir.ext hU)) ?_
       rintro x g9 ⟨⟨ly,rfl,xh,ye⟩,gL⟩
       have du:=dy.ext gL
       have db:=dz.ext gL
       have dv:=dA.ext gL
       have hV:=hU.trans gL
       have bB:=xh.one
       simp +contextual only [bo.1,bo.2.1,bk.1,bk.2.1,bn.1,bn.2.1,dt.g,eT.g,gM.g,eS.g,eU.g,fS.g,eL.g,eV.g,e'.g,eb.g,ed.g,ef.g,dK.g,dE.g,dS.g,dy.g,dz.g,dA.g,du.g,db.g,dv.g,cp,bu.1,bu.2.1,bB.1,bB.2.1,decide_true,decide_false,↓aA,aI,simprocAttr]
       refine bM (nx (cS a) (cS b) _ _ g9 ((ff xg yd).ext gL) (ff xh ye)) ?_
       rintro x g10 ⟨rfl,gy⟩
       rw [(wN (cS a) (cS b)).2 (Nj na tt)]
       have dm:=du.ext gy
       have dn:=db.ext gy
       have dp:=dv.ext gy
       have kU:=hV.trans gy
       obtain ⟨g11,ic,fD,QO⟩:=wk (F:=Any) (size:=5) (ds:=qD (0,b)) (cs:=.int .i64 0::cJ b iS) rfl (.i (ir.ext kU)) trivial
       have di:=dm.ext fD
       have dj:=dn.ext fD
       have dk:=dp.ext fD
       have jh:=kU.trans fD
       simp +contextual only [bo.1,bo.2.1,bk.1,bk.2.1,bn.1,bn.2.1,eL.g,eV.g,e'.g,eb.g,ed.g,ef.g,dK.g,dE.g,dS.g,dy.g,dz.g,dA.g,du.g,db.g,dv.g,dm.g,dn.g,dp.g,di.g,dj.g,dk.g,cp,bu.1,bu.2.1,bB.1,bB.2.1,ic,decide_true,decide_false,↓aA,aI,simprocAttr]
       refine bM (u3 [(0,b)] (fun p ag=>by rw [List.mem_singleton] at ag;subst ag;show b.size≤_;omega) a (by omega) _ _ g11 QO (dQ.ext jh)) ?_
       rintro x g12 ⟨⟨w,rfl,W,nW⟩,dW⟩
       have dC:=di.ext dW
       have dD:=dj.ext dW
       have dF:=dk.ext dW
       have kt:=jh.trans dW
       have bz:=W.one
       have hz:=@yF a b
       generalize hy [(0,b)] a=q9 at *
       obtain ⟨p,ρ⟩:=q9
       simp only at *
       obtain ⟨g13,y13,fE,oB⟩:=gD g12 z4 (cJ p w)
       have ea:=dC.ext fE
       have ec:=dD.ext fE
       have ee:=dF.ext fE
       have ku:=kt.trans fE
       by_cases c5:ρ=0
       · subst c5
         simp +contextual only [bo.1,bo.2.1,bk.1,bk.2.1,bn.1,bn.2.1,dK.g,dE.g,dS.g,dy.g,dz.g,dA.g,du.g,db.g,dv.g,dm.g,dn.g,dp.g,di.g,dj.g,dk.g,dC.g,dD.g,dF.g,ea.g,ec.g,ee.g,cp,bu.1,bu.2.1,bB.1,bB.2.1,ic,y13,bz.1,bz.2.1,oB.g,show ((0:Int)=0)=True from by simp,decide_true,decide_false,↓aA,aI,simprocAttr]
         refine bM (iV a p (by omega) tR _ _ g13 (dQ.ext ku) (ff (W.ext fE) nW)) ?_
         rintro x g14 ⟨rfl,fv⟩
         rw [hz rfl]
         have e5:=ea.ext fv
         have e6:=ec.ext fv
         have e7:=ee.ext fv
         have kv:=ku.trans fv
         simp +contextual only [bo.1,bo.2.1,bk.1,bk.2.1,bn.1,bn.2.1,dy.g,dz.g,dA.g,du.g,db.g,dv.g,dm.g,dn.g,dp.g,di.g,dj.g,dk.g,dC.g,dD.g,dF.g,ea.g,ec.g,ee.g,e5.g,e6.g,e7.g,cp,bu.1,bu.2.1,bB.1,bB.2.1,ic,y13,bz.1,bz.2.1,oB.g,show ((0:Int)=0)=True from by simp,decide_true,decide_false,↓aA,aI,simprocAttr]
         refine bM (fQ a (by omega) _ g14 (dQ.ext kv)) ?_
         rintro x g15 ⟨⟨bT,rfl,gO,hO⟩,fJ⟩
         have gk:=e5.ext fJ
         have gm:=e6.ext fJ
         have gn:=e7.ext fJ
         have mN:=kv.trans fJ
         have bC:=gO.one
         simp +contextual only [bo.1,bo.2.1,bk.1,bk.2.1,bn.1,bn.2.1,du.g,db.g,dv.g,dm.g,dn.g,dp.g,di.g,dj.g,dk.g,dC.g,dD.g,dF.g,ea.g,ec.g,ee.g,e5.g,e6.g,e7.g,gk.g,gm.g,gn.g,cp,bu.1,bu.2.1,bB.1,bB.2.1,ic,y13,bz.1,bz.2.1,oB.g,show ((0:Int)=0)=True from by simp,bC.1,bC.2.1,decide_true,decide_false,↓aA,aI,simprocAttr]
         refine bM (fQ (cS a) pU _ g15 (ff gO hO)) ?_
         rintro x g16 ⟨⟨bP,rfl,fM,jY⟩,hT⟩
         have iG:=gk.ext hT
         have iH:=gm.ext hT
         have iI:=gn.ext hT
         have pn:=mN.trans hT
         have bR:=fM.one
         simp +contextual only [bo.1,bo.2.1,bk.1,bk.2.1,bn.1,bn.2.1,dm.g,dn.g,dp.g,di.g,dj.g,dk.g,dC.g,dD.g,dF.g,ea.g,ec.g,ee.g,e5.g,e6.g,e7.g,gk.g,gm.g,gn.g,iG.g,iH.g,iI.g,cp,bu.1,bu.2.1,bB.1,bB.2.1,ic,y13,bz.1,bz.2.1,oB.g,show ((0:Int)=0)=True from by simp,bC.1,bC.2.1,bR.1,bR.2.1,decide_true,decide_false,↓aA,aI,simprocAttr]
         refine bM (fQ a (by omega) _ g16 (dQ.ext pn)) ?_
         rintro x g17 ⟨⟨iD,rfl,gq,jZ⟩,jf⟩
         have l7:=iG.ext jf
         have l8:=iH.ext jf
         have l9:=iI.ext jf
         have sQ:=pn.trans jf
         have dX:=gq.one
         simp +contextual only [bo.1,bo.2.1,bk.1,bk.2.1,bn.1,bn.2.1,di.g,dj.g,dk.g,dC.g,dD.g,dF.g,ea.g,ec.g,ee.g,e5.g,e6.g,e7.g,gk.g,gm.g,gn.g,iG.g,iH.g,iI.g,l7.g,l8.g,l9.g,cp,bu.1,bu.2.1,bB.1,bB.2.1,ic,y13,bz.1,bz.2.1,oB.g,show ((0:Int)=0)=True from by simp,bC.1,bC.2.1,bR.1,bR.2.1,dX.1,dX.2.1,decide_true,decide_false,↓aA,aI,simprocAttr]
         refine bM (nx (cS (cS a)) (cS a) _ _ g17 ((ff fM jY).ext jf) (ff gq jZ)) ?_
         rintro x g18 ⟨rfl,l5⟩
         rw [kh]
         have sK:=l7.ext l5
         have sM:=l8.ext l5
         have sO:=l9.ext l5
         have CM:=sQ.trans l5
         simp +contextual only [bo.1,bo.2.1,bk.1,bk.2.1,bn.1,bn.2.1,dC.g,dD.g,dF.g,ea.g,ec.g,ee.g,e5.g,e6.g,e7.g,gk.g,gm.g,gn.g,iG.g,iH.g,iI.g,l7.g,l8.g,l9.g,sK.g,sM.g,sO.g,cp,bu.1,bu.2.1,bB.1,bB.2.1,ic,y13,bz.1,bz.2.1,oB.g,show ((0:Int)=0)=True from by simp,bC.1,bC.2.1,bR.1,bR.2.1,dX.1,dX.2.1,decide_true,decide_false,↓aA,aI,simprocAttr]
       · have gP:=eq_false c5
         simp +contextual only [bo.1,bo.2.1,bk.1,bk.2.1,bn.1,bn.2.1,dK.g,dE.g,dS.g,dy.g,dz.g,dA.g,du.g,db.g,dv.g,dm.g,dn.g,dp.g,di.g,dj.g,dk.g,dC.g,dD.g,dF.g,ea.g,ec.g,ee.g,cp,bu.1,bu.2.1,bB.1,bB.2.1,ic,y13,bz.1,bz.2.1,oB.g,gP,decide_true,decide_false,↓aA,aI,simprocAttr]
         refine bM (fQ a (by omega) _ g13 (dQ.ext ku)) ?_
         rintro x g14 ⟨⟨bT,rfl,gO,hO⟩,fv⟩
         have e5:=ea.ext fv
         have e6:=ec.ext fv
         have e7:=ee.ext fv
         have kv:=ku.trans fv
         have bC:=gO.one
         simp +contextual only [bo.1,bo.2.1,bk.1,bk.2.1,bn.1,bn.2.1,dy.g,dz.g,dA.g,du.g,db.g,dv.g,dm.g,dn.g,dp.g,di.g,dj.g,dk.g,dC.g,dD.g,dF.g,ea.g,ec.g,ee.g,e5.g,e6.g,e7.g,cp,bu.1,bu.2.1,bB.1,bB.2.1,ic,y13,bz.1,bz.2.1,oB.g,gP,bC.1,bC.2.1,decide_true,decide_false,↓aA,aI,simprocAttr]
         refine bM (fQ (cS a) pU _ g14 (ff gO hO)) ?_
         rintro x g15 ⟨⟨bP,rfl,fM,jY⟩,fJ⟩
         have gk:=e5.ext fJ
         have gm:=e6.ext fJ
         have gn:=e7.ext fJ
         have mN:=kv.trans fJ
         have bR:=fM.one
         simp +contextual only [bo.1,bo.2.1,bk.1,bk.2.1,bn.1,bn.2.1,du.g,db.g,dv.g,dm.g,dn.g,dp.g,di.g,dj.g,dk.g,dC.g,dD.g,dF.g,ea.g,ec.g,ee.g,e5.g,e6.g,e7.g,gk.g,gm.g,gn.g,cp,bu.1,bu.2.1,bB.1,bB.2.1,ic,y13,bz.1,bz.2.1,oB.g,gP,bC.1,bC.2.1,bR.1,bR.2.1,decide_true,decide_false,↓aA,aI,simprocAttr]
         refine bM (fQ a (by omega) _ g15 (dQ.ext mN)) ?_
         rintro x g16 ⟨⟨iD,rfl,gq,jZ⟩,hT⟩
         have iG:=gk.ext hT
         have iH:=gm.ext hT
         have iI:=gn.ext hT
         have pn:=mN.trans hT
         have dX:=gq.one
         simp +contextual only [bo.1,bo.2.1,bk.1,bk.2.1,bn.1,bn.2.1,dm.g,dn.g,dp.g,di.g,dj.g,dk.g,dC.g,dD.g,dF.g,ea.g,ec.g,ee.g,e5.g,e6.g,e7.g,gk.g,gm.g,gn.g,iG.g,iH.g,iI.g,cp,bu.1,bu.2.1,bB.1,bB.2.1,ic,y13,bz.1,bz.2.1,oB.g,gP,bC.1,bC.2.1,bR.1,bR.2.1,dX.1,dX.2.1,decide_true,decide_false,↓aA,aI,simprocAttr]
         refine bM (nx (cS (cS a)) (cS a) _ _ g16 ((ff fM jY).ext hT) (ff gq jZ)) ?_
         rintro x g17 ⟨rfl,jf⟩
         rw [kh]
         have l7:=iG.ext jf
         have l8:=iH.ext jf
         have l9:=iI.ext jf
         have sQ:=pn.trans jf
         simp +contextual only [bo.1,bo.2.1,bk.1,bk.2.1,bn.1,bn.2.1,di.g,dj.g,dk.g,dC.g,dD.g,dF.g,ea.g,ec.g,ee.g,e5.g,e6.g,e7.g,gk.g,gm.g,gn.g,iG.g,iH.g,iI.g,l7.g,l8.g,l9.g,cp,bu.1,bu.2.1,bB.1,bB.2.1,ic,y13,bz.1,bz.2.1,oB.g,gP,bC.1,bC.2.1,bR.1,bR.2.1,dX.1,dX.2.1,decide_true,decide_false,↓aA,aI,simprocAttr]
   | true=>
     simp +contextual only [bo.1,bo.2.1,bk.1,bk.2.1,bn.1,bn.2.1,cw.g,jH.g,jI.g,cf.g,dd.g,hG.g,dt.g,eT.g,gM.g,eS.g,eU.g,fS.g,eL.g,eV.g,e'.g,cp,decide_true,decide_false,↓aA,aI,simprocAttr]
     refine bM (iV a c (by omega) (by omega) _ _ g5 (dQ.ext ji) (CS.ext ji)) ?_
     rintro x g6 ⟨rfl,ib⟩
     rw [abx na pI]
     have eb:=eL.ext ib
     have ed:=eV.ext ib
     have ef:=e'.ext ib
     have jj:=ji.trans ib
     simp +contextual only [bo.1,bo.2.1,bk.1,bk.2.1,bn.1,bn.2.1,cw.g,jH.g,jI.g,cf.g,dd.g,hG.g,dt.g,eT.g,gM.g,eS.g,eU.g,fS.g,eL.g,eV.g,e'.g,eb.g,ed.g,ef.g,cp,decide_true,decide_false,↓aA,aI,simprocAttr]
     cases tt:kj b a with
     | false=>
       refine bM (iV a b (by omega) (by omega) _ _ g6 (dQ.ext jj) (ir.ext jj)) ?_
       rintro x g7 ⟨rfl,gV⟩
       rw [na]
       have dK:=eb.ext gV
       have dE:=ed.ext gV
       have dS:=ef.ext gV
       have hv:=jj.trans gV
       simp +contextual only [bo.1,bo.2.1,bk.1,bk.2.1,bn.1,bn.2.1,cw.g,jH.g,jI.g,cf.g,dd.g,hG.g,dt.g,eT.g,gM.g,eS.g,eU.g,fS.g,eL.g,eV.g,e'.g,eb.g,ed.g,ef.g,dK.g,dE.g,dS.g,cp,decide_true,decide_false,↓aA,aI,simprocAttr]
       refine bM (iV b a (by omega) (by omega) _ _ g7 (ir.ext hv) (dQ.ext hv)) ?_
       rintro x g8 ⟨rfl,gK⟩
       rw [tt]
       have dy:=dK.ext gK
       have dz:=dE.ext gK
       have dA:=dS.ext gK
       have hU:=hv.trans gK
       obtain ⟨g9,ow,gL,QT⟩:=wk (F:=Any) (size:=5) (ds:=qD (0,b)) (cs:=.int .i64 0::cJ b iS) rfl (.i (ir.ext hU)) trivial
       have du:=dy.ext gL
       have db:=dz.ext gL
       have dv:=dA.ext gL
       have hV:=hU.trans gL
       simp +contextual only [bo.1,bo.2.1,bk.1,bk.2.1,bn.1,bn.2.1,dt.g,eT.g,gM.g,eS.g,eU.g,fS.g,eL.g,eV.g,e'.g,eb.g,ed.g,ef.g,dK.g,dE.g,dS.g,dy.g,dz.g,dA.g,du.g,db.g,dv.g,cp,ow,decide_true,decide_false,↓aA,aI,simprocAttr]
       refine bM (u3 [(0,b)] (fun p ag=>by rw [List.mem_singleton] at ag;subst ag;show b.size≤_;omega) a (by omega) _ _ g9 QT (dQ.ext hV)) ?_
       rintro x g10 ⟨⟨w,rfl,W,nW⟩,gy⟩
       have dm:=du.ext gy
       have dn:=db.ext gy
       have dp:=dv.ext gy
       have kU:=hV.trans gy
       have bz:=W.one
       have hz:=@yF a b
       generalize hy [(0,b)] a=q9 at *
       obtain ⟨p,ρ⟩:=q9
       simp only at *
       obtain ⟨g11,ic,fD,oA⟩:=gD g10 z4 (cJ p w)
       have di:=dm.ext fD
       have dj:=dn.ext fD
       have dk:=dp.ext fD
       have jh:=kU.trans fD
       by_cases c5:ρ=0
       · subst c5
         simp +contextual only [bo.1,bo.2.1,bk.1,bk.2.1,bn.1,bn.2.1,eL.g,eV.g,e'.g,eb.g,ed.g,ef.g,dK.g,dE.g,dS.g,dy.g,dz.g,dA.g,du.g,db.g,dv.g,dm.g,dn.g,dp.g,di.g,dj.g,dk.g,cp,ow,ic,bz.1,bz.2.1,oA.g,show ((0:Int)=0)=True from by simp,decide_true,decide_false,↓aA,aI,simprocAttr]
         refine bM (iV a p (by omega) tR _ _ g11 (dQ.ext jh) (ff (W.ext fD) nW)) ?_
         rintro x g12 ⟨rfl,dW⟩
         rw [hz rfl]
         have dC:=di.ext dW
         have dD:=dj.ext dW
         have dF:=dk.ext dW
         have kt:=jh.trans dW
         simp +contextual only [bo.1,bo.2.1,bk.1,bk.2.1,bn.1,bn.2.1,eb.g,ed.g,ef.g,dK.g,dE.g,dS.g,dy.g,dz.g,dA.g,du.g,db.g,dv.g,dm.g,dn.g,dp.g,di.g,dj.g,dk.g,dC.g,dD.g,dF.g,cp,ow,ic,bz.1,bz.2.1,oA.g,show ((0:Int)=0)=True from by simp,decide_true,decide_false,↓aA,aI,simprocAttr]
         refine bM (fQ a (by omega) _ g12 (dQ.ext kt)) ?_
         rintro x g13 ⟨⟨bT,rfl,gO,hO⟩,fE⟩
         have ea:=dC.ext fE
         have ec:=dD.ext fE
         have ee:=dF.ext fE
         have ku:=kt.trans fE
         have bC:=gO.one
         simp +contextual only [bo.1,bo.2.1,bk.1,bk.2.1,bn.1,bn.2.1,dK.g,dE.g,dS.g,dy.g,dz.g,dA.g,du.g,db.g,dv.g,dm.g,dn.g,dp.g,di.g,dj.g,dk.g,dC.g,dD.g,dF.g,ea.g,ec.g,ee.g,cp,ow,ic,bz.1,bz.2.1,oA.g,show ((0:Int)=0)=True from by simp,bC.1,bC.2.1,decide_true,decide_false,↓aA,aI,simprocAttr]
         refine bM (fQ (cS a) pU _ g13 (ff gO hO)) ?_
         rintro x g14 ⟨⟨bP,rfl,fM,jY⟩,fv⟩
         have e5:=ea.ext fv
         have e6:=ec.ext fv
         have e7:=ee.ext fv
         have kv:=ku.trans fv
         have bR:=fM.one
         simp +contextual only [bo.1,bo.2.1,bk.1,bk.2.1,bn.1,bn.2.1,dy.g,dz.g,dA.g,du.g,db.g,dv.g,dm.g,dn.g,dp.g,di.g,dj.g,dk.g,dC.g,dD.g,dF.g,ea.g,ec.g,ee.g,e5.g,e6.g,e7.g,cp,ow,ic,bz.1,bz.2.1,oA.g,show ((0:Int)=0)=True from by simp,bC.1,bC.2.1,bR.1,bR.2.1,decide_true,decide_false,↓aA,aI,simprocAttr]
         refine bM (fQ a (by omega) _ g14 (dQ.ext kv)) ?_
         rintro x g15 ⟨⟨iD,rfl,gq,jZ⟩,fJ⟩
         have gk:=e5.ext fJ
         have gm:=e6.ext fJ
         have gn:=e7.ext fJ
         have mN:=kv.trans fJ
         have dX:=gq.one
         simp +contextual only [bo.1,bo.2.1,bk.1,bk.2.1,bn.1,bn.2.1,du.g,db.g,dv.g,dm.g,dn.g,dp.g,di.g,dj.g,dk.g,dC.g,dD.g,dF.g,ea.g,ec.g,ee.g,e5.g,e6.g,e7.g,gk.g,gm.g,gn.g,cp,ow,ic,bz.1,bz.2.1,oA.g,show ((0:Int)=0)=True from by simp,bC.1,bC.2.1,bR.1,bR.2.1,dX.1,dX.2.1,decide_true,decide_false,↓aA,aI,simprocAttr]
         refine bM (nx (cS (cS a)) (cS a) _ _ g15 ((ff fM jY).ext fJ) (ff gq jZ)) ?_
         rintro x g16 ⟨rfl,hT⟩
         rw [kh]
         have iG:=gk.ext hT
         have iH:=gm.ext hT
         have iI:=gn.ext hT
         have pn:=mN.trans hT
         simp +contextual only [bo.1,bo.2.1,bk.1,bk.2.1,bn.1,bn.2.1,dm.g,dn.g,dp.g,di.g,dj.g,dk.g,dC.g,dD.g,dF.g,ea.g,ec.g,ee.g,e5.g,e6.g,e7.g,gk.g,gm.g,gn.g,iG.g,iH.g,iI.g,cp,ow,ic,bz.1,bz.2.1,oA.g,show ((0:Int)=0)=True from by simp,bC.1,bC.2.1,bR.1,bR.2.1,dX.1,dX.2.1,decide_true,decide_false,↓aA,aI,simprocAttr]
       · have gP:=eq_false c5
         simp +contextual only [bo.1,bo.2.1,bk.1,bk.2.1,bn.1,bn.2.1,eL.g,eV.g,e'.g,eb.g,ed.g,ef.g,dK.g,dE.g,dS.g,dy.g,dz.g,dA.g,du.g,db.g,dv.g,dm.g,dn.g,dp.g,di.g,dj.g,dk.g,cp,ow,ic,bz.1,bz.2.1,oA.g,gP,decide_true,decide_false,↓aA,aI,simprocAttr]
         refine bM (fQ a (by omega) _ g11 (dQ.ext jh)) ?_
         rintro x g12 ⟨⟨bT,rfl,gO,hO⟩,dW⟩
         have dC:=di.ext dW
         have dD:=dj.ext dW
         have dF:=dk.ext dW
         have kt:=jh.trans dW
         have bC:=gO.one
         simp +contextual only [bo.1,bo.2.1,bk.1,bk.2.1,bn.1,bn.2.1,eb.g,ed.g,ef.g,dK.g,dE.g,dS.g,dy.g,dz.g,dA.g,du.g,db.g,dv.g,dm.g,dn.g,dp.g,di.g,dj.g,dk.g,dC.g,dD.g,dF.g,cp,ow,ic,bz.1,bz.2.1,oA.g,gP,bC.1,bC.2.1,decide_true,decide_false,↓aA,aI,simprocAttr]
         refine bM (fQ (cS a) pU _ g12 (ff gO hO)) ?_
         rintro x g13 ⟨⟨bP,rfl,fM,jY⟩,fE⟩
         have ea:=dC.ext fE
         have ec:=dD.ext fE
         have ee:=dF.ext fE
         have ku:=kt.trans fE
         have bR:=fM.one
         simp +contextual only [bo.1,bo.2.1,bk.1,bk.2.1,bn.1,bn.2.1,dK.g,dE.g,dS.g,dy.g,dz.g,dA.g,du.g,db.g,dv.g,dm.g,dn.g,dp.g,di.g,dj.g,dk.g,dC.g,dD.g,dF.g,ea.g,ec.g,ee.g,cp,ow,ic,bz.1,bz.2.1,oA.g,gP,bC.1,bC.2.1,bR.1,bR.2.1,decide_true,decide_false,↓aA,aI,simprocAttr]
         refine bM (fQ a (by omega) _ g13 (dQ.ext ku)) ?_
         rintro x g14 ⟨⟨iD,rfl,gq,jZ⟩,fv⟩
         have e5:=ea.ext fv
         have e6:=ec.ext fv
         have e7:=ee.ext fv
         have kv:=ku.trans fv
         have dX:=gq.one
         simp +contextual only [bo.1,bo.2.1,bk.1,bk.2.1,bn.1,bn.2.1,dy.g,dz.g,dA.g,du.g,db.g,dv.g,dm.g,dn.g,dp.g,di.g,dj.g,dk.g,dC.g,dD.g,dF.g,ea.g,ec.g,ee.g,e5.g,e6.g,e7.g,cp,ow,ic,bz.1,bz.2.1,oA.g,gP,bC.1,bC.2.1,bR.1,bR.2.1,dX.1,dX.2.1,decide_true,decide_false,↓aA,aI,simprocAttr]
         refine bM (nx (cS (cS a)) (cS a) _ _ g14 ((ff fM jY).ext fv) (ff gq jZ)) ?_
         rintro x g15 ⟨rfl,fJ⟩
         rw [kh]
         have gk:=e5.ext fJ
         have gm:=e6.ext fJ
         have gn:=e7.ext fJ
         have mN:=kv.trans fJ
         simp +contextual only [bo.1,bo.2.1,bk.1,bk.2.1,bn.1,bn.2.1,du.g,db.g,dv.g,dm.g,dn.g,dp.g,di.g,dj.g,dk.g,dC.g,dD.g,dF.g,ea.g,ec.g,ee.g,e5.g,e6.g,e7.g,gk.g,gm.g,gn.g,cp,ow,ic,bz.1,bz.2.1,oA.g,gP,bC.1,bC.2.1,bR.1,bR.2.1,dX.1,dX.2.1,decide_true,decide_false,↓aA,aI,simprocAttr]
     | true=>
       refine bM (iV a b (by omega) (by omega) _ _ g6 (dQ.ext jj) (ir.ext jj)) ?_
       rintro x g7 ⟨rfl,gV⟩
       rw [na]
       have dK:=eb.ext gV
       have dE:=ed.ext gV
       have dS:=ef.ext gV
       have hv:=jj.trans gV
       simp +contextual only [bo.1,bo.2.1,bk.1,bk.2.1,bn.1,bn.2.1,cw.g,jH.g,jI.g,cf.g,dd.g,hG.g,dt.g,eT.g,gM.g,eS.g,eU.g,fS.g,eL.g,eV.g,e'.g,eb.g,ed.g,ef.g,dK.g,dE.g,dS.g,cp,decide_true,decide_false,↓aA,aI,simprocAttr]
       refine bM (iV b a (by omega) (by omega) _ _ g7 (ir.ext hv) (dQ.ext hv)) ?_
       rintro x g8 ⟨rfl,gK⟩
       rw [tt]
       have dy:=dK.ext gK
       have dz:=dE.ext gK
       have dA:=dS.ext gK
       have hU:=hv.trans gK
       simp +contextual only [bo.1,bo.2.1,bk.1,bk.2.1,bn.1,bn.2.1,cf.g,dd.g,hG.g,dt.g,eT.g,gM.g,eS.g,eU.g,fS.g,eL.g,eV.g,e'.g,eb.g,ed.g,ef.g,dK.g,dE.g,dS.g,dy.g,dz.g,dA.g,cp,decide_true,decide_false,↓aA,aI,simprocAttr]
       refine bM (fQ a (by omega) _ g8 (dQ.ext hU)) ?_
       rintro x g9 ⟨⟨l4,rfl,xg,yd⟩,gL⟩
       have du:=dy.ext gL
       have db:=dz.ext gL
       have dv:=dA.ext gL
       have hV:=hU.trans gL
       have bu:=xg.one
       simp +contextual only [bo.1,bo.2.1,bk.1,bk.2.1,bn.1,bn.2.1,dt.g,eT.g,gM.g,eS.g,eU.g,fS.g,eL.g,eV.g,e'.g,eb.g,ed.g,ef.g,dK.g,dE.g,dS.g,dy.g,dz.g,dA.g,du.g,db.g,dv.g,cp,bu.1,bu.2.1,decide_true,decide_false,↓aA,aI,simprocAttr]
       refine bM (fQ b (by omega) _ g9 (ir.ext hV)) ?_
       rintro x g10 ⟨⟨ly,rfl,xh,ye⟩,gy⟩
       have dm:=du.ext gy
       have dn:=db.ext gy
       have dp:=dv.ext gy
       have kU:=hV.trans gy
       have bB:=xh.one
       simp +contextual only [bo.1,bo.2.1,bk.1,bk.2.1,bn.1,bn.2.1,eS.g,eU.g,fS.g,eL.g,eV.g,e'.g,eb.g,ed.g,ef.g,dK.g,dE.g,dS.g,dy.g,dz.g,dA.g,du.g,db.g,dv.g,dm.g,dn.g,dp.g,cp,bu.1,bu.2.1,bB.1,bB.2.1,decide_true,decide_false,↓aA,aI,simprocAttr]
       refine bM (nx (cS a) (cS b) _ _ g10 ((ff xg yd).ext gy) (ff xh ye)) ?_
       rintro x g11 ⟨rfl,fD⟩
       rw [(wN (cS a) (cS b)).2 (Nj na tt)]
       have di:=dm.ext fD
       have dj:=dn.ext fD
       have dk:=dp.ext fD
       have jh:=kU.trans fD
       obtain ⟨g12,ov,dW,QP⟩:=wk (F:=Any) (size:=5) (ds:=qD (0,b)) (cs:=.int .i64 0::cJ b iS) rfl (.i (ir.ext jh)) trivial
       have dC:=di.ext dW
       have dD:=dj.ext dW
       have dF:=dk.ext dW
       have kt:=jh.trans dW
       simp +contextual only [bo.1,bo.2.1,bk.1,bk.2.1,bn.1,bn.2.1,eb.g,ed.g,ef.g,dK.g,dE.g,dS.g,dy.g,dz.g,dA.g,du.g,db.g,dv.g,dm.g,dn.g,dp.g,di.g,dj.g,dk.g,dC.g,dD.g,dF.g,cp,bu.1,bu.2.1,bB.1,bB.2.1,ov,decide_true,decide_false,↓aA,aI,simprocAttr]
       refine bM (u3 [(0,b)] (fun p ag=>by rw [List.mem_singleton] at ag;subst ag;show b.size≤_;omega) a (by omega) _ _ g12 QP (dQ.ext kt)) ?_
       rintro x g13 ⟨⟨w,rfl,W,nW⟩,fE⟩
       have ea:=dC.ext fE
       have ec:=dD.ext fE
       have ee:=dF.ext fE
       have ku:=kt.trans fE
       have bz:=W.one
       have hz:=@yF a b
       generalize hy [(0,b)] a=q9 at *
       obtain ⟨p,ρ⟩:=q9
       simp only at *
       obtain ⟨g14,pf,fv,oC⟩:=gD g13 z4 (cJ p w)
       have e5:=ea.ext fv
       have e6:=ec.ext fv
       have e7:=ee.ext fv
       have kv:=ku.trans fv
       by_cases c5:ρ=0
       · subst c5
         simp +contextual only [bo.1,bo.2.1,bk.1,bk.2.1,bn.1,bn.2.1,dy.g,dz.g,dA.g,du.g,db.g,dv.g,dm.g,dn.g,dp.g,di.g,dj.g,dk.g,dC.g,dD.g,dF.g,ea.g,ec.g,ee.g,e5.g,e6.g,e7.g,cp,bu.1,bu.2.1,bB.1,bB.2.1,ov,pf,bz.1,bz.2.1,oC.g,show ((0:Int)=0)=True from by simp,decide_true,decide_false,↓aA,aI,simprocAttr]
         refine bM (iV a p (by omega) tR _ _ g14 (dQ.ext kv) (ff (W.ext fv) nW)) ?_
         rintro x g15 ⟨rfl,fJ⟩
         rw [hz rfl]
         have gk:=e5.ext fJ
         have gm:=e6.ext fJ
         have gn:=e7.ext fJ
         have mN:=kv.trans fJ
         simp +contextual only [bo.1,bo.2.1,bk.1,bk.2.1,bn.1,bn.2.1,du.g,db.g,dv.g,dm.g,dn.g,dp.g,di.g,dj.g,dk.g,dC.g,dD.g,dF.g,ea.g,ec.g,ee.g,e5.g,e6.g,e7.g,gk.g,gm.g,gn.g,cp,bu.1,bu.2.1,bB.1,bB.2.1,ov,pf,bz.1,bz.2.1,oC.g,show ((0:Int)=0)=True from by simp,decide_true,decide_false,↓aA,aI,simprocAttr]
         refine bM (fQ a (by omega) _ g15 (dQ.ext mN)) ?_
         rintro x g16 ⟨⟨bT,rfl,gO,hO⟩,hT⟩
         have iG:=gk.ext hT
         have iH:=gm.ext hT
         have iI:=gn.ext hT
         have pn:=mN.trans hT
         have bC:=gO.one
         simp +contextual only [bo.1,bo.2.1,bk.1,bk.2.1,bn.1,bn.2.1,dm.g,dn.g,dp.g,di.g,dj.g,dk.g,dC.g,dD.g,dF.g,ea.g,ec.g,ee.g,e5.g,e6.g,e7.g,gk.g,gm.g,gn.g,iG.g,iH.g,iI.g,cp,bu.1,bu.2.1,bB.1,bB.2.1,ov,pf,bz.1,bz.2.1,oC.g,show ((0:Int)=0)=True from by simp,bC.1,bC.2.1,decide_true,decide_false,↓aA,aI,simprocAttr]
         refine bM (fQ (cS a) pU _ g16 (ff gO hO)) ?_
         rintro x g17 ⟨⟨bP,rfl,fM,jY⟩,jf⟩
         have l7:=iG.ext jf
         have l8:=iH.ext jf
         have l9:=iI.ext jf
         have sQ:=pn.trans jf
         have bR:=fM.one
         simp +contextual only [bo.1,bo.2.1,bk.1,bk.2.1,bn.1,bn.2.1,di.g,dj.g,dk.g,dC.g,dD.g,dF.g,ea.g,ec.g,ee.g,e5.g,e6.g,e7.g,gk.g,gm.g,gn.g,iG.g,iH.g,iI.g,l7.g,l8.g,l9.g,cp,bu.1,bu.2.1,bB.1,bB.2.1,ov,pf,bz.1,bz.2.1,oC.g,show ((0:Int)=0)=True from by simp,bC.1,bC.2.1,bR.1,bR.2.1,decide_true,decide_false,↓aA,aI,simprocAttr]
         refine bM (fQ a (by omega) _ g17 (dQ.ext sQ)) ?_
         rintro x g18 ⟨⟨iD,rfl,gq,jZ⟩,l5⟩
         have sK:=l7.ext l5
         have sM:=l8.ext l5
         have sO:=l9.ext l5
         have CM:=sQ.trans l5
         have dX:=gq.one
         simp +contextual only [bo.1,bo.2.1,bk.1,bk.2.1,bn.1,bn.2.1,dC.g,dD.g,dF.g,ea.g,ec.g,ee.g,e5.g,e6.g,e7.g,gk.g,gm.g,gn.g,iG.g,iH.g,iI.g,l7.g,l8.g,l9.g,sK.g,sM.g,sO.g,cp,bu.1,bu.2.1,bB.1,bB.2.1,ov,pf,bz.1,bz.2.1,oC.g,show ((0:Int)=0)=True from by simp,bC.1,bC.2.1,bR.1,bR.2.1,dX.1,dX.2.1,decide_true,decide_false,↓aA,aI,simprocAttr]
         refine bM (nx (cS (cS a)) (cS a) _ _ g18 ((ff fM jY).ext l5) (ff gq jZ)) ?_
         rintro x g19 ⟨rfl,CI⟩
         rw [kh]
         have Qa:=sK.ext CI
         have Qb:=sM.ext CI
         have Qf:=sO.ext CI
         have afE:=CM.trans CI
         simp +contextual only [bo.1,bo.2.1,bk.1,bk.2.1,bn.1,bn.2.1,ea.g,ec.g,ee.g,e5.g,e6.g,e7.g,gk.g,gm.g,gn.g,iG.g,iH.g,iI.g,l7.g,l8.g,l9.g,sK.g,sM.g,sO.g,Qa.g,Qb.g,Qf.g,cp,bu.1,bu.2.1,bB.1,bB.2.1,ov,pf,bz.1,bz.2.1,oC.g,show ((0:Int)=0)=True from by simp,bC.1,bC.2.1,bR.1,bR.2.1,dX.1,dX.2.1,decide_true,decide_false,↓aA,aI,simprocAttr]
       · have gP:=eq_false c5
         simp +contextual only [bo.1,bo.2.1,bk.1,bk.2.1,bn.1,bn.2.1,dy.g,dz.g,dA.g,du.g,db.g,dv.g,dm.g,dn.g,dp.g,di.g,dj.g,dk.g,dC.g,dD.g,dF.g,ea.g,ec.g,ee.g,e5.g,e6.g,e7.g,cp,bu.1,bu.2.1,bB.1,bB.2.1,ov,pf,bz.1,bz.2.1,oC.g,gP,decide_true,decide_false,↓aA,aI,simprocAttr]
         refine bM (fQ a (by omega) _ g14 (dQ.ext kv)) ?_
         rintro x g15 ⟨⟨bT,rfl,gO,hO⟩,fJ⟩
         have gk:=e5.ext fJ
         have gm:=e6.ext fJ
         have gn:=e7.ext fJ
         have mN:=kv.trans fJ
         have bC:=gO.one
         simp +contextual only [bo.1,bo.2.1,bk.1,bk.2.1,bn.1,bn.2.1,du.g,db.g,dv.g,dm.g,dn.g,dp.g,di.g,dj.g,dk.g,dC.g,dD.g,dF.g,ea.g,ec.g,ee.g,e5.g,e6.g,e7.g,gk.g,gm.g,gn.g,cp,bu.1,bu.2.1,bB.1,bB.2.1,ov,pf,bz.1,bz.2.1,oC.g,gP,bC.1,bC.2.1,decide_true,decide_false,↓aA,aI,simprocAttr]
         refine bM (fQ (cS a) pU _ g15 (ff gO hO)) ?_
         rintro x g16 ⟨⟨bP,rfl,fM,jY⟩,hT⟩
         have iG:=gk.ext hT
         have iH:=gm.ext hT
         have iI:=gn.ext hT
         have pn:=mN.trans hT
         have bR:=fM.one
         simp +contextual only [bo.1,bo.2.1,bk.1,bk.2.1,bn.1,bn.2.1,dm.g,dn.g,dp.g,di.g,dj.g,dk.g,dC.g,dD.g,dF.g,ea.g,ec.g,ee.g,e5.g,e6.g,e7.g,gk.g,gm.g,gn.g,iG.g,iH.g,iI.g,cp,bu.1,bu.2.1,bB.1,bB.2.1,ov,pf,bz.1,bz.2.1,oC.g,gP,bC.1,bC.2.1,bR.1,bR.2.1,decide_true,decide_false,↓aA,aI,simprocAttr]
         refine bM (fQ a (by omega) _ g16 (dQ.ext pn)) ?_
         rintro x g17 ⟨⟨iD,rfl,gq,jZ⟩,jf⟩
         have l7:=iG.ext jf
         have l8:=iH.ext jf
         have l9:=iI.ext jf
         have sQ:=pn.trans jf
         have dX:=gq.one
         simp +contextual only [bo.1,bo.2.1,bk.1,bk.2.1,bn.1,bn.2.1,di.g,dj.g,dk.g,dC.g,dD.g,dF.g,ea.g,ec.g,ee.g,e5.g,e6.g,e7.g,gk.g,gm.g,gn.g,iG.g,iH.g,iI.g,l7.g,l8.g,l9.g,cp,bu.1,bu.2.1,bB.1,bB.2.1,ov,pf,bz.1,bz.2.1,oC.g,gP,bC.1,bC.2.1,bR.1,bR.2.1,dX.1,dX.2.1,decide_true,decide_false,↓aA,aI,simprocAttr]
         refine bM (nx (cS (cS a)) (cS a) _ _ g17 ((ff fM jY).ext jf) (ff gq jZ)) ?_
         rintro x g18 ⟨rfl,l5⟩
         rw [kh]
         have sK:=l7.ext l5
         have sM:=l8.ext l5
         have sO:=l9.ext l5
         have CM:=sQ.trans l5
         simp +contextual only [bo.1,bo.2.1,bk.1,bk.2.1,bn.1,bn.2.1,dC.g,dD.g,dF.g,ea.g,ec.g,ee.g,e5.g,e6.g,e7.g,gk.g,gm.g,gn.g,iG.g,iH.g,iI.g,l7.g,l8.g,l9.g,sK.g,sM.g,sO.g,cp,bu.1,bu.2.1,bB.1,bB.2.1,ov,pf,bz.1,bz.2.1,oC.g,gP,bC.1,bC.2.1,bR.1,bR.2.1,dX.1,dX.2.1,decide_true,decide_false,↓aA,aI,simprocAttr]
end Go.Proofs.YthemdhlheglhoaaGreatDoor
namespace Go.Proofs.YthemdhlheglhoaaGreatDoor
open Go aY Go.RowKit Go.Proofs Go.Lib
abbrev wh:List (String × DataW Unit):=Rows.typesAppliesUptoRow.laid
theorem U9 {n:String} {g:Nat} {t:TypeId} {ms:Array (String × TypeId)} {name:String} {d:DataW Unit} {W:World} (aE:Tryz.prog.globalNamed n=some g) (Gg:(Tryz.prog.globals[g]?).map (·.type)=some t) (aF:Tryz.prog.underlying t=some (.interface ms))
 (h:VarReads Tryz.prog W n (.iface name d)):uM W g:=by
 obtain ⟨tp,rn,cs,fuel,p,aa,ae,aH,bf⟩:=h
 obtain rfl:=Option.some.inj (aE.symm.trans aa)
 obtain rfl:=Option.some.inj (Gg.symm.trans ae)
 obtain ⟨_,u,v,h4,_,_⟩:=iface_of_trod aF bf
 refine ⟨.iface u v,?_,.inr ⟨u,v,rfl⟩⟩
 have:=World.var?_cell aE aH 0
 rw [this,←Array.getElem?_toList,h4]
 rfl
theorem aew {n:String} {g:Nat} {t e:TypeId} {m:Nat} {k:IntKind} {jg:List Int} {W:World} (aE:Tryz.prog.globalNamed n=some g) (Gg:(Tryz.prog.globals[g]?).map (·.type)=some t) (ax:Tryz.prog.underlying t=some (.array m e)) (he:Tryz.prog.underlying e=some (.int k)) (WL:Tryz.prog.cellsOf e=1) (WR:Tryz.prog.cellsOf t=m)
 (h:VarReads Tryz.prog W n (tabData k jg)):TabIs Tryz.prog W n k jg:=by
 obtain ⟨tp,rn,cs,fuel,p,aa,ae,aH,bf⟩:=h
 obtain rfl:=Option.some.inj (aE.symm.trans aa)
 obtain rfl:=Option.some.inj (Gg.symm.trans ae)
 unfold TabIs
 rw [aH,←cells_of_tab ax he WL WR bf]
theorem aeR:Go.Proofs.U8Types Tryz.prog Tryz.yw:=Go.Proofs.U8Types.of260 Tryz.aaR
theorem aeQ:U8Extra Tryz.prog Tryz.yw:=⟨by kernel_rfl,by kernel_rfl,by kernel_rfl,by kernel_rfl,by kernel_rfl,by kernel_rfl,by kernel_rfl⟩
theorem Vw:(Rows.laid_unicode_utf8_first:DataW Unit)=firstData:=Pinned.utf8First_eq
theorem Q4:(Rows.laid_unicode_utf8_acceptRanges:DataW Unit)=acceptData:=by kernel_rfl
theorem acR:(Rows.laid_internal_strconv_uint64pow10:DataW Unit)=tabData .u64 pow10Tab:=by kernel_rfl
theorem VE:Tryz.yw.g 3=2:=by kernel_rfl
theorem VF:Tryz.yw.g 4=3:=by kernel_rfl
theorem aa' {l:List (String × DataW Unit)} {W:World} (hm:∀p ∈ wh,p ∈ l) (eO:laidMet Tryz.prog l W) (oW:W.ShapedOpen Tryz.prog):C6 W:=by
 have r:∀(n:String) (d:DataW Unit),(n,d) ∈ wh→VarReads Tryz.prog W n d:=fun n d h=>laidMet.reads eO (hm _ h)
 have ar:=r "unicode/utf8.first" Rows.laid_unicode_utf8_first (by simp [wh,Rows.typesAppliesUptoRow])
 have bd:=r "unicode/utf8.acceptRanges" Rows.laid_unicode_utf8_acceptRanges (by simp [wh,Rows.typesAppliesUptoRow])
 have aG:=r "strconv.ErrRange" Rows.laid_strconv_ErrRange (by simp [wh,Rows.typesAppliesUptoRow])
 have ag:=r "internal/strconv.uint64pow10" Rows.laid_internal_strconv_uint64pow10 (by simp [wh,Rows.typesAppliesUptoRow])
 rw [acR] at ag
 rw [Vw] at ar
 rw [Q4] at bd
 refine ⟨?_,?_,?_,?_⟩
 · have:=Go.Proofs.utf8Tabs_of_readsT aeR aeQ ar bd
   rwa [VE,VF] at this
 · exact Go.Proofs.cell_of_shapedOpen_int oW (g:=0) (t:=3) (zero:=#[.int .i64 0]) (of_decide_eq_true (by kernel_rfl)) (by kernel_rfl) rfl (by kernel_rfl) (by kernel_rfl) Tryz.underlying3
 · exact U9 (n:= "strconv.ErrRange") (t:=133) (by kernel_rfl) (by kernel_rfl) Tryz.underlying133 aG
 · exact aew (g:=1) (t:=197) (e:=166) (m:=20) (by kernel_rfl) (by kernel_rfl) (by kernel_rfl) (by kernel_rfl) (by kernel_rfl) (by kernel_rfl) ag
end Go.Proofs.YthemdhlheglhoaaGreatDoor
