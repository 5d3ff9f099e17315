/- The chapter's functions, walked by the abstract machine: plain lemmas, no condition. Printed by a program from longer texts: names made short. -/
import Derived.Test.YthemdhlheglhoaaGreatDoorM10
import Derived.Test.YthemdhlheglhoaaGreatDoorM14
import Derived.Test.YthemdhlheglhoaaGreatDoorM8
import Derived.Test.YthemdhlheglhoaaGreatDoorM15
import Derived.Test.YthemdhlheglhoaaGreatDoorM5
import Derived.Test.YthemdhlheglhoaaGreatDoorM4
import Derived.Lay
import Derived.LaidLaws
import Derived.PinnedBridge
import Derived.Lib.LaidU8T
import Derived.Shelf.Vars
import Derived.MakeChecks
set_option linter.unusedSectionVars false
set_option linter.unusedSimpArgs false
set_option linter.unusedVariables false
namespace Go.Proofs.YthemdhlheglhoaaGreatDoor
open Go aX
theorem Gy:Tryz.prog.cellsOf 35=4:=by kernel_rfl
theorem Zu:Tryz.prog.cellsOf 22=1:=by kernel_rfl
theorem Zv:Tryz.prog.cellsOf 9=1:=by kernel_rfl
theorem cells3:Tryz.prog.cellsOf 3=1:=by kernel_rfl
theorem Rn:∀l:List aB,c9 l=(l.map aB.size).sum
 | []=>rfl
 | t::l=>by rw [c9,List.map_cons,List.sum_cons,Rn l]
set_option maxRecDepth 10000 in
theorem Jg:∀(n:Nat) {m:Nat} {h:af} {ad:List V},dB Tryz.prog h n m 35 ad→m≤1048576→∃t:aB,bJ Any h t.enc ad∧ad.length=4∧t.size≤m
 | 0,m,h,ad,H,_=>H.elim
 | n+1,m,h,ad,H,hm=>by
   obtain ⟨iA,e,ai,ms,ab,ae,aG⟩:=H.struct Tryz.underlying35
   obtain rfl:n=iA:=by omega
   rw [Gy] at ai
   match ad,ai with
   | [v0,v1,v3,v4],_=>
     have fE:ms.length=4:=ab
     clear ab
     match ms,fE with
     | [m0,m1,m3,m4],_=>
       have f0:=(aG 0 _ _ rfl rfl).2
       have f1:=(aG 1 _ _ rfl rfl).2
       have f3:=(aG 2 _ _ rfl rfl).2
       have f4:=(aG 3 _ _ rfl rfl).2
       simp only [cells3,Zv,Zu] at f0 f1 f3 f4
       obtain ⟨i0,cS,_⟩:=f0.int Tryz.underlying3
       obtain ⟨i1,aK,_⟩:=f1.int Tryz.underlying3
       obtain ⟨jV,bn,hF⟩:=f3.str Tryz.underlying9
       obtain ⟨gq,gj,IJ,c7,b2,rR⟩:=f4.slice Tryz.underlying22 (by rw [Gy];decide)
       simp only [List.drop_zero,List.drop_succ_cons,List.take_succ_cons,List.take_zero,List.cons.injEq,and_true] at cS aK bn b2
       subst cS aK bn b2
       simp only [List.sum_cons,List.sum_nil] at ae
       rw [Gy] at rR
       obtain rfl:n=gq+1:=c7
       obtain ⟨l,_,aQ,L⟩:=ah2 aB.enc aB.size rR (by omega) fun k ad aE q=>Jg gq q (by omega)
       refine ⟨.mk i0 i1 jV l,?_,rfl,?_⟩
       · rw [sF]
         exact .i (.i (.s (by show jV.length≤top;unfold top;omega) (L.cons .nil)))
       · rw [aB.size,Rn];omega
end Go.Proofs.YthemdhlheglhoaaGreatDoor
namespace Go.Proofs.YthemdhlheglhoaaGreatDoor
open Go aX Go.RowKit
set_option maxRecDepth 100000 in
theorem VI:Ku ctx 100000 11 []=true:=by kernel_rfl
theorem VH (h:af):fh Tryz.prog 11 [] h (.bool true) h:=
 ZP (by kernel_rfl) (fun E x q=>by subst q;simp [Rel]) ⟨_,Tryz.func11,by kernel_rfl⟩ (fun w hw=>aku (C:=ctx) follows cU hw aiw (by kernel_rfl) (by kernel_rfl) VI) h
theorem L3 (h:af):bB Tryz.prog 11 [] h fun x aa=>x=.bool true∧aa=h:=⟨_,_,VH h,rfl,rfl⟩
end Go.Proofs.YthemdhlheglhoaaGreatDoor
namespace Go.Proofs.YthemdhlheglhoaaGreatDoor
open Go aX
theorem aia [Lay] {p:aB} {w:V} {h:af} {S:aP→Prop} (W:eA h S p.l w) (aQ:p.s.length≤top):bJ Any h p.enc (cc p w):=by
 rw [sF]
 exact .i (.i (.s aQ ((W.fv fun _ _=>trivial).cons .nil)))
end Go.Proofs.YthemdhlheglhoaaGreatDoor
namespace Go.Proofs.YthemdhlheglhoaaGreatDoor
open Go aX
set_option maxHeartbeats 32000000 in
theorem akg (t u:aB) (aF:t.size≤1048576) (hu:u.size≤1048576) (Td Te:List V) (h:af) (K':bJ Any h t.enc Td) (vl:bJ Any h u.enc Te):
 bB Tryz.prog 7 [.agg Td,.agg Te] h fun x _=>x=.bool true:=by
 have o5:=K'
 have x4:=vl
 obtain ⟨lt,rfl,TZ,_⟩:=aB.open K'
 obtain ⟨uO,rfl,T0,_⟩:=aB.open vl
 have eV:=TZ.one
 have dh:=T0.one
 refine YR rfl (cL ?_)
 unfold Ge
 obtain ⟨ab,an,aK,bC⟩:=dM h (cc t lt)
 obtain ⟨g0,az,aS,fZ⟩:=dM ab (cc u uO)
 have KM:=bC.ext aS
 have fQ:=aK.trans aS
 obtain ⟨g1,ek,bj,Ui⟩:=zV (h:=g0) (F:=Any) (size:=4) (cs:=cc t lt) (kZ:=cc u uO) rfl rfl (o5.ext fQ) (x4.ext fQ) trivial
 have alg:g0.new (.a1 [.int .i64 t.k,.int .i64 t.n,.str t.s,lt,.int .i64 u.k,.int .i64 u.n,.str u.s,uO] 0 false)=g1:=ek
 have bC:=KM.ext bj
 have KP:=fZ.ext bj
 have fl:=fQ.trans bj
 simp +contextual only [eV.1,eV.2.1,dh.1,dh.2.1,an,az,alg,KM.g,fZ.g,↓ak,ax,simprocAttr]
 refine bY (agl [t,u] 400 _ g1 Ui) ?_
 rintro x g1 ⟨⟨E8,rfl⟩,rfl⟩
 cases E8 with
 | true=>
   simp +contextual only [↓ak,ax,simprocAttr]
   refine bY (L3 _) ?_
   rintro x g2 ⟨rfl,rfl⟩
   simp +contextual only [↓ak,ax,simprocAttr]
 | false=>
 obtain ⟨g2,eJ,ct,iK⟩:=zV (h:=g1) (F:=Any) (size:=4) (cs:=cc t lt) (kZ:=cc u uO) rfl rfl (o5.ext fl) (x4.ext fl) trivial
 have s8:g1.new (.a1 [.int .i64 t.k,.int .i64 t.n,.str t.s,lt,.int .i64 u.k,.int .i64 u.n,.str u.s,uO] 0 false)=g2:=eJ
 have bV:=bC.ext ct
 have ec:=KP.ext ct
 have cn:=fl.trans ct
 simp +contextual only [eV.1,eV.2.1,dh.1,dh.2.1,s8,bC.g,KP.g,↓ak,ax,simprocAttr]
 refine bY (MW (c9 [t,u]+1) [t,u] (by omega) (by simp only [c9];omega) _ g2 iK) ?_
 rintro ak8 g3 ⟨C,gr⟩
 have dd:=bV.ext gr
 have hj:=ec.ext gr
 have en:=cn.trans gr
 have uU:=C.one
 obtain ⟨lL,f0,v0,h0,lI,e5,e6,fb⟩:=aB.uI C (by simp)
 obtain ⟨cC,f1,v1,jn,pn,fO,fP,eu⟩:=aB.zN C (by simp)
 simp only [List.getElem_cons_zero,List.getElem_cons_succ] at lI pn fb eu
 obtain ⟨bz,bS,b3,Lt⟩:=dM g3 z4
 obtain ⟨bZ,b0,b4,EN⟩:=dM bz z4
 have Lu:=Lt.ext b4
 have eg:=Lt.lt
 have gh:=EN.lt
 have n3:=gr.next
 have amq:=dd.lt
 have amr:=hj.lt
 have Ky:=b3.trans b4
 have EL:=Lu.put (cc t v0)
 have EO:=EN.set (m:=g3.next) (by omega) (.a1 (cc t v0) 0 false)
 have kk:Ext g3 (bZ.set (al g3.next) (.a1 (cc t v0) 0 false)):=Ky.set (Nat.le_refl _) _
 obtain ⟨fu,cB⟩:∃fu,bZ.set (al g3.next) (.a1 (cc t v0) 0 false)=fu:=⟨_,rfl⟩
 rw [cB] at EL EO kk
 have pf:=EO.put (cc u v1)
 have o_:=EL.set (m:=bz.next) (by omega) (.a1 (cc u v1) 0 false)
 have gj:Ext g3 (fu.set (al bz.next) (.a1 (cc u v1) 0 false)):=kk.set (by omega) _
 obtain ⟨g4,hh⟩:∃g4,fu.set (al bz.next) (.a1 (cc u v1) 0 false)=g4:=⟨_,rfl⟩
 rw [hh] at pf o_ gj
 have ey:=dd.ext gj
 have f':=hj.ext gj
 have hC:=en.trans gj
 have LD:=lI.ext gj
 have UP:=pn.ext gj
 have d0:=fb g3 (Ext.refl _)
 have d1:=eu g3 (Ext.refl _)
 have Z_:=fb fu kk
 have d13:=eu fu kk
 have Z':=fb bZ Ky
 have d12:=eu bZ Ky
 have Z9:=fb bz b3
 have d11:=eu bz b3
 have aaa:=fb g4 gj
 have d14:=eu g4 gj
 simp +contextual only [eV.1,eV.2.1,dh.1,dh.2.1,uU.1,uU.2.1,e5,e6,fO,fP,h0,jn,d0,d1,Z9,d11,Z',d12,Z_,d13,aaa,d14,bS,b0,cB,hh,Lu.g,EN.g,EL.g,EO.g,ey.g,f'.g,o_.g,pf.g,↓ak,ax,simprocAttr]
 refine bY (yK t (by omega) _ g4 (LD.fg fun _ _=>trivial)) ?_
 rintro x g5 ⟨rfl,s0⟩
 have iI:=ey.ext s0
 have kS:=f'.ext s0
 have pa:=o_.ext s0
 have lH:=pf.ext s0
 have mP:=hC.trans s0
 have UD:=LD.ext s0
 have UQ:=UP.ext s0
 simp +contextual only [eV.1,eV.2.1,dh.1,dh.2.1,e5,e6,fO,fP,ey.g,f'.g,o_.g,pf.g,iI.g,kS.g,pa.g,lH.g,decide_true,decide_false,beq_self_eq_true,↓ak,ax,simprocAttr]
 refine bY (Au t (by omega) _ g5 (o5.ext mP)) ?_
 rintro x g6 ⟨rfl,s3⟩
 have mb:=iI.ext s3
 have me:=kS.ext s3
 have pb:=pa.ext s3
 have pg:=lH.ext s3
 have TH:=mP.trans s3
 have LF:=UD.ext s3
 have UR:=UQ.ext s3
 simp +contextual only [eV.1,eV.2.1,dh.1,dh.2.1,e5,e6,fO,fP,ey.g,f'.g,o_.g,pf.g,iI.g,kS.g,pa.g,lH.g,mb.g,me.g,pb.g,pg.g,decide_true,decide_false,beq_self_eq_true,↓ak,ax,simprocAttr]
 refine bY (Ss t (by omega) _ g6 (LF.fg fun _ _=>trivial)) ?_
 rintro x g7 ⟨rfl,s4⟩
 have lB:=mb.ext s4
 have kn:=me.ext s4
 have pc:=pb.ext s4
 have ph:=pg.ext s4
 have mg:=TH.trans s4
 have UE:=LF.ext s4
 have US:=UR.ext s4
 simp +contextual only [eV.1,eV.2.1,dh.1,dh.2.1,e5,e6,fO,fP,ey.g,f'.g,o_.g,pf.g,iI.g,kS.g,pa.g,lH.g,mb.g,me.g,pb.g,pg.g,lB.g,kn.g,pc.g,ph.g,decide_true,decide_false,beq_self_eq_true,↓ak,ax,simprocAttr]
 refine bY (J5 t.size t (Nat.le_refl _) (by omega) _ g7 (o5.ext mg)) ?_
 rintro x g8 ⟨rfl,s5⟩
 have oZ:=lB.ext s5
 have o1:=kn.ext s5
 have pd:=pc.ext s5
 have pj:=ph.ext s5
 have rE:=mg.trans s5
 have LG:=UE.ext s5
 have LI:=US.ext s5
 simp +contextual only [eV.1,eV.2.1,dh.1,dh.2.1,e5,e6,fO,fP,ey.g,f'.g,o_.g,pf.g,iI.g,kS.g,pa.g,lH.g,mb.g,me.g,pb.g,pg.g,lB.g,kn.g,pc.g,ph.g,oZ.g,o1.g,pd.g,pj.g,decide_true,decide_false,beq_self_eq_true,↓ak,ax,simprocAttr]
 refine bY (SZ t u _ _ g8 (LG.fg fun _ _=>trivial) (LI.fg fun _ _=>trivial)) ?_
 rintro x g9 ⟨rfl,s6⟩
 have o0:=oZ.ext s6
 have kT:=o1.ext s6
 have pe:=pd.ext s6
 have pk:=pj.ext s6
 have mh:=rE.trans s6
 have UF:=LG.ext s6
 have UT:=LI.ext s6
 simp +contextual only [eV.1,eV.2.1,dh.1,dh.2.1,e5,e6,fO,fP,ey.g,f'.g,o_.g,pf.g,iI.g,kS.g,pa.g,lH.g,mb.g,me.g,pb.g,pg.g,lB.g,kn.g,pc.g,ph.g,oZ.g,o1.g,pd.g,pj.g,o0.g,kT.g,pe.g,pk.g,decide_true,decide_false,beq_self_eq_true,↓ak,ax,simprocAttr]
 refine bY (J4 t.size t u (Nat.le_refl _) _ _ g9 (o5.ext mh) (x4.ext mh)) ?_
 rintro x g10 ⟨rfl,sU⟩
 have qa:=o0.ext sU
 have qd:=kT.ext sU
 have qo:=pe.ext sU
 have qs:=pk.ext sU
 have TC:=mh.trans sU
 have Lz:=UF.ext sU
 have UG:=UT.ext sU
 simp +contextual only [eV.1,eV.2.1,dh.1,dh.2.1,e5,e6,fO,fP,ey.g,f'.g,o_.g,pf.g,iI.g,kS.g,pa.g,lH.g,mb.g,me.g,pb.g,pg.g,lB.g,kn.g,pc.g,ph.g,oZ.g,o1.g,pd.g,pj.g,o0.g,kT.g,pe.g,pk.g,qa.g,qd.g,qo.g,qs.g,decide_true,decide_false,beq_self_eq_true,↓ak,ax,simprocAttr]
 refine bY (Ta t (by omega) _ g10 (Lz.fg fun _ _=>trivial)) ?_
 rintro x g11 ⟨Us,sV⟩
 have qb:=qa.ext sV
 have qe:=qd.ext sV
 have qp:=qo.ext sV
 have qt:=qs.ext sV
 have KZ:=TC.trans sV
 have Ux:=Lz.ext sV
 have UH:=UG.ext sV
 have lg:=Kv t
 have Lv:=gv.fv Us (by unfold top;omega)
 have iX:=Lv.one
 simp +contextual only [eV.1,eV.2.1,dh.1,dh.2.1,e5,e6,fO,fP,ey.g,f'.g,o_.g,pf.g,iI.g,kS.g,pa.g,lH.g,mb.g,me.g,pb.g,pg.g,lB.g,kn.g,pc.g,ph.g,oZ.g,o1.g,pd.g,pj.g,o0.g,kT.g,pe.g,pk.g,qa.g,qd.g,qo.g,qs.g,qb.g,qe.g,qp.g,qt.g,iX.1,iX.2.1,decide_true,decide_false,beq_self_eq_true,↓ak,ax,simprocAttr]
 refine bY (Sa t (by omega) _ g11 (o5.ext KZ)) ?_
 rintro x g12 ⟨Ut,jb⟩
 have qc:=qb.ext jb
 have qf:=qe.ext jb
 have qq:=qp.ext jb
 have qu:=qt.ext jb
 have TD:=KZ.trans jb
 have LA:=Ux.ext jb
 have UI:=UH.ext jb
 have Lw:=gv.fv Ut (by unfold top;omega)
 have jM:=Lw.one
 simp +contextual only [eV.1,eV.2.1,dh.1,dh.2.1,e5,e6,fO,fP,iI.g,kS.g,pa.g,lH.g,mb.g,me.g,pb.g,pg.g,lB.g,kn.g,pc.g,ph.g,oZ.g,o1.g,pd.g,pj.g,o0.g,kT.g,pe.g,pk.g,qa.g,qd.g,qo.g,qs.g,qb.g,qe.g,qp.g,qt.g,qc.g,qf.g,qq.g,qu.g,iX.1,iX.2.1,jM.1,jM.2.1,decide_true,decide_false,beq_self_eq_true,↓ak,ax,simprocAttr]
 refine bY (ajJ t.vars t.vars _ _ g12 (Lv.ext jb) Lw) ?_
 rintro x al3 ⟨rfl,bo⟩
 rw [bo]
 simp +contextual only [eV.1,eV.2.1,dh.1,dh.2.1,e5,e6,fO,fP,iI.g,kS.g,pa.g,lH.g,mb.g,me.g,pb.g,pg.g,lB.g,kn.g,pc.g,ph.g,oZ.g,o1.g,pd.g,pj.g,o0.g,kT.g,pe.g,pk.g,qa.g,qd.g,qo.g,qs.g,qb.g,qe.g,qp.g,qt.g,qc.g,qf.g,qq.g,qu.g,iX.1,iX.2.1,jM.1,jM.2.1,decide_true,decide_false,beq_self_eq_true,↓ak,ax,simprocAttr]
 refine bY (aix t (by omega) _ g12 (LA.fg fun _ _=>trivial)) ?_
 rintro x g13 ⟨rfl,sW⟩
 have rA:=qc.ext sW
 have rB:=qf.ext sW
 have rS:=qq.ext sW
 have rT:=qu.ext sW
 have K0:=TD.trans sW
 have Uy:=LA.ext sW
 have UJ:=UI.ext sW
 simp +contextual only [eV.1,eV.2.1,dh.1,dh.2.1,e5,e6,fO,fP,mb.g,me.g,pb.g,pg.g,lB.g,kn.g,pc.g,ph.g,oZ.g,o1.g,pd.g,pj.g,o0.g,kT.g,pe.g,pk.g,qa.g,qd.g,qo.g,qs.g,qb.g,qe.g,qp.g,qt.g,qc.g,qf.g,qq.g,qu.g,rA.g,rB.g,rS.g,rT.g,iX.1,iX.2.1,jM.1,jM.2.1,decide_true,decide_false,beq_self_eq_true,↓ak,ax,simprocAttr]
 refine bY (ajh t (by omega) _ g13 (o5.ext K0)) ?_
 rintro x g14 ⟨rfl,sX⟩
 have ta:=rA.ext sX
 have tc:=rB.ext sX
 have tt:=rS.ext sX
 have tu:=rT.ext sX
 have TE:=K0.trans sX
 have LB:=Uy.ext sX
 have LH:=UJ.ext sX
 simp +contextual only [eV.1,eV.2.1,dh.1,dh.2.1,e5,e6,fO,fP,lB.g,kn.g,pc.g,ph.g,oZ.g,o1.g,pd.g,pj.g,o0.g,kT.g,pe.g,pk.g,qa.g,qd.g,qo.g,qs.g,qb.g,qe.g,qp.g,qt.g,qc.g,qf.g,qq.g,qu.g,rA.g,rB.g,rS.g,rT.g,ta.g,tc.g,tt.g,tu.g,iX.1,iX.2.1,jM.1,jM.2.1,decide_true,decide_false,beq_self_eq_true,↓ak,ax,simprocAttr]
 refine bY (aha t u (by omega) (by omega) _ _ g14 (LB.fg fun _ _=>trivial) (LH.fg fun _ _=>trivial)) ?_
 rintro x g15 ⟨rfl,sY⟩
 have vf:=ta.ext sY
 have vi:=tc.ext sY
 have vA:=tt.ext sY
 have vB:=tu.ext sY
 have D_:=TE.trans sY
 have Uz:=LB.ext sY
 have UK:=LH.ext sY
 simp +contextual only [eV.1,eV.2.1,dh.1,dh.2.1,e5,e6,fO,fP,oZ.g,o1.g,pd.g,pj.g,o0.g,kT.g,pe.g,pk.g,qa.g,qd.g,qo.g,qs.g,qb.g,qe.g,qp.g,qt.g,qc.g,qf.g,qq.g,qu.g,rA.g,rB.g,rS.g,rT.g,ta.g,tc.g,tt.g,tu.g,vf.g,vi.g,vA.g,vB.g,iX.1,iX.2.1,jM.1,jM.2.1,decide_true,decide_false,beq_self_eq_true,↓ak,ax,simprocAttr]
 refine bY (ajb t u (by omega) (by omega) _ _ g15 (o5.ext D_) (x4.ext D_)) ?_
 rintro x g16 ⟨rfl,sZ⟩
 have vg:=vf.ext sZ
 have vj:=vi.ext sZ
 have yo:=vA.ext sZ
 have yp:=vB.ext sZ
 have K1:=D_.trans sZ
 have LC:=Uz.ext sZ
 have UL:=UK.ext sZ
 simp +contextual only [eV.1,eV.2.1,dh.1,dh.2.1,e5,e6,fO,fP,o0.g,kT.g,pe.g,pk.g,qa.g,qd.g,qo.g,qs.g,qb.g,qe.g,qp.g,qt.g,qc.g,qf.g,qq.g,qu.g,rA.g,rB.g,rS.g,rT.g,ta.g,tc.g,tt.g,tu.g,vf.g,vi.g,vA.g,vB.g,vg.g,vj.g,yo.g,yp.g,iX.1,iX.2.1,jM.1,jM.2.1,decide_true,decide_false,beq_self_eq_true,↓ak,ax,simprocAttr]
 refine bY (ai5 t (by omega) _ g16 (LC.fg fun _ _=>trivial)) ?_
 rintro x g17 ⟨⟨w,rfl,W,Pd⟩,rz⟩
 have AK:=vg.ext rz
 have AO:=vj.ext rz
 have Bb:=yo.ext rz
 have Bd:=yp.ext rz
 have TF:=K1.trans rz
 have UA:=LC.ext rz
 have UM:=UL.ext rz
 have di:=W.one
 obtain ⟨g18,KG,oX,A9⟩:=ga g17 z4 (cc (ki t) w)
 have AL:=AK.ext oX
 have AP:=AO.ext oX
 have Bc:=Bb.ext oX
 have Be:=Bd.ext oX
 have K2:=TF.trans oX
 have UB:=UA.ext oX
 have UN:=UM.ext oX
 simp +contextual only [eV.1,eV.2.1,dh.1,dh.2.1,e5,e6,fO,fP,qb.g,qe.g,qp.g,qt.g,qc.g,qf.g,qq.g,qu.g,rA.g,rB.g,rS.g,rT.g,ta.g,tc.g,tt.g,tu.g,vf.g,vi.g,vA.g,vB.g,vg.g,vj.g,yo.g,yp.g,AK.g,AO.g,Bb.g,Bd.g,AL.g,AP.g,Bc.g,Be.g,iX.1,iX.2.1,jM.1,jM.2.1,di.1,di.2.1,KG,A9.g,decide_true,decide_false,beq_self_eq_true,↓ak,ax,simprocAttr]
 refine bY (ajg t (by omega) _ g18 (o5.ext K2)) ?_
 rintro x g19 ⟨⟨cs,rfl,KS⟩,nQ⟩
 have D7:=AL.ext nQ
 have D9:=AP.ext nQ
 have EK:=Bc.ext nQ
 have EM:=Be.ext nQ
 have TG:=K2.trans nQ
 have UC:=UB.ext nQ
 have UO:=UN.ext nQ
 obtain ⟨amS,rfl,TU,_⟩:=aB.open KS
 have Da:=TU.one
 have EC:=A9.ext nQ
 simp +contextual only [eV.1,eV.2.1,dh.1,dh.2.1,e5,e6,fO,fP,qc.g,qf.g,qq.g,qu.g,rA.g,rB.g,rS.g,rT.g,ta.g,tc.g,tt.g,tu.g,vf.g,vi.g,vA.g,vB.g,vg.g,vj.g,yo.g,yp.g,AK.g,AO.g,Bb.g,Bd.g,AL.g,AP.g,Bc.g,Be.g,D7.g,D9.g,EK.g,EM.g,iX.1,iX.2.1,jM.1,jM.2.1,di.1,di.2.1,KG,A9.g,Da.1,Da.2.1,EC.g,decide_true,decide_false,beq_self_eq_true,↓ak,ax,simprocAttr]
 have Lx:=((W.ext oX).ext nQ)
 refine bY (ajx (ki t) _ _ g19 (aia Lx Pd) KS) ?_
 rintro x g20 ⟨rfl,nR⟩
 have Ts:=D7.ext nR
 have Tv:=D9.ext nR
 have Uo:=EK.ext nR
 have Up:=EM.ext nR
 have als:=TG.trans nR
 have aly:=UC.ext nR
 have alz:=UO.ext nR
 have Uc:=EC.ext nR
 obtain ⟨g21,y21,ak7,Uv⟩:=agV (h:=g20) (T:=fD g16.next g17.next) (t:=ki t) (w:=w) (Lx.ext nR) (fun b q=>by have:=nR.next;have:=nQ.next;have:=oX.next;unfold fD at q;unfold Old;omega) Pd
 simp +contextual only [eV.1,eV.2.1,dh.1,dh.2.1,e5,e6,fO,fP,rA.g,rB.g,rS.g,rT.g,ta.g,tc.g,tt.g,tu.g,vf.g,vi.g,vA.g,vB.g,vg.g,vj.g,yo.g,yp.g,AK.g,AO.g,Bb.g,Bd.g,AL.g,AP.g,Bc.g,Be.g,D7.g,D9.g,EK.g,EM.g,Ts.g,Tv.g,Uo.g,Up.g,iX.1,iX.2.1,jM.1,jM.2.1,di.1,di.2.1,KG,A9.g,Da.1,Da.2.1,EC.g,Uc.g,y21,decide_true,decide_false,beq_self_eq_true,↓ak,ax,simprocAttr]
 refine bY (QZ _ [ki t] (Nat.le_refl _) _ _ g21 Uv) ?_
 rintro x qK m
 have hm:∀b,(fD g16.next g17.next b∨b=al g20.next)→g16.next≤dG b:=fun b q=>by
  have:=nR.next;have:=nQ.next;have:=oX.next;have:=rz.next
  rcases q with q | q
  · exact q.1
  · rw [q,cK];omega
 have em:Ext g16 qK:=(((((rz.trans oX).trans nQ).trans nR).trans ak7)).ke m hm
 have aX:=vg.ext em
 have qg:=vj.ext em
 have K3:=K1.trans em
 have aav:Ext g3 g16:=by
  exact ((((((((((((gj.trans s0).trans s3).trans s4).trans s5).trans s6).trans sU).trans sV).trans jb).trans sW).trans sX).trans sY).trans sZ)
 have TB:=(C.ext aav).ext em
 obtain ⟨N3,D5,ak9,Uk⟩:=zV (h:=qK) (F:=Any) (size:=4) (cs:=cc t lt) (kZ:=cc u uO) rfl rfl (o5.ext K3) (x4.ext K3) trivial
 have alj:qK.new (.a1 [.int .i64 t.k,.int .i64 t.n,.str t.s,lt,.int .i64 u.k,.int .i64 u.n,.str u.s,uO] 0 false)=N3:=D5
 simp +contextual only [eV.1,eV.2.1,dh.1,dh.2.1,uU.1,uU.2.1,aX.g,qg.g,alj,decide_true,decide_false,↓ak,ax,simprocAttr]
 refine bY (ajy [t,u] ak8 _ N3 ((TB.ext ak9).fg fun _ _=>trivial) Uk) ?_
 rintro x al1 ⟨rfl,am1⟩
 simp +contextual only [↓ak,ax,simprocAttr]
 refine bY (L3 _) ?_
 rintro x al2 ⟨rfl,rfl⟩
 simp +contextual only [↓ak,ax,simprocAttr]
end Go.Proofs.YthemdhlheglhoaaGreatDoor
namespace Go.Proofs.YthemdhlheglhoaaGreatDoor
open Go aX Go.RowKit Go.Proofs Go.Lib
abbrev xb:List (String × DataW Unit):=Rows.typesAppliesUptoRow.laid
theorem aaF {n:String} {g:Nat} {t:TypeId} {ms:Array (String × TypeId)} {name:String} {d:DataW Unit} {W:World} (aH:Tryz.prog.globalNamed n=some g) (Ik:(Tryz.prog.globals[g]?).map (·.type)=some t) (aC:Tryz.prog.underlying t=some (.interface ms))
 (h:VarReads Tryz.prog W n (.iface name d)):vk W g:=by
 obtain ⟨NV,rp,cs,fuel,p,ab,ae,aG,ba⟩:=h
 obtain rfl:=Option.some.inj (aH.symm.trans ab)
 obtain rfl:=Option.some.inj (Ik.symm.trans ae)
 obtain ⟨_,u,v,gG,_,_⟩:=iface_of_trod aC ba
 refine ⟨.iface u v,?_,.inr ⟨u,v,rfl⟩⟩
 have:=World.var?_cell aH aG 0
 rw [this,←Array.getElem?_toList,gG]
 rfl
theorem aka {n:String} {g:Nat} {t e:TypeId} {m:Nat} {k:IntKind} {iH:List Int} {W:World} (aH:Tryz.prog.globalNamed n=some g) (Ik:(Tryz.prog.globals[g]?).map (·.type)=some t) (aF:Tryz.prog.underlying t=some (.array m e)) (he:Tryz.prog.underlying e=some (.int k)) (ach:Tryz.prog.cellsOf e=1) (acn:Tryz.prog.cellsOf t=m)
 (h:VarReads Tryz.prog W n (tabData k iH)):TabIs Tryz.prog W n k iH:=by
 obtain ⟨NV,rp,cs,fuel,p,ab,ae,aG,ba⟩:=h
 obtain rfl:=Option.some.inj (aH.symm.trans ab)
 obtain rfl:=Option.some.inj (Ik.symm.trans ae)
 unfold TabIs
 rw [aG,←cells_of_tab aF he ach acn ba]
theorem aky:Go.Proofs.U8Types Tryz.prog Tryz.zP:=Go.Proofs.U8Types.of260 Tryz.agy
theorem akx:U8Extra Tryz.prog Tryz.zP:=⟨by kernel_rfl,by kernel_rfl,by kernel_rfl,by kernel_rfl,by kernel_rfl,by kernel_rfl,by kernel_rfl⟩
theorem aa3:(Rows.laid_unicode_utf8_first:DataW Unit)=firstData:=Pinned.utf8First_eq
theorem U3:(Rows.laid_unicode_utf8_acceptRanges:DataW Unit)=acceptData:=by kernel_rfl
theorem aio:(Rows.laid_internal_strconv_uint64pow10:DataW Unit)=tabData .u64 pow10Tab:=by kernel_rfl
theorem aba:Tryz.zP.g 3=2:=by kernel_rfl
theorem abb:Tryz.zP.g 4=3:=by kernel_rfl
theorem agQ {l:List (String × DataW Unit)} {W:World} (hm:∀p ∈ xb,p ∈ l) (ei:laidMet Tryz.prog l W) (eG:W.ShapedOpen Tryz.prog):Ev W:=by
 have r:∀(n:String) (d:DataW Unit),(n,d) ∈ xb→VarReads Tryz.prog W n d:=fun n d h=>laidMet.reads ei (hm _ h)
 have ay:=r "unicode/utf8.first" Rows.laid_unicode_utf8_first (by simp [xb,Rows.typesAppliesUptoRow])
 have bq:=r "unicode/utf8.acceptRanges" Rows.laid_unicode_utf8_acceptRanges (by simp [xb,Rows.typesAppliesUptoRow])
 have aJ:=r "strconv.ErrRange" Rows.laid_strconv_ErrRange (by simp [xb,Rows.typesAppliesUptoRow])
 have ah:=r "internal/strconv.uint64pow10" Rows.laid_internal_strconv_uint64pow10 (by simp [xb,Rows.typesAppliesUptoRow])
 rw [aio] at ah
 rw [aa3] at ay
 rw [U3] at bq
 refine ⟨?_,?_,?_,?_⟩
 · have:=Go.Proofs.utf8Tabs_of_readsT aky akx ay bq
   rwa [aba,abb] at this
 · exact Go.Proofs.cell_of_shapedOpen_int eG (g:=0) (t:=3) (zero:=#[.int .i64 0]) (of_decide_eq_true (by kernel_rfl)) (by kernel_rfl) rfl (by kernel_rfl) (by kernel_rfl) Tryz.underlying3
 · exact aaF (n:= "strconv.ErrRange") (t:=133) (by kernel_rfl) (by kernel_rfl) Tryz.underlying133 aJ
 · exact aka (g:=1) (t:=197) (e:=166) (m:=20) (by kernel_rfl) (by kernel_rfl) (by kernel_rfl) (by kernel_rfl) (by kernel_rfl) (by kernel_rfl) ah
end Go.Proofs.YthemdhlheglhoaaGreatDoor
