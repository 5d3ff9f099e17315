/- The chapter's functions, walked by the abstract machine: plain lemmas, no condition. Printed by a program from longer texts: names made short. -/
import Derived.Test.YtjbiefneffiogaaGreatM10
import Derived.Test.YtjbiefneffiogaaGreatM8
import Derived.Test.YtjbiefneffiogaaGreatM9
set_option linter.unusedSectionVars false
set_option linter.unusedSimpArgs false
set_option linter.unusedVariables false
namespace Go.Proofs.YtjbiefneffiogaaGreat
open Go bs
section
variable {aj h J:ai} {an:aV} {K:fl} {aq:List aV} {aO pm:V} {S:av} {steps:Int} {aX a6 w2 bZ b4 bj:V}
set_option maxRecDepth 4000 in
set_option maxHeartbeats 2000000 in
theorem ae5 {s:List UInt8} (aM:s=[106,111,105,110]) (M:dW aj h an K aq aO pm S steps) (O:Ok S) {aW bU:Nat} {az:V} (A:ek h aq [aW,bU] az) (al:cP (S.val aW)=2∧cP (S.val bU)=2):
 bB Tryz.prog 158 [.ptr an 0,.str s,az] h fun x J=>∃aK aJ,dW aj J an aK aJ aO pm (S.join [aW,bU]) steps:=by
 have E:=eC 9 (by decide) aM
 obtain ⟨_,_,_,_,_,_,M⟩:=M
 obtain ⟨a0,cv⟩:=pZ al.1
 obtain ⟨eU,cQ,ey,fN,_,_,_,_,_,_,_,_,b3,_,bY⟩:=M.arg A 0 0 aW rfl rfl
 rw [cv] at bY
 simp only [cP,dD,e3] at bY
 have a8:=bY _ (Ext.refl _)
 obtain ⟨bt,dh⟩:=pZ al.2
 obtain ⟨jk,bX,dj,k3,_,_,_,_,_,_,_,_,cB,_,b7⟩:=M.arg A 1 1 bU rfl rfl
 rw [dh] at b7
 simp only [cP,dD,e3] at b7
 have bc:=b7 _ (Ext.refl _)
 refine FH rfl (bO ?_)
 unfold Co
 have v_:=O.texts _ _ cv
 have fw:=O.texts _ _ dh
 have dH:IntKind.i64.wrap ((a0.length:Int) + (bt.length:Int))=(a0.length:Int) + (bt.length:Int):=wrap_i64 (by omega) (by omega)
 by_cases bD:(a0.length:Int) + (bt.length:Int)≤4096
 · have e1:=eq_true bD
   have Fm:(e4.str .add).run Tryz.prog (.str a0) (.str bt)=some (.str (a0++bt)):=by rw [IL,if_pos (by unfold top;omega)]
   simp +contextual only [b3,a8.1,a8.2,cB,bc.1,bc.2,dH,e1,Fm,E,↓ab,ae,simprocAttr]
   refine aS (IG _ (a0++bt)) ?_
   rintro x aB F
   obtain ⟨aK,aJ,bI,rfl,a1,t⟩:=M.make (v:=.text (a0++bt)) F rfl
   simp +contextual only [E,↓ab,ae,simprocAttr]
   refine aS (jS ⟨_,_,_,_,_,_,bI⟩ O.w a1) ?_
   rintro x bw ⟨cK,bz⟩
   simp +contextual only [E,↓ab,ae,simprocAttr]
   refine ⟨cK,aJ,?_⟩
   simp only [av.join,List.getD_cons_zero,List.getD_cons_succ,cv,dh]
   rw [if_pos (by omega)]
   exact bz
 · have e1:=eq_false bD
   simp +contextual only [b3,a8.1,a8.2,cB,bc.1,bc.2,dH,e1,E,↓ab,ae,simprocAttr]
   refine aS (ob _ 2 .aw ⟨rfl,rfl,rfl⟩) ?_
   rintro x aB F
   obtain ⟨aK,aJ,bI,rfl,a1,t⟩:=M.make (v:=.df 2 []) F rfl
   simp +contextual only [E,↓ab,ae,simprocAttr]
   refine aS (ts ⟨_,_,_,_,_,_,bI⟩ O.w a1) ?_
   rintro x bw ⟨cK,bz⟩
   simp +contextual only [E,↓ab,ae,simprocAttr]
   refine ⟨cK,aJ,?_⟩
   simp only [av.join,List.getD_cons_zero,List.getD_cons_succ,cv,dh]
   rw [if_neg (by omega)]
   exact bz
set_option maxRecDepth 4000 in
set_option maxHeartbeats 2000000 in
theorem ae3 {s:List UInt8} (aM:s=[98,121,116,101]) (M:dW aj h an K aq aO pm S steps) (O:Ok S) {aW bU:Nat} {az:V} (A:ek h aq [aW,bU] az) (al:cP (S.val aW)=2∧cP (S.val bU)=1):
 bB Tryz.prog 158 [.ptr an 0,.str s,az] h fun x J=>∃aK aJ,dW aj J an aK aJ aO pm (S.oK [aW,bU]) steps:=by
 have E:=eC 8 (by decide) aM
 obtain ⟨_,_,_,_,_,_,M⟩:=M
 obtain ⟨a0,cv⟩:=pZ al.1
 obtain ⟨eU,cQ,ey,fN,_,_,_,_,_,_,_,_,b3,_,bY⟩:=M.arg A 0 0 aW rfl rfl
 rw [cv] at bY
 simp only [cP,dD,e3] at bY
 have a8:=bY _ (Ext.refl _)
 obtain ⟨bt,dh⟩:=hc al.2
 obtain ⟨jk,bX,dj,k3,_,_,_,_,_,_,_,_,cB,_,b7⟩:=M.arg A 1 1 bU rfl rfl
 rw [dh] at b7
 simp only [cP,dD,e3] at b7
 have bc:=b7 _ (Ext.refl _)
 refine FH rfl (bO ?_)
 unfold Co
 have v_:=O.texts _ _ cv
 have fw:=O.ints _ _ dh
 by_cases bD:0≤bt
 · have e1:=eq_true bD
   by_cases bG:bt < (a0.length:Int)
   · have hp:=eq_true bG
     have iT:qR.run (.str a0) (.int .i64 bt)=some (.int .u8 (((a0[bt.toNat]?).getD 0).toNat:Int)):=by rw [IM,if_pos (by omega)]
     have vL:=(a0[bt.toNat]?.getD 0).toNat_lt
     have hA:IntKind.i64.wrap (((a0[bt.toNat]?.getD 0).toNat:Nat):Int)=(((a0[bt.toNat]?.getD 0).toNat:Nat):Int):=wrap_i64 (by omega) (by omega)
     simp +contextual only [b3,a8.1,a8.2,cB,bc.1,bc.2,e1,hp,iT,hA,E,↓ab,ae,simprocAttr]
     refine aS (q' _ (((a0[bt.toNat]?.getD 0).toNat:Nat):Int)) ?_
     rintro x aB F
     obtain ⟨aK,aJ,bI,rfl,a1,t⟩:=M.make (v:=.int (((a0[bt.toNat]?.getD 0).toNat:Nat):Int)) F rfl
     simp +contextual only [E,↓ab,ae,simprocAttr]
     refine aS (jS ⟨_,_,_,_,_,_,bI⟩ O.w a1) ?_
     rintro x bw ⟨cK,bz⟩
     simp +contextual only [E,↓ab,ae,simprocAttr]
     refine ⟨cK,aJ,?_⟩
     simp only [av.oK,List.getD_cons_zero,List.getD_cons_succ,cv,dh]
     rw [if_pos (by omega)]
     exact bz
   · have hp:=eq_false bG
     simp +contextual only [b3,a8.1,a8.2,cB,bc.1,bc.2,e1,hp,E,↓ab,ae,simprocAttr]
     refine aS (ob _ 2 .aw ⟨rfl,rfl,rfl⟩) ?_
     rintro x aB F
     obtain ⟨aK,aJ,bI,rfl,a1,t⟩:=M.make (v:=.df 2 []) F rfl
     simp +contextual only [E,↓ab,ae,simprocAttr]
     refine aS (ts ⟨_,_,_,_,_,_,bI⟩ O.w a1) ?_
     rintro x bw ⟨cK,bz⟩
     simp +contextual only [E,↓ab,ae,simprocAttr]
     refine ⟨cK,aJ,?_⟩
     simp only [av.oK,List.getD_cons_zero,List.getD_cons_succ,cv,dh]
     rw [if_neg (by omega)]
     exact bz
 · have e1:=eq_false bD
   simp +contextual only [b3,a8.1,a8.2,cB,bc.1,bc.2,e1,E,↓ab,ae,simprocAttr]
   refine aS (ob _ 2 .aw ⟨rfl,rfl,rfl⟩) ?_
   rintro x aB F
   obtain ⟨aK,aJ,bI,rfl,a1,t⟩:=M.make (v:=.df 2 []) F rfl
   simp +contextual only [E,↓ab,ae,simprocAttr]
   refine aS (ts ⟨_,_,_,_,_,_,bI⟩ O.w a1) ?_
   rintro x bw ⟨cK,bz⟩
   simp +contextual only [E,↓ab,ae,simprocAttr]
   refine ⟨cK,aJ,?_⟩
   simp only [av.oK,List.getD_cons_zero,List.getD_cons_succ,cv,dh]
   rw [if_neg (by omega)]
   exact bz
set_option maxRecDepth 4000 in
set_option maxHeartbeats 2000000 in
theorem ae4 {s:List UInt8} (aM:s=[99,117,116]) (M:dW aj h an K aq aO pm S steps) (O:Ok S) {aW bU gH:Nat} {az:V} (A:ek h aq [aW,bU,gH] az) (al:cP (S.val aW)=2∧cP (S.val bU)=1∧cP (S.val gH)=1):
 bB Tryz.prog 158 [.ptr an 0,.str s,az] h fun x J=>∃aK aJ,dW aj J an aK aJ aO pm (S.cut [aW,bU,gH]) steps:=by
 have E:=eC 17 (by decide) aM
 obtain ⟨_,_,_,_,_,_,M⟩:=M
 obtain ⟨a0,cv⟩:=pZ al.1
 obtain ⟨eU,cQ,ey,fN,_,_,_,_,_,_,_,_,b3,_,bY⟩:=M.arg A 0 0 aW rfl rfl
 rw [cv] at bY
 simp only [cP,dD,e3] at bY
 have a8:=bY _ (Ext.refl _)
 obtain ⟨bt,dh⟩:=hc al.2.1
 obtain ⟨jk,bX,dj,k3,_,_,_,_,_,_,_,_,cB,_,b7⟩:=M.arg A 1 1 bU rfl rfl
 rw [dh] at b7
 simp only [cP,dD,e3] at b7
 have bc:=b7 _ (Ext.refl _)
 obtain ⟨b1,nT⟩:=hc al.2.2
 obtain ⟨Ae,cD,eW,Wp,_,_,_,_,_,_,_,_,ib,_,jN⟩:=M.arg A 2 2 gH rfl rfl
 rw [nT] at jN
 simp only [cP,dD,e3] at jN
 have eI:=jN _ (Ext.refl _)
 refine FH rfl (bO ?_)
 unfold Co
 have v_:=O.texts _ _ cv
 have fw:=O.ints _ _ dh
 have hn:=O.ints _ _ nT
 have dq:IntKind.i64.wrap (bt+b1)=bt+b1:=wrap_i64 (by omega) (by omega)
 by_cases bD:0≤bt
 · have e1:=eq_true bD
   by_cases bG:0≤b1
   · have hp:=eq_true bG
     by_cases ax:bt+b1≤(a0.length:Int)
     · have mS:=eq_true ax
       have g2:mo (.str a0) (some (.int .i64 bt)) (some (.int .i64 (bt+b1))) none=some (.str ((a0.drop bt.toNat).take b1.toNat)):=by
        rw [IU,if_pos (by omega)]
        congr 4
        omega
       simp +contextual only [b3,a8.1,a8.2,cB,bc.1,bc.2,ib,eI.1,eI.2,e1,hp,mS,dq,g2,E,↓ab,ae,simprocAttr]
       refine aS (IG _ ((a0.drop bt.toNat).take b1.toNat)) ?_
       rintro x aB F
       obtain ⟨aK,aJ,bI,rfl,a1,t⟩:=M.make (v:=.text ((a0.drop bt.toNat).take b1.toNat)) F rfl
       simp +contextual only [b3,a8.1,a8.2,cB,bc.1,bc.2,ib,eI.1,eI.2,E,↓ab,ae,simprocAttr]
       refine aS (jS ⟨_,_,_,_,_,_,bI⟩ O.w a1) ?_
       rintro x bw ⟨cK,bz⟩
       simp +contextual only [b3,a8.1,a8.2,cB,bc.1,bc.2,ib,eI.1,eI.2,E,↓ab,ae,simprocAttr]
       refine ⟨cK,aJ,?_⟩
       simp only [av.cut,List.getD_cons_zero,List.getD_cons_succ,cv,dh,nT]
       rw [if_pos (by omega)]
       exact bz
     · have mS:=eq_false ax
       simp +contextual only [b3,a8.1,a8.2,cB,bc.1,bc.2,ib,eI.1,eI.2,e1,hp,mS,dq,E,↓ab,ae,simprocAttr]
       refine aS (ob _ 2 .aw ⟨rfl,rfl,rfl⟩) ?_
       rintro x aB F
       obtain ⟨aK,aJ,bI,rfl,a1,t⟩:=M.make (v:=.df 2 []) F rfl
       simp +contextual only [E,↓ab,ae,simprocAttr]
       refine aS (ts ⟨_,_,_,_,_,_,bI⟩ O.w a1) ?_
       rintro x bw ⟨cK,bz⟩
       simp +contextual only [E,↓ab,ae,simprocAttr]
       refine ⟨cK,aJ,?_⟩
       simp only [av.cut,List.getD_cons_zero,List.getD_cons_succ,cv,dh,nT]
       rw [if_neg (by omega)]
       exact bz
   · have hp:=eq_false bG
     simp +contextual only [b3,a8.1,a8.2,cB,bc.1,bc.2,ib,eI.1,eI.2,e1,hp,E,↓ab,ae,simprocAttr]
     refine aS (ob _ 2 .aw ⟨rfl,rfl,rfl⟩) ?_
     rintro x aB F
     obtain ⟨aK,aJ,bI,rfl,a1,t⟩:=M.make (v:=.df 2 []) F rfl
     simp +contextual only [E,↓ab,ae,simprocAttr]
     refine aS (ts ⟨_,_,_,_,_,_,bI⟩ O.w a1) ?_
     rintro x bw ⟨cK,bz⟩
     simp +contextual only [E,↓ab,ae,simprocAttr]
     refine ⟨cK,aJ,?_⟩
     simp only [av.cut,List.getD_cons_zero,List.getD_cons_succ,cv,dh,nT]
     rw [if_neg (by omega)]
     exact bz
 · have e1:=eq_false bD
   simp +contextual only [b3,a8.1,a8.2,cB,bc.1,bc.2,ib,eI.1,eI.2,e1,E,↓ab,ae,simprocAttr]
   refine aS (ob _ 2 .aw ⟨rfl,rfl,rfl⟩) ?_
   rintro x aB F
   obtain ⟨aK,aJ,bI,rfl,a1,t⟩:=M.make (v:=.df 2 []) F rfl
   simp +contextual only [E,↓ab,ae,simprocAttr]
   refine aS (ts ⟨_,_,_,_,_,_,bI⟩ O.w a1) ?_
   rintro x bw ⟨cK,bz⟩
   simp +contextual only [E,↓ab,ae,simprocAttr]
   refine ⟨cK,aJ,?_⟩
   simp only [av.cut,List.getD_cons_zero,List.getD_cons_succ,cv,dh,nT]
   rw [if_neg (by omega)]
   exact bz
end
end Go.Proofs.YtjbiefneffiogaaGreat
namespace Go.Proofs.YtjbiefneffiogaaGreat
open Go bs
section
variable {aj h J:ai} {an:aV} {K:fl} {aq:List aV} {aO pm:V} {S:av} {steps:Int} {aX a6 w2 bZ b4 bj:V}
def eY:bK→bK
 | .seq _ c=>c
 | c=>c
def pM:bK→bK
 | .seq c _=>c
 | c=>c
def j':bK:=eY (eY (eY iM))
theorem TB:iM=.seq (pM iM) (.seq (pM (eY iM)) (.seq (pM (eY (eY iM))) j')):=rfl
set_option maxRecDepth 4000 in
set_option maxHeartbeats 4000000 in
theorem lR {s:List UInt8} {b:Bool} {bu:List Nat} {az:V} {Q:cN→bP→ai→Prop} (M:ee aj h an K aq aO pm S steps aX a6 w2 bZ b4 bj) (jM:bu.length≤3) (A:ek h aq bu az)
 (aM:∀v ad,cj ad 1 v bu.length (cd (bu.map fun j=>cP (S.val j)))→bB Tryz.prog 155 [.str s,v] ad fun x J=>x=.bool b∧J=ad)
 (hn:b=false→∀r J,dW aj J an K aq aO pm S.gb steps→Q .ret r J)
 (H:b=true→∀r ad,r 0=.ptr an 0→r 1=.str s→r 2=az→ee aj ad an K aq aO pm S steps aX a6 w2 bZ b4 bj→ek ad aq bu az→bN Tryz.prog [.c j'] .normal r ad Q):
 bN Tryz.prog [.c iM] .normal (bP.au [.ptr an 0,.str s,az]) h Q:=by
 rw [TB]
 generalize j'=rest at H ⊢
 unfold iM
 simp only [eY,pM]
 have ck:Ext h (h.new (.au [] 0 false)):=(Ext.refl h).new _
 have dF:=M.rep.ext.next
 have Ak:=A.1.len
 simp +contextual only [↓ab,ae,simprocAttr]
 refine fV (fun r J=>r 0=.ptr an 0∧r 1=.str s∧r 2=az∧∃i:Nat,r 7=.int .i64 i∧i≤bu.length∧Ext h J∧cn h.next J 1 (r 6) i (cd ((bu.take i).map fun j=>cP (S.val j)))) (fun r J=>bu.length - (r 7).gV) ?_ ?_
 · exact ⟨by simp only [↓ab,bf,simprocAttr],by simp only [↓ab,bf,simprocAttr],by simp only [↓ab,bf,simprocAttr],0,by simp only [↓ab,bf,simprocAttr]<;>rfl,Nat.zero_le _,ck,by simp only [↓ab,bf,simprocAttr];exact cn.empty (h:=h) 1 (Nat.le_refl _)⟩
 · rintro r ad ⟨bm,aY,bn,i,gj,aH,aI,dO⟩
   unfold KM
   generalize On:r 6=v6 at *
   have rK:=aI.next
   have aD:=M.ext aI
   have cr:=A.ext aI
   by_cases a7:i<bu.length
   · have bV:((i:Int) < (bu.length:Int))=True:=eq_true (by omega)
     have hs:=g4 a7 (by omega)
     obtain ⟨bQ,b,o,cw,_,_,_,_,_,_,_,_,b9,_,cG⟩:=aD.arg cr i i (bu[i]'a7) rfl (List.getElem?_eq_getElem a7)
     have l:=cG _ (Ext.refl _)
     obtain ⟨db,aB,b_,ch,cI,ga,fG⟩:=ja (cs:=[.int .i64 (cP (S.val (bu[i]'a7)))]) (by omega) dO rK (by unfold top;omega) rfl rfl
     simp +contextual only [bm,aY,bn,gj,On,Ak,bV,b9,l.1,l.2,b_,hs,↓ab,ae,simprocAttr]
     refine ⟨⟨i+1,rfl,a7,?_,?_⟩,by omega⟩
     · exact aI.qZ cI (fun b q=>dO.base q)
     · rw [List.take_succ_eq_append_getElem a7,List.map_append,show ∀a b:List Int,cd (a++b)=cd a++cd b from fun a b=>by simp [cd]]
       exact ch
   · have bV:((i:Int) < (bu.length:Int))=False:=eq_false (by omega)
     obtain rfl:i=bu.length:=by omega
     rw [List.take_length] at dO
     simp +contextual only [bm,aY,bn,gj,On,Ak,bV,↓ab,ae,simprocAttr]
     refine aS (aM _ _ dO.v) ?_
     rintro x ak ⟨rfl,aZ⟩
     obtain rfl:ad=ak:=aZ.symm
     cases b with
     | false=>
       simp +contextual only [bm,aY,bn,↓ab,ae,simprocAttr]
       refine aS (mm ⟨_,_,_,_,_,_,aD⟩ 6) ?_
       rintro y aB bz
       simp +contextual only [↓ab,ae,simprocAttr]
       exact hn rfl _ _ bz
     | true=>
       simp +contextual only [bm,aY,bn,↓ab,ae,simprocAttr]
       exact H rfl _ _ (by simp only [bm,↓ab,bf,simprocAttr]) (by simp only [aY,↓ab,bf,simprocAttr]) (by simp only [bn,↓ab,bf,simprocAttr]) aD cr
set_option maxRecDepth 4000 in
set_option maxHeartbeats 4000000 in
theorem aeo {s:List UInt8} (aM:s=[97,100,100]) (M:dW aj h an K aq aO pm S steps) (O:Ok S) {aN:List UInt8} (en:cj aj 1 aO aN.length (dt aN)) (hlen:aN.length≤1073741824) (fx:S.read≤aN.length) {aW bU:Nat} {az:V} (A:ek h aq [aW,bU] az):
 bB Tryz.prog 111 [.ptr an 0,.str s,az] h fun x J=>∃aK aJ,dW aj J an aK aJ aO pm (S.fX [aW,bU] fun a b=>S.dN (.int (wr (a+b)))) steps:=by
 have E:=eC 0 (by decide) aM
 obtain ⟨hO,hP,ht,lT,lV,lU,M⟩:=M
 refine lB rfl (bO (lR (b:=dw S [aW,bU] [1,1]) M (bu:=[aW,bU]) (by simp) A (fun v ad V=>aeK aM _ _ V) ?_ ?_))
 · intro al c2 bw bz
   refine ⟨trivial,_,rfl,K,aq,?_⟩
   rw [r5 al]
   exact bz
 intro al r ad bm aY bn aD cr
 unfold j' iM
 simp only [eY]
 simp only [dw,Bool.and_true,Bool.and_eq_true,decide_eq_true_eq] at al
 obtain ⟨a0,cv⟩:=hc al.1
 obtain ⟨eU,cQ,ey,fN,_,_,_,_,_,_,_,_,b3,_,bY⟩:=aD.arg cr 0 0 aW rfl rfl
 rw [cv] at bY
 simp only [cP,dD,e3] at bY
 have a8:=bY _ (Ext.refl _)
 obtain ⟨bt,dh⟩:=hc al.2
 obtain ⟨jk,bX,dj,k3,_,_,_,_,_,_,_,_,cB,_,b7⟩:=aD.arg cr 1 1 bU rfl rfl
 rw [dh] at b7
 simp only [cP,dD,e3] at b7
 have bc:=b7 _ (Ext.refl _)
 simp +contextual only [bm,aY,bn,b3,a8.1,a8.2,cB,bc.1,bc.2,E,↓ab,ae,simprocAttr]
 refine aS (aea aM a0 bt ad (O.ints _ _ cv) (O.ints _ _ dh)) ?_
 rintro x ej ⟨y,cs,rfl,g_,Fr⟩
 obtain ⟨aK,aJ,bI,rfl,a1,t⟩:=aD.make Fr g_
 obtain ⟨_,_,cp,_⟩:=Fr
 have fZ:=bY _ cp
 have f':=b7 _ cp
 simp +contextual only [bm,aY,bn,b3,a8.1,a8.2,cB,bc.1,bc.2,fZ.1,fZ.2,f'.1,f'.2,E,↓ab,ae,simprocAttr]
 refine aS (jS ⟨_,_,_,_,_,_,bI⟩ O.w a1) ?_
 rintro x bw ⟨cK,bz⟩
 simp +contextual only [bm,aY,bn,E,↓ab,ae,simprocAttr]
 refine ⟨cK,aJ,?_⟩
 simp only [av.fX,List.getD_cons_zero,List.getD_cons_succ,cv,dh]
 exact bz
set_option maxRecDepth 4000 in
set_option maxHeartbeats 4000000 in
theorem aeG {s:List UInt8} (aM:s=[115,117,98]) (M:dW aj h an K aq aO pm S steps) (O:Ok S) {aN:List UInt8} (en:cj aj 1 aO aN.length (dt aN)) (hlen:aN.length≤1073741824) (fx:S.read≤aN.length) {aW bU:Nat} {az:V} (A:ek h aq [aW,bU] az):
 bB Tryz.prog 111 [.ptr an 0,.str s,az] h fun x J=>∃aK aJ,dW aj J an aK aJ aO pm (S.fX [aW,bU] fun a b=>S.dN (.int (wr (a-b)))) steps:=by
 have E:=eC 1 (by decide) aM
 obtain ⟨hO,hP,ht,lT,lV,lU,M⟩:=M
 refine lB rfl (bO (lR (b:=dw S [aW,bU] [1,1]) M (bu:=[aW,bU]) (by simp) A (fun v ad V=>ae1 aM _ _ V) ?_ ?_))
 · intro al c2 bw bz
   refine ⟨trivial,_,rfl,K,aq,?_⟩
   rw [r5 al]
   exact bz
 intro al r ad bm aY bn aD cr
 unfold j' iM
 simp only [eY]
 simp only [dw,Bool.and_true,Bool.and_eq_true,decide_eq_true_eq] at al
 obtain ⟨a0,cv⟩:=hc al.1
 obtain ⟨eU,cQ,ey,fN,_,_,_,_,_,_,_,_,b3,_,bY⟩:=aD.arg cr 0 0 aW rfl rfl
 rw [cv] at bY
 simp only [cP,dD,e3] at bY
 have a8:=bY _ (Ext.refl _)
 obtain ⟨bt,dh⟩:=hc al.2
 obtain ⟨jk,bX,dj,k3,_,_,_,_,_,_,_,_,cB,_,b7⟩:=aD.arg cr 1 1 bU rfl rfl
 rw [dh] at b7
 simp only [cP,dD,e3] at b7
 have bc:=b7 _ (Ext.refl _)
 simp +contextual only [bm,aY,bn,b3,a8.1,a8.2,cB,bc.1,bc.2,E,↓ab,ae,simprocAttr]
 refine aS (aej aM a0 bt ad (O.ints _ _ cv) (O.ints _ _ dh)) ?_
 rintro x ej ⟨y,cs,rfl,g_,Fr⟩
 obtain ⟨aK,aJ,bI,rfl,a1,t⟩:=aD.make Fr g_
 obtain ⟨_,_,cp,_⟩:=Fr
 have fZ:=bY _ cp
 have f':=b7 _ cp
 simp +contextual only [bm,aY,bn,b3,a8.1,a8.2,cB,bc.1,bc.2,fZ.1,fZ.2,f'.1,f'.2,E,↓ab,ae,simprocAttr]
 refine aS (jS ⟨_,_,_,_,_,_,bI⟩ O.w a1) ?_
 rintro x bw ⟨cK,bz⟩
 simp +contextual only [bm,aY,bn,E,↓ab,ae,simprocAttr]
 refine ⟨cK,aJ,?_⟩
 simp only [av.fX,List.getD_cons_zero,List.getD_cons_succ,cv,dh]
 exact bz
set_option maxRecDepth 4000 in
set_option maxHeartbeats 4000000 in
theorem aeA {s:List UInt8} (aM:s=[109,117,108]) (M:dW aj h an K aq aO pm S steps) (O:Ok S) {aN:List UInt8} (en:cj aj 1 aO aN.length (dt aN)) (hlen:aN.length≤1073741824) (fx:S.read≤aN.length) {aW bU:Nat} {az:V} (A:ek h aq [aW,bU] az):
 bB Tryz.prog 111 [.ptr an 0,.str s,az] h fun x J=>∃aK aJ,dW aj J an aK aJ aO pm (S.fX [aW,bU] fun a b=>S.dN (.int (wr (a * b)))) steps:=by
 have E:=eC 2 (by decide) aM
 obtain ⟨hO,hP,ht,lT,lV,lU,M⟩:=M
 refine lB rfl (bO (lR (b:=dw S [aW,bU] [1,1]) M (bu:=[aW,bU]) (by simp) A (fun v ad V=>aeV aM _ _ V) ?_ ?_))
 · intro al c2 bw bz
   refine ⟨trivial,_,rfl,K,aq,?_⟩
   rw [r5 al]
   exact bz
 intro al r ad bm aY bn aD cr
 unfold j' iM
 simp only [eY]
 simp only [dw,Bool.and_true,Bool.and_eq_true,decide_eq_true_eq] at al
 obtain ⟨a0,cv⟩:=hc al.1
 obtain ⟨eU,cQ,ey,fN,_,_,_,_,_,_,_,_,b3,_,bY⟩:=aD.arg cr 0 0 aW rfl rfl
 rw [cv] at bY
 simp only [cP,dD,e3] at bY
 have a8:=bY _ (Ext.refl _)
 obtain ⟨bt,dh⟩:=hc al.2
 obtain ⟨jk,bX,dj,k3,_,_,_,_,_,_,_,_,cB,_,b7⟩:=aD.arg cr 1 1 bU rfl rfl
 rw [dh] at b7
 simp only [cP,dD,e3] at b7
 have bc:=b7 _ (Ext.refl _)
 simp +contextual only [bm,aY,bn,b3,a8.1,a8.2,cB,bc.1,bc.2,E,↓ab,ae,simprocAttr]
 refine aS (aei aM a0 bt ad (O.ints _ _ cv) (O.ints _ _ dh)) ?_
 rintro x ej ⟨y,cs,rfl,g_,Fr⟩
 obtain ⟨aK,aJ,bI,rfl,a1,t⟩:=aD.make Fr g_
 obtain ⟨_,_,cp,_⟩:=Fr
 have fZ:=bY _ cp
 have f':=b7 _ cp
 simp +contextual only [bm,aY,bn,b3,a8.1,a8.2,cB,bc.1,bc.2,fZ.1,fZ.2,f'.1,f'.2,E,↓ab,ae,simprocAttr]
 refine aS (jS ⟨_,_,_,_,_,_,bI⟩ O.w a1) ?_
 rintro x bw ⟨cK,bz⟩
 simp +contextual only [bm,aY,bn,E,↓ab,ae,simprocAttr]
 refine ⟨cK,aJ,?_⟩
 simp only [av.fX,List.getD_cons_zero,List.getD_cons_succ,cv,dh]
 exact bz
set_option maxRecDepth 4000 in
set_option maxHeartbeats 4000000 in
theorem aet {s:List UInt8} (aM:s=[100,105,118]) (M:dW aj h an K aq aO pm S steps) (O:Ok S) {aN:List UInt8} (en:cj aj 1 aO aN.length (dt aN)) (hlen:aN.length≤1073741824) (fx:S.read≤aN.length) {aW bU:Nat} {az:V} (A:ek h aq [aW,bU] az):
 bB Tryz.prog 111 [.ptr an 0,.str s,az] h fun x J=>∃aK aJ,dW aj J an aK aJ aO pm (S.fX [aW,bU] fun a b=>if b=0 then S.nv (.df 1 []) else S.dN (.int (wr (a.tdiv b)))) steps:=by
 have E:=eC 3 (by decide) aM
 obtain ⟨hO,hP,ht,lT,lV,lU,M⟩:=M
 refine lB rfl (bO (lR (b:=dw S [aW,bU] [1,1]) M (bu:=[aW,bU]) (by simp) A (fun v ad V=>aeO aM _ _ V) ?_ ?_))
 · intro al c2 bw bz
   refine ⟨trivial,_,rfl,K,aq,?_⟩
   rw [r5 al]
   exact bz
 intro al r ad bm aY bn aD cr
 unfold j' iM
 simp only [eY]
 simp only [dw,Bool.and_true,Bool.and_eq_true,decide_eq_true_eq] at al
 obtain ⟨a0,cv⟩:=hc al.1
 obtain ⟨eU,cQ,ey,fN,_,_,_,_,_,_,_,_,b3,_,bY⟩:=aD.arg cr 0 0 aW rfl rfl
 rw [cv] at bY
 simp only [cP,dD,e3] at bY
 have a8:=bY _ (Ext.refl _)
 obtain ⟨bt,dh⟩:=hc al.2
 obtain ⟨jk,bX,dj,k3,_,_,_,_,_,_,_,_,cB,_,b7⟩:=aD.arg cr 1 1 bU rfl rfl
 rw [dh] at b7
 simp only [cP,dD,e3] at b7
 have bc:=b7 _ (Ext.refl _)
 by_cases bD:bt=0
 · subst bD
   simp +contextual only [bm,aY,bn,b3,a8.1,a8.2,cB,bc.1,bc.2,E,↓ab,ae,simprocAttr]
   refine aS (aec aM a0 ad) ?_
   rintro x ej ⟨rfl,rfl⟩
   simp +contextual only [bm,aY,bn,b3,a8.1,a8.2,cB,bc.1,bc.2,E,↓ab,ae,simprocAttr]
   refine aS (ob _ 1 .aw ⟨rfl,rfl,rfl⟩) ?_
   rintro x aB F
   obtain ⟨aK,aJ,bI,rfl,a1,t⟩:=aD.make (v:=.df 1 []) F rfl
   simp +contextual only [bm,aY,bn,b3,a8.1,a8.2,cB,bc.1,bc.2,E,↓ab,ae,simprocAttr]
   refine aS (ts ⟨_,_,_,_,_,_,bI⟩ O.w a1) ?_
   rintro x bw ⟨cK,bz⟩
   simp +contextual only [bm,aY,bn,b3,a8.1,a8.2,cB,bc.1,bc.2,E,↓ab,ae,simprocAttr]
   refine ⟨cK,aJ,?_⟩
   simp only [av.fX,List.getD_cons_zero,List.getD_cons_succ,cv,dh,if_true]
   exact bz
 simp +contextual only [bm,aY,bn,b3,a8.1,a8.2,cB,bc.1,bc.2,E,↓ab,ae,simprocAttr]
 refine aS (aeb aM a0 bt ad (O.ints _ _ cv) (O.ints _ _ dh) bD) ?_
 rintro x ej ⟨y,cs,rfl,g_,Fr⟩
 obtain ⟨aK,aJ,bI,rfl,a1,t⟩:=aD.make Fr g_
 obtain ⟨_,_,cp,_⟩:=Fr
 have fZ:=bY _ cp
 have f':=b7 _ cp
 simp +contextual only [bm,aY,bn,b3,a8.1,a8.2,cB,bc.1,bc.2,fZ.1,fZ.2,f'.1,f'.2,E,↓ab,ae,simprocAttr]
 refine aS (jS ⟨_,_,_,_,_,_,bI⟩ O.w a1) ?_
 rintro x bw ⟨cK,bz⟩
 simp +contextual only [bm,aY,bn,E,↓ab,ae,simprocAttr]
 refine ⟨cK,aJ,?_⟩
 simp only [av.fX,List.getD_cons_zero,List.getD_cons_succ,cv,dh]
 rw [if_neg bD]
 exact bz
set_option maxRecDepth 4000 in
set_option maxHeartbeats 4000000 in
theorem aez {s:List UInt8} (aM:s=[109,111,100]) (M:dW aj h an K aq aO pm S steps) (O:Ok S) {aN:List UInt8} (en:cj aj 1 aO aN.length (dt aN)) (hlen:aN.length≤1073741824) (fx:S.read≤aN.length) {aW bU:Nat} {az:V} (A:ek h aq [aW,bU] az):
 bB Tryz.prog 111 [.ptr an 0,.str s,az] h fun x J=>∃aK aJ,dW aj J an aK aJ aO pm (S.fX [aW,bU] fun a b=>if b=0 then S.nv (.df 1 []) else S.dN (.int (wr (a.tmod b)))) steps:=by
 have E:=eC 4 (by decide) aM
 obtain ⟨hO,hP,ht,lT,lV,lU,M⟩:=M
 refine lB rfl (bO (lR (b:=dw S [aW,bU] [1,1]) M (bu:=[aW,bU]) (by simp) A (fun v ad V=>aeU aM _ _ V) ?_ ?_))
 · intro al c2 bw bz
   refine ⟨trivial,_,rfl,K,aq,?_⟩
   rw [r5 al]
   exact bz
 intro al r ad bm aY bn aD cr
 unfold j' iM
 simp only [eY]
 simp only [dw,Bool.and_true,Bool.and_eq_true,decide_eq_true_eq] at al
 obtain ⟨a0,cv⟩:=hc al.1
 obtain ⟨eU,cQ,ey,fN,_,_,_,_,_,_,_,_,b3,_,bY⟩:=aD.arg cr 0 0 aW rfl rfl
 rw [cv] at bY
 simp only [cP,dD,e3] at bY
 have a8:=bY _ (Ext.refl _)
 obtain ⟨bt,dh⟩:=hc al.2
 obtain ⟨jk,bX,dj,k3,_,_,_,_,_,_,_,_,cB,_,b7⟩:=aD.arg cr 1 1 bU rfl rfl
 rw [dh] at b7
 simp only [cP,dD,e3] at b7
 have bc:=b7 _ (Ext.refl _)
 by_cases bD:bt=0
 · subst bD
   simp +contextual only [bm,aY,bn,b3,a8.1,a8.2,cB,bc.1,bc.2,E,↓ab,ae,simprocAttr]
   refine aS (aeh aM a0 ad) ?_
   rintro x ej ⟨rfl,rfl⟩
   simp +contextual only [bm,aY,bn,b3,a8.1,a8.2,cB,bc.1,bc.2,E,↓ab,ae,simprocAttr]
   refine aS (ob _ 1 .aw ⟨rfl,rfl,rfl⟩) ?_
   rintro x aB F
   obtain ⟨aK,aJ,bI,rfl,a1,t⟩:=aD.make (v:=.df 1 []) F rfl
   simp +contextual only [bm,aY,bn,b3,a8.1,a8.2,cB,bc.1,bc.2,E,↓ab,ae,simprocAttr]
   refine aS (ts ⟨_,_,_,_,_,_,bI⟩ O.w a1) ?_
   rintro x bw ⟨cK,bz⟩
   simp +contextual only [bm,aY,bn,b3,a8.1,a8.2,cB,bc.1,bc.2,E,↓ab,ae,simprocAttr]
   refine ⟨cK,aJ,?_⟩
   simp only [av.fX,List.getD_cons_zero,List.getD_cons_succ,cv,dh,if_true]
   exact bz
 simp +contextual only [bm,aY,bn,b3,a8.1,a8.2,cB,bc.1,bc.2,E,↓ab,ae,simprocAttr]
 refine aS (aeg aM a0 bt ad (O.ints _ _ cv) (O.ints _ _ dh) bD) ?_
 rintro x ej ⟨y,cs,rfl,g_,Fr⟩
 obtain ⟨aK,aJ,bI,rfl,a1,t⟩:=aD.make Fr g_
 obtain ⟨_,_,cp,_⟩:=Fr
 have fZ:=bY _ cp
 have f':=b7 _ cp
 simp +contextual only [bm,aY,bn,b3,a8.1,a8.2,cB,bc.1,bc.2,fZ.1,fZ.2,f'.1,f'.2,E,↓ab,ae,simprocAttr]
 refine aS (jS ⟨_,_,_,_,_,_,bI⟩ O.w a1) ?_
 rintro x bw ⟨cK,bz⟩
 simp +contextual only [bm,aY,bn,E,↓ab,ae,simprocAttr]
 refine ⟨cK,aJ,?_⟩
 simp only [av.fX,List.getD_cons_zero,List.getD_cons_succ,cv,dh]
 rw [if_neg bD]
 exact bz
set_option maxRecDepth 4000 in
set_option maxHeartbeats 4000000 in
theorem aeu {s:List UInt8} (aM:s=[101,113]) (M:dW aj h an K aq aO pm S steps) (O:Ok S) {aN:List UInt8} (en:cj aj 1 aO aN.length (dt aN)) (hlen:aN.length≤1073741824) (fx:S.read≤aN.length) {aW bU:Nat} {az:V} (A:ek h aq [aW,bU] az):
 bB Tryz.prog 111 [.ptr an 0,.str s,az] h fun x J=>∃aK aJ,dW aj J an aK aJ aO pm (S.fX [aW,bU] fun a b=>S.dN (av.ny (decide (a=b)))) steps:=by
 have E:=eC 5 (by decide) aM
 obtain ⟨hO,hP,ht,lT,lV,lU,M⟩:=M
 refine lB rfl (bO (lR (b:=dw S [aW,bU] [1,1]) M (bu:=[aW,bU]) (by simp) A (fun v ad V=>aeP aM _ _ V) ?_ ?_))
 · intro al c2 bw bz
   refine ⟨trivial,_,rfl,K,aq,?_⟩
   rw [r5 al]
   exact bz
 intro al r ad bm aY bn aD cr
 unfold j' iM
 simp only [eY]
 simp only [dw,Bool.and_true,Bool.and_eq_true,decide_eq_true_eq] at al
 obtain ⟨a0,cv⟩:=hc al.1
 obtain ⟨eU,cQ,ey,fN,_,_,_,_,_,_,_,_,b3,_,bY⟩:=aD.arg cr 0 0 aW rfl rfl
 rw [cv] at bY
 simp only [cP,dD,e3] at bY
 have a8:=bY _ (Ext.refl _)
 obtain ⟨bt,dh⟩:=hc al.2
 obtain ⟨jk,bX,dj,k3,_,_,_,_,_,_,_,_,cB,_,b7⟩:=aD.arg cr 1 1 bU rfl rfl
 rw [dh] at b7
 simp only [cP,dD,e3] at b7
 have bc:=b7 _ (Ext.refl _)
 simp +contextual only [bm,aY,bn,b3,a8.1,a8.2,cB,bc.1,bc.2,E,↓ab,ae,simprocAttr]
 refine aS (aed aM a0 bt ad (O.ints _ _ cv) (O.ints _ _ dh)) ?_
 rintro x ej ⟨y,cs,rfl,g_,Fr⟩
 obtain ⟨aK,aJ,bI,rfl,a1,t⟩:=aD.make Fr g_
 obtain ⟨_,_,cp,_⟩:=Fr
 have fZ:=bY _ cp
 have f':=b7 _ cp
 simp +contextual only [bm,aY,bn,b3,a8.1,a8.2,cB,bc.1,bc.2,fZ.1,fZ.2,f'.1,f'.2,E,↓ab,ae,simprocAttr]
 refine aS (jS ⟨_,_,_,_,_,_,bI⟩ O.w a1) ?_
 rintro x bw ⟨cK,bz⟩
 simp +contextual only [bm,aY,bn,E,↓ab,ae,simprocAttr]
 refine ⟨cK,aJ,?_⟩
 simp only [av.fX,List.getD_cons_zero,List.getD_cons_succ,cv,dh]
 exact bz
set_option maxRecDepth 4000 in
set_option maxHeartbeats 4000000 in
theorem aey {s:List UInt8} (aM:s=[108,116]) (M:dW aj h an K aq aO pm S steps) (O:Ok S) {aN:List UInt8} (en:cj aj 1 aO aN.length (dt aN)) (hlen:aN.length≤1073741824) (fx:S.read≤aN.length) {aW bU:Nat} {az:V} (A:ek h aq [aW,bU] az):
 bB Tryz.prog 111 [.ptr an 0,.str s,az] h fun x J=>∃aK aJ,dW aj J an aK aJ aO pm (S.fX [aW,bU] fun a b=>S.dN (av.ny (decide (a<b)))) steps:=by
 have E:=eC 6 (by decide) aM
 obtain ⟨hO,hP,ht,lT,lV,lU,M⟩:=M
 refine lB rfl (bO (lR (b:=dw S [aW,bU] [1,1]) M (bu:=[aW,bU]) (by simp) A (fun v ad V=>aeT aM _ _ V) ?_ ?_))
 · intro al c2 bw bz
   refine ⟨trivial,_,rfl,K,aq,?_⟩
   rw [r5 al]
   exact bz
 intro al r ad bm aY bn aD cr
 unfold j' iM
 simp only [eY]
 simp only [dw,Bool.and_true,Bool.and_eq_true,decide_eq_true_eq] at al
 obtain ⟨a0,cv⟩:=hc al.1
 obtain ⟨eU,cQ,ey,fN,_,_,_,_,_,_,_,_,b3,_,bY⟩:=aD.arg cr 0 0 aW rfl rfl
 rw [cv] at bY
 simp only [cP,dD,e3] at bY
 have a8:=bY _ (Ext.refl _)
 obtain ⟨bt,dh⟩:=hc al.2
 obtain ⟨jk,bX,dj,k3,_,_,_,_,_,_,_,_,cB,_,b7⟩:=aD.arg cr 1 1 bU rfl rfl
 rw [dh] at b7
 simp only [cP,dD,e3] at b7
 have bc:=b7 _ (Ext.refl _)
 simp +contextual only [bm,aY,bn,b3,a8.1,a8.2,cB,bc.1,bc.2,E,↓ab,ae,simprocAttr]
 refine aS (aef aM a0 bt ad (O.ints _ _ cv) (O.ints _ _ dh)) ?_
 rintro x ej ⟨y,cs,rfl,g_,Fr⟩
 obtain ⟨aK,aJ,bI,rfl,a1,t⟩:=aD.make Fr g_
 obtain ⟨_,_,cp,_⟩:=Fr
 have fZ:=bY _ cp
 have f':=b7 _ cp
 simp +contextual only [bm,aY,bn,b3,a8.1,a8.2,cB,bc.1,bc.2,fZ.1,fZ.2,f'.1,f'.2,E,↓ab,ae,simprocAttr]
 refine aS (jS ⟨_,_,_,_,_,_,bI⟩ O.w a1) ?_
 rintro x bw ⟨cK,bz⟩
 simp +contextual only [bm,aY,bn,E,↓ab,ae,simprocAttr]
 refine ⟨cK,aJ,?_⟩
 simp only [av.fX,List.getD_cons_zero,List.getD_cons_succ,cv,dh]
 exact bz
set_option maxRecDepth 4000 in
set_option maxHeartbeats 4000000 in
theorem aex {s:List UInt8} (aM:s=[108,101]) (M:dW aj h an K aq aO pm S steps) (O:Ok S) {aN:List UInt8} (en:cj aj 1 aO aN.length (dt aN)) (hlen:aN.length≤1073741824) (fx:S.read≤aN.length) {aW bU:Nat} {az:V} (A:ek h aq [aW,bU] az):
 bB Tryz.prog 111 [.ptr an 0,.str s,az] h fun x J=>∃aK aJ,dW aj J an aK aJ aO pm (S.fX [aW,bU] fun a b=>S.dN (av.ny (decide (a≤b)))) steps:=by
 have E:=eC 7 (by decide) aM
 obtain ⟨hO,hP,ht,lT,lV,lU,M⟩:=M
 refine lB rfl (bO (lR (b:=dw S [aW,bU] [1,1]) M (bu:=[aW,bU]) (by simp) A (fun v ad V=>aeS aM _ _ V) ?_ ?_))
 · intro al c2 bw bz
   refine ⟨trivial,_,rfl,K,aq,?_⟩
   rw [r5 al]
   exact bz
 intro al r ad bm aY bn aD cr
 unfold j' iM
 simp only [eY]
 simp only [dw,Bool.and_true,Bool.and_eq_true,decide_eq_true_eq] at al
 obtain ⟨a0,cv⟩:=hc al.1
 obtain ⟨eU,cQ,ey,fN,_,_,_,_,_,_,_,_,b3,_,bY⟩:=aD.arg cr 0 0 aW rfl rfl
 rw [cv] at bY
 simp only [cP,dD,e3] at bY
 have a8:=bY _ (Ext.refl _)
 obtain ⟨bt,dh⟩:=hc al.2
 obtain ⟨jk,bX,dj,k3,_,_,_,_,_,_,_,_,cB,_,b7⟩:=aD.arg cr 1 1 bU rfl rfl
 rw [dh] at b7
 simp only [cP,dD,e3] at b7
 have bc:=b7 _ (Ext.refl _)
 simp +contextual only [bm,aY,bn,b3,a8.1,a8.2,cB,bc.1,bc.2,E,↓ab,ae,simprocAttr]
 refine aS (aee aM a0 bt ad (O.ints _ _ cv) (O.ints _ _ dh)) ?_
 rintro x ej ⟨y,cs,rfl,g_,Fr⟩
 obtain ⟨aK,aJ,bI,rfl,a1,t⟩:=aD.make Fr g_
 obtain ⟨_,_,cp,_⟩:=Fr
 have fZ:=bY _ cp
 have f':=b7 _ cp
 simp +contextual only [bm,aY,bn,b3,a8.1,a8.2,cB,bc.1,bc.2,fZ.1,fZ.2,f'.1,f'.2,E,↓ab,ae,simprocAttr]
 refine aS (jS ⟨_,_,_,_,_,_,bI⟩ O.w a1) ?_
 rintro x bw ⟨cK,bz⟩
 simp +contextual only [bm,aY,bn,E,↓ab,ae,simprocAttr]
 refine ⟨cK,aJ,?_⟩
 simp only [av.fX,List.getD_cons_zero,List.getD_cons_succ,cv,dh]
 exact bz
end
end Go.Proofs.YtjbiefneffiogaaGreat
namespace Go.Proofs.YtjbiefneffiogaaGreat
open Go bs
section
variable {aj h J:ai} {an:aV} {K:fl} {aq:List aV} {aO pm:V} {S:av} {steps:Int} {aX a6 w2 bZ b4 bj:V}
set_option maxRecDepth 4000 in
set_option maxHeartbeats 4000000 in
theorem aeB {s:List UInt8} (aM:s=[110,101,103]) (M:dW aj h an K aq aO pm S steps) (O:Ok S) {aN:List UInt8} (en:cj aj 1 aO aN.length (dt aN)) (hlen:aN.length≤1073741824) (fx:S.read≤aN.length) {aW:Nat} {az:V} (A:ek h aq [aW] az):
 bB Tryz.prog 111 [.ptr an 0,.str s,az] h fun x J=>∃aK aJ,dW aj J an aK aJ aO pm (S.jP [aW] fun a=>S.dN (.int (wr (-a)))) steps:=by
 have E:=eC 11 (by decide) aM
 obtain ⟨hO,hP,ht,lT,lV,lU,M⟩:=M
 refine lB rfl (bO (lR (b:=dw S [aW] [1]) M (bu:=[aW]) (by simp) A (fun v ad V=>aeW aM _ V) ?_ ?_))
 · intro al c2 bw bz
   refine ⟨trivial,_,rfl,K,aq,?_⟩
   rw [yw al]
   exact bz
 intro al r ad bm aY bn aD cr
 unfold j' iM
 simp only [eY]
 simp only [dw,Bool.and_true,Bool.and_eq_true,decide_eq_true_eq] at al
 obtain ⟨a0,cv⟩:=hc al
 obtain ⟨eU,cQ,ey,fN,_,_,_,_,_,_,_,_,b3,_,bY⟩:=aD.arg cr 0 0 aW rfl rfl
 rw [cv] at bY
 simp only [cP,dD,e3] at bY
 have a8:=bY _ (Ext.refl _)
 have ba:=O.ints _ _ cv
 have aR:IntKind.i64.wrap (0-a0)=-a0:=by rw [wrap_i64 (by omega) (by omega)];omega
 simp +contextual only [bm,aY,bn,b3,a8.1,a8.2,aR,E,↓ab,ae,simprocAttr]
 refine ih (yF (-a0) ad ⟨by omega,by omega⟩) ?_
 simp +contextual only [bm,aY,bn,b3,a8.1,a8.2,aR,E,↓ab,ae,simprocAttr]
 refine aS (q' ad (wr (-a0))) ?_
 rintro x aB F
 obtain ⟨aK,aJ,bI,rfl,a1,t⟩:=aD.make (v:=.int (wr (-a0))) F rfl
 simp +contextual only [bm,aY,bn,E,↓ab,ae,simprocAttr]
 refine aS (jS ⟨_,_,_,_,_,_,bI⟩ O.w a1) ?_
 rintro x bw ⟨cK,bz⟩
 simp +contextual only [bm,aY,bn,E,↓ab,ae,simprocAttr]
 refine ⟨cK,aJ,?_⟩
 simp only [av.jP,List.getD_cons_zero,List.getD_cons_succ,cv]
 exact bz
set_option maxRecDepth 4000 in
set_option maxHeartbeats 4000000 in
theorem aev {s:List UInt8} (aM:s=[103,101,116,99]) (M:dW aj h an K aq aO pm S steps) (O:Ok S) {aN:List UInt8} (en:cj aj 1 aO aN.length (dt aN)) (hlen:aN.length≤1073741824) (fx:S.read≤aN.length) {aW:Nat} {az:V} (A:ek h aq [aW] az):
 bB Tryz.prog 111 [.ptr an 0,.str s,az] h fun x J=>∃aK aJ,dW aj J an aK aJ aO pm (S.uh aN) steps:=by
 have E:=eC 12 (by decide) aM
 obtain ⟨hO,hP,ht,lT,lV,lU,M⟩:=M
 refine lB rfl (bO (lR (b:=true) M (bu:=[aW]) (by simp) A (fun v ad V=>aeQ aM _ V) (fun q=>absurd q (by decide)) ?_))
 intro al r ad bm aY bn aD cr
 unfold j' iM
 simp only [eY]
 have cE:=aD.get
 have aL:=en.len
 have ku:=en.one
 by_cases ba:S.read=aN.length
 · have oW:((S.read:Int)=(aN.length:Int))=True:=eq_true (by omega)
   simp +contextual only [bm,aY,bn,cE,aL,oW,E,↓ab,ae,simprocAttr]
   refine aS (q' ad (-1)) ?_
   rintro x aB F
   obtain ⟨aK,aJ,bI,rfl,a1,t⟩:=aD.make (v:=.int (-1)) F rfl
   simp +contextual only [bm,aY,bn,E,↓ab,ae,simprocAttr]
   refine aS (jS ⟨_,_,_,_,_,_,bI⟩ O.w a1) ?_
   rintro x bw ⟨cK,bz⟩
   simp +contextual only [bm,aY,bn,E,↓ab,ae,simprocAttr]
   refine ⟨cK,aJ,?_⟩
   simp only [av.uh,Nat.le_refl]
   rw [if_pos (by omega)]
   exact bz
 · have oW:((S.read:Int)=(aN.length:Int))=False:=eq_false (by omega)
   have dH:IntKind.i64.wrap ((S.read:Int)+1)=((S.read+1:Nat):Int):=by rw [wrap_i64 (by omega) (by omega)];rfl
   have dq:IntKind.i64.wrap (((S.read+1:Nat):Int)-1)=(S.read:Int):=by rw [wrap_i64 (by omega) (by omega)];omega
   have M2:=aD.next {S with read:=S.read+1} steps _ _ _ _ _ _ rfl aD.co aD.dy aD.wr aD.de
   have dY:=M2.get
   obtain ⟨b,o,b9,cG⟩:=Ku en (k:=.i64) (i:=S.read) (by omega)
   have vL:=(aN[S.read]?.getD 0).toNat_lt
   have hA:IntKind.i64.wrap (((aN[S.read]?.getD 0).toNat:Nat):Int)=(((aN[S.read]?.getD 0).toNat:Nat):Int):=wrap_i64 (by omega) (by omega)
   have b7:=cG _ M2.rep.ext
   simp only [dB] at b7
   simp +contextual only [bm,aY,bn,cE,dY,aL,oW,dH,dq,hA,b9,b7,ku.1,ku.2.1,E,↓ab,ae,simprocAttr]
   refine aS (q' _ (((aN[S.read]?.getD 0).toNat:Nat):Int)) ?_
   rintro x aB Fr
   obtain ⟨aK,aJ,bI,rfl,a1,t⟩:=M2.make (v:=.int (((aN[S.read]?.getD 0).toNat:Nat):Int)) Fr rfl
   have iQ:=bI.get
   have rW:=cG _ bI.rep.ext
   simp +contextual only [bm,aY,bn,rv,cE,dY,iQ,aL,oW,dH,dq,hA,b9,b7,rW,ku.1,ku.2.1,E,↓ab,ae,simprocAttr]
   refine aS (jS ⟨_,_,_,_,_,_,bI⟩ O.w a1) ?_
   rintro x bw ⟨cK,bz⟩
   simp +contextual only [bm,aY,bn,rv,cE,dY,iQ,aL,oW,dH,dq,hA,b9,b7,rW,ku.1,ku.2.1,E,↓ab,ae,simprocAttr]
   refine ⟨cK,aJ,?_⟩
   have Yf:¬aN.length≤S.read:=by omega
   simp only [av.uh,if_neg Yf]
   exact bz
set_option maxRecDepth 4000 in
set_option maxHeartbeats 4000000 in
theorem aeC {s:List UInt8} (aM:s=[112,117,116,99]) (M:dW aj h an K aq aO pm S steps) (O:Ok S) {aN:List UInt8} (en:cj aj 1 aO aN.length (dt aN)) (hlen:aN.length≤1073741824) (fx:S.read≤aN.length) {aW:Nat} {az:V} (A:ek h aq [aW] az):
 bB Tryz.prog 111 [.ptr an 0,.str s,az] h fun x J=>∃aK aJ,dW aj J an aK aJ aO pm (S.jP [aW] fun a=>{S with out:=S.out++[av.byteOf a]}.dN (.df 0 [])) steps:=by
 have E:=eC 13 (by decide) aM
 obtain ⟨hO,hP,ht,lT,lV,lU,M⟩:=M
 refine lB rfl (bO (lR (b:=dw S [aW] [1]) M (bu:=[aW]) (by simp) A (fun v ad V=>aeX aM _ V) ?_ ?_))
 · intro al c2 bw bz
   refine ⟨trivial,_,rfl,K,aq,?_⟩
   rw [yw al]
   exact bz
 intro al r ad bm aY bn aD cr
 unfold j' iM
 simp only [eY]
 simp only [dw,Bool.and_true,Bool.and_eq_true,decide_eq_true_eq] at al
 obtain ⟨a0,cv⟩:=hc al
 obtain ⟨eU,cQ,ey,fN,_,_,_,_,_,_,_,_,b3,_,bY⟩:=aD.arg cr 0 0 aW rfl rfl
 rw [cv] at bY
 simp only [cP,dD,e3] at bY
 have a8:=bY _ (Ext.refl _)
 have ba:=O.ints _ _ cv
 have aR:IntKind.u8.wrap (a0 % 256)=((av.byteOf a0).toNat:Int):=by rw [wrap_u8,Kr]
 have Jc:=J7 (P:=Tryz.prog) ba
 have cE:=aD.get
 have xN:Ext ad (ad.new (.au [.int .u8 ((av.byteOf a0).toNat:Int)] 0 false)):=(Ext.refl ad).new _
 have hn:=O.out
 obtain ⟨db,aB,b_,ch,cI,ga,fG⟩:=ja (cs:=[.int .u8 ((av.byteOf a0).toNat:Int)]) (by omega) aD.de.1 aD.rep.ext.next (by unfold top;omega) rfl rfl
 have r9:cn aj.next aB 1 db (S.out++[av.byteOf a0]).length (dt (S.out++[av.byteOf a0])):=by
  rw [zA,List.length_append];exact ch
 obtain ⟨kW,bI⟩:=aD.wrote r9 cI (fun b q=>by rcases fG b q with r | r;exact .inl r;exact .inr (by omega))
 have iQ:aB.get an=_:=(aD.zS cI).trans cE
 have dx:=ch.v.one
 have Ge:=(xN.get an aD.b5.2).trans cE
 have me:=bY _ xN
 have AF:=me.1
 rw [eG] at AF
 simp +contextual only [rv,cE,Ge,iQ,bm,aY,bn,b3,a8.1,a8.2,AF,me.1,me.2,aR,Jc,b_,dx.1,dx.2.1,E,↓ab,ae,simprocAttr]
 refine aS (ob _ 0 .aw ⟨rfl,rfl,rfl⟩) ?_
 rintro x bw Fr
 obtain ⟨aK,aJ,bz,rfl,a1,t⟩:=bI.make (v:=.df 0 []) Fr rfl
 simp +contextual only [bm,aY,bn,E,↓ab,ae,simprocAttr]
 refine aS (jS ⟨_,_,_,_,_,_,bz⟩ O.w a1) ?_
 rintro x ej ⟨vl,oz⟩
 simp +contextual only [bm,aY,bn,E,↓ab,ae,simprocAttr]
 refine ⟨vl,aJ,?_⟩
 simp only [av.jP,List.getD_cons_zero,cv]
 exact oz
set_option maxRecDepth 4000 in
set_option maxHeartbeats 4000000 in
theorem aeD {s:List UInt8} (aM:s=[112,117,116,115]) (M:dW aj h an K aq aO pm S steps) (O:Ok S) {aN:List UInt8} (en:cj aj 1 aO aN.length (dt aN)) (hlen:aN.length≤1073741824) (fx:S.read≤aN.length) {aW:Nat} {az:V} (A:ek h aq [aW] az):
 bB Tryz.prog 111 [.ptr an 0,.str s,az] h fun x J=>∃aK aJ,dW aj J an aK aJ aO pm (S.mu [aW] fun t=>{S with out:=S.out++t}.dN (.df 0 [])) steps:=by
 have E:=eC 14 (by decide) aM
 obtain ⟨hO,hP,ht,lT,lV,lU,M⟩:=M
 refine lB rfl (bO (lR (b:=dw S [aW] [2]) M (bu:=[aW]) (by simp) A (fun v ad V=>aeY aM _ V) ?_ ?_))
 · intro al c2 bw bz
   refine ⟨trivial,_,rfl,K,aq,?_⟩
   rw [Eg al]
   exact bz
 intro al r ad bm aY bn aD cr
 unfold j' iM
 simp only [eY]
 simp only [dw,Bool.and_true,Bool.and_eq_true,decide_eq_true_eq] at al
 obtain ⟨a0,cv⟩:=pZ al
 obtain ⟨eU,cQ,ey,fN,_,_,_,_,_,_,_,_,b3,_,bY⟩:=aD.arg cr 0 0 aW rfl rfl
 rw [cv] at bY
 simp only [cP,dD,e3] at bY
 have a8:=bY _ (Ext.refl _)
 have cE:=aD.get
 have hn:=O.out
 have v_:=O.texts _ _ cv
 obtain ⟨db,aB,b_,ch,cI,fG⟩:=J9 a0 aD.de.1 aD.rep.ext.next (by unfold top;omega)
 have r9:cn aj.next aB 1 db (S.out++a0).length (dt (S.out++a0)):=by
  rw [zA,List.length_append];exact ch
 obtain ⟨kW,bI⟩:=aD.wrote r9 cI fG
 have iQ:aB.get an=_:=(aD.zS cI).trans cE
 have dx:=ch.v.one
 simp +contextual only [rv,cE,iQ,bm,aY,bn,b3,a8.1,a8.2,b_,dx.1,dx.2.1,E,↓ab,ae,simprocAttr]
 refine aS (ob _ 0 .aw ⟨rfl,rfl,rfl⟩) ?_
 rintro x bw Fr
 obtain ⟨aK,aJ,bz,rfl,a1,t⟩:=bI.make (v:=.df 0 []) Fr rfl
 simp +contextual only [bm,aY,bn,E,↓ab,ae,simprocAttr]
 refine aS (jS ⟨_,_,_,_,_,_,bz⟩ O.w a1) ?_
 rintro x ej ⟨vl,oz⟩
 simp +contextual only [bm,aY,bn,E,↓ab,ae,simprocAttr]
 refine ⟨vl,aJ,?_⟩
 simp only [av.mu,List.getD_cons_zero,cv]
 exact oz
set_option maxRecDepth 4000 in
set_option maxHeartbeats 4000000 in
theorem aeF {s:List UInt8} (aM:s=[115,105,122,101]) (M:dW aj h an K aq aO pm S steps) (O:Ok S) {aN:List UInt8} (en:cj aj 1 aO aN.length (dt aN)) (hlen:aN.length≤1073741824) (fx:S.read≤aN.length) {aW:Nat} {az:V} (A:ek h aq [aW] az):
 bB Tryz.prog 111 [.ptr an 0,.str s,az] h fun x J=>∃aK aJ,dW aj J an aK aJ aO pm (S.mu [aW] fun t=>S.dN (.int t.length)) steps:=by
 have E:=eC 15 (by decide) aM
 obtain ⟨hO,hP,ht,lT,lV,lU,M⟩:=M
 refine lB rfl (bO (lR (b:=dw S [aW] [2]) M (bu:=[aW]) (by simp) A (fun v ad V=>ae0 aM _ V) ?_ ?_))
 · intro al c2 bw bz
   refine ⟨trivial,_,rfl,K,aq,?_⟩
   rw [Eg al]
   exact bz
 intro al r ad bm aY bn aD cr
 unfold j' iM
 simp only [eY]
 simp only [dw,Bool.and_true,Bool.and_eq_true,decide_eq_true_eq] at al
 obtain ⟨a0,cv⟩:=pZ al
 obtain ⟨eU,cQ,ey,fN,_,_,_,_,_,_,_,_,b3,_,bY⟩:=aD.arg cr 0 0 aW rfl rfl
 rw [cv] at bY
 simp only [cP,dD,e3] at bY
 have a8:=bY _ (Ext.refl _)
 simp +contextual only [bm,aY,bn,b3,a8.1,a8.2,E,↓ab,ae,simprocAttr]
 refine aS (q' ad a0.length) ?_
 rintro x aB F
 obtain ⟨aK,aJ,bI,rfl,a1,t⟩:=aD.make (v:=.int a0.length) F rfl
 simp +contextual only [bm,aY,bn,E,↓ab,ae,simprocAttr]
 refine aS (jS ⟨_,_,_,_,_,_,bI⟩ O.w a1) ?_
 rintro x bw ⟨cK,bz⟩
 simp +contextual only [bm,aY,bn,E,↓ab,ae,simprocAttr]
 refine ⟨cK,aJ,?_⟩
 simp only [av.mu,List.getD_cons_zero,List.getD_cons_succ,cv]
 exact bz
set_option maxRecDepth 4000 in
set_option maxHeartbeats 4000000 in
theorem aeq {s:List UInt8} (aM:s=[99,104,114]) (M:dW aj h an K aq aO pm S steps) (O:Ok S) {aN:List UInt8} (en:cj aj 1 aO aN.length (dt aN)) (hlen:aN.length≤1073741824) (fx:S.read≤aN.length) {aW:Nat} {az:V} (A:ek h aq [aW] az):
 bB Tryz.prog 111 [.ptr an 0,.str s,az] h fun x J=>∃aK aJ,dW aj J an aK aJ aO pm (S.jP [aW] fun a=>S.dN (.text [av.byteOf a])) steps:=by
 have E:=eC 16 (by decide) aM
 obtain ⟨hO,hP,ht,lT,lV,lU,M⟩:=M
 refine lB rfl (bO (lR (b:=dw S [aW] [1]) M (bu:=[aW]) (by simp) A (fun v ad V=>aeM aM _ V) ?_ ?_))
 · intro al c2 bw bz
   refine ⟨trivial,_,rfl,K,aq,?_⟩
   rw [yw al]
   exact bz
 intro al r ad bm aY bn aD cr
 unfold j' iM
 simp only [eY]
 simp only [dw,Bool.and_true,Bool.and_eq_true,decide_eq_true_eq] at al
 obtain ⟨a0,cv⟩:=hc al
 obtain ⟨eU,cQ,ey,fN,_,_,_,_,_,_,_,_,b3,_,bY⟩:=aD.arg cr 0 0 aW rfl rfl
 rw [cv] at bY
 simp only [cP,dD,e3] at bY
 have a8:=bY _ (Ext.refl _)
 have ba:=O.ints _ _ cv
 have aR:IntKind.u8.wrap (a0 % 256)=((av.byteOf a0).toNat:Int):=by rw [wrap_u8,Kr]
 have Jc:=J7 (P:=Tryz.prog) ba
 have k1:nM.run (.slice (ao ad.next) 0 1 1) (ad.new (.au [.int .u8 ((av.byteOf a0).toNat:Int)] 0 false))=.val (.str [av.byteOf a0]) (ad.new (.au [.int .u8 ((av.byteOf a0).toNat:Int)] 0 false)):=MV [av.byteOf a0] ad (show 1≤top by decide)
 have M2:=aD.ext ((Ext.refl ad).new (.au [.int .u8 ((av.byteOf a0).toNat:Int)] 0 false))
 simp +contextual only [bm,aY,bn,b3,a8.1,a8.2,aR,Jc,k1,E,↓ab,ae,simprocAttr]
 refine aS (IG _ [av.byteOf a0]) ?_
 rintro x aB F
 obtain ⟨aK,aJ,bI,rfl,a1,t⟩:=M2.make (v:=.text [av.byteOf a0]) F rfl
 simp +contextual only [bm,aY,bn,E,↓ab,ae,simprocAttr]
 refine aS (jS ⟨_,_,_,_,_,_,bI⟩ O.w a1) ?_
 rintro x bw ⟨cK,bz⟩
 simp +contextual only [bm,aY,bn,E,↓ab,ae,simprocAttr]
 refine ⟨cK,aJ,?_⟩
 simp only [av.jP,List.getD_cons_zero,List.getD_cons_succ,cv]
 exact bz
set_option maxRecDepth 4000 in
set_option maxHeartbeats 4000000 in
theorem aep {s:List UInt8} (aM:s=[98,121,116,101]) (M:dW aj h an K aq aO pm S steps) (O:Ok S) {aN:List UInt8} (en:cj aj 1 aO aN.length (dt aN)) (hlen:aN.length≤1073741824) (fx:S.read≤aN.length) {aW bU:Nat} {az:V} (A:ek h aq [aW,bU] az):
 bB Tryz.prog 111 [.ptr an 0,.str s,az] h fun x J=>∃aK aJ,dW aj J an aK aJ aO pm (S.oK [aW,bU]) steps:=by
 have E:=eC 8 (by decide) aM
 obtain ⟨hO,hP,ht,lT,lV,lU,M⟩:=M
 refine lB rfl (bO (lR (b:=dw S [aW,bU] [2,1]) M (bu:=[aW,bU]) (by simp) A (fun v ad V=>aeL aM _ _ V) ?_ ?_))
 · intro al c2 bw bz
   refine ⟨trivial,_,rfl,K,aq,?_⟩
   rw [Kq al]
   exact bz
 intro al r ad bm aY bn aD cr
 unfold j' iM
 simp only [eY]
 simp only [dw,Bool.and_true,Bool.and_eq_true,decide_eq_true_eq] at al
 simp +contextual only [bm,aY,bn,E,↓ab,ae,simprocAttr]
 refine aS (ae3 aM ⟨_,_,_,_,_,_,aD⟩ O cr al) ?_
 rintro x bw ⟨cK,zn,bz⟩
 simp +contextual only [bm,aY,bn,E,↓ab,ae,simprocAttr]
 exact ⟨cK,zn,bz⟩
set_option maxRecDepth 4000 in
set_option maxHeartbeats 4000000 in
theorem aes {s:List UInt8} (aM:s=[99,117,116]) (M:dW aj h an K aq aO pm S steps) (O:Ok S) {aN:List UInt8} (en:cj aj 1 aO aN.length (dt aN)) (hlen:aN.length≤1073741824) (fx:S.read≤aN.length) {aW bU gH:Nat} {az:V} (A:ek h aq [aW,bU,gH] az):
 bB Tryz.prog 111 [.ptr an 0,.str s,az] h fun x J=>∃aK aJ,dW aj J an aK aJ aO pm (S.cut [aW,bU,gH]) steps:=by
 have E:=eC 17 (by decide) aM
 obtain ⟨hO,hP,ht,lT,lV,lU,M⟩:=M
 refine lB rfl (bO (lR (b:=dw S [aW,bU,gH] [2,1,1]) M (bu:=[aW,bU,gH]) (by simp) A (fun v ad V=>aeN aM _ _ _ V) ?_ ?_))
 · intro al c2 bw bz
   refine ⟨trivial,_,rfl,K,aq,?_⟩
   rw [M0 al]
   exact bz
 intro al r ad bm aY bn aD cr
 unfold j' iM
 simp only [eY]
 simp only [dw,Bool.and_true,Bool.and_eq_true,decide_eq_true_eq] at al
 simp +contextual only [bm,aY,bn,E,↓ab,ae,simprocAttr]
 refine aS (ae4 aM ⟨_,_,_,_,_,_,aD⟩ O cr al) ?_
 rintro x bw ⟨cK,zn,bz⟩
 simp +contextual only [bm,aY,bn,E,↓ab,ae,simprocAttr]
 exact ⟨cK,zn,bz⟩
set_option maxRecDepth 4000 in
set_option maxHeartbeats 4000000 in
theorem aew {s:List UInt8} (aM:s=[106,111,105,110]) (M:dW aj h an K aq aO pm S steps) (O:Ok S) {aN:List UInt8} (en:cj aj 1 aO aN.length (dt aN)) (hlen:aN.length≤1073741824) (fx:S.read≤aN.length) {aW bU:Nat} {az:V} (A:ek h aq [aW,bU] az):
 bB Tryz.prog 111 [.ptr an 0,.str s,az] h fun x J=>∃aK aJ,dW aj J an aK aJ aO pm (S.join [aW,bU]) steps:=by
 have E:=eC 9 (by decide) aM
 obtain ⟨hO,hP,ht,lT,lV,lU,M⟩:=M
 refine lB rfl (bO (lR (b:=dw S [aW,bU] [2,2]) M (bu:=[aW,bU]) (by simp) A (fun v ad V=>aeR aM _ _ V) ?_ ?_))
 · intro al c2 bw bz
   refine ⟨trivial,_,rfl,K,aq,?_⟩
   rw [OQ al]
   exact bz
 intro al r ad bm aY bn aD cr
 unfold j' iM
 simp only [eY]
 simp only [dw,Bool.and_true,Bool.and_eq_true,decide_eq_true_eq] at al
 simp +contextual only [bm,aY,bn,E,↓ab,ae,simprocAttr]
 refine aS (ae5 aM ⟨_,_,_,_,_,_,aD⟩ O cr al) ?_
 rintro x bw ⟨cK,zn,bz⟩
 simp +contextual only [bm,aY,bn,E,↓ab,ae,simprocAttr]
 exact ⟨cK,zn,bz⟩
set_option maxRecDepth 4000 in
set_option maxHeartbeats 4000000 in
theorem aeE {s:List UInt8} (aM:s=[115,101,116]) (M:dW aj h an K aq aO pm S steps) (O:Ok S) {aN:List UInt8} (en:cj aj 1 aO aN.length (dt aN)) (hlen:aN.length≤1073741824) (fx:S.read≤aN.length) {aW bU:Nat} {az:V} (A:ek h aq [aW,bU] az):
 bB Tryz.prog 111 [.ptr an 0,.str s,az] h fun x J=>∃aK aJ,dW aj J an aK aJ aO pm (S.pe [aW,bU]) steps:=by
 have E:=eC 10 (by decide) aM
 obtain ⟨hO,hP,ht,lT,lV,lU,M⟩:=M
 refine lB rfl (bO (lR (b:=dw S [aW] [4]) M (bu:=[aW,bU]) (by simp) A (fun v ad V=>aeZ aM _ _ V) ?_ ?_))
 · intro al c2 bw bz
   refine ⟨trivial,_,rfl,K,aq,?_⟩
   have di:S.pe [aW,bU]=S.gb:=by
    simp only [dw,Bool.and_true,decide_eq_false_iff_not] at al
    simp only [av.pe,List.getD_cons_zero]
    cases bh:S.val aW<;>first | rfl | (rw [bh] at al;exact absurd rfl al)
   rw [di]
   exact bz
 intro al r ad bm aY bn aD cr
 unfold j' iM
 simp only [eY]
 simp only [dw,Bool.and_true,Bool.and_eq_true,decide_eq_true_eq] at al
 obtain ⟨t,bg,bh⟩:=wz al
 obtain ⟨eU,cQ,ey,fN,aP,aA,a2,aiv,da,eh,eE,aid,b3,jE,bY⟩:=aD.arg cr 0 0 aW rfl rfl
 obtain ⟨jk,bX,dj,k3,_,_,_,_,_,_,_,_,cB,_,b7⟩:=aD.arg cr 1 1 bU rfl rfl
 have a8:=bY _ (Ext.refl _)
 have bc:=b7 _ (Ext.refl _)
 rw [bh] at a8 bY jE
 simp only [cP,dD,e3] at a8 bY
 have x_:S.pe [aW,bU]=if t=0∧bg.length=1 then {S with st:=S.st.set aW (.df 0 [bU])}.dN (.df 0 []) else S.gb:=by
  simp only [av.pe,List.getD_cons_zero,List.getD_cons_succ,bh]
 have Rb:∀aB,dW aj aB an K aq aO pm S.gb steps→¬(t=0∧bg.length=1)→∃aK aJ,dW aj aB an aK aJ aO pm (S.pe [aW,bU]) steps:=fun aB bz hn=>⟨K,aq,by rw [x_,if_neg hn];exact bz⟩
 by_cases aF:t=0
 rotate_left
 · have mQ:=eq_false aF
   simp +contextual only [bm,aY,bn,b3,cB,a8.1,bc.1,a8.2,bc.2,mQ,E,↓ab,ae,simprocAttr]
   refine aS (mm ⟨_,_,_,_,_,_,aD⟩ 6) ?_
   rintro x bw bz
   simp +contextual only [bm,aY,bn,E,↓ab,ae,simprocAttr]
   exact Rb _ bz (by omega)
 subst aF
 obtain ⟨f1,f2,f3⟩:=jE
 have aL:=f1.v.len
 by_cases jL:bg.length=1
 rotate_left
 · have GD:((bg.length:Int)=1)=False:=eq_false (by omega)
   simp +contextual only [bm,aY,bn,b3,cB,a8.1,bc.1,a8.2,bc.2,aL,GD,E,↓ab,ae,simprocAttr]
   refine aS (mm ⟨_,_,_,_,_,_,aD⟩ 6) ?_
   rintro x bw bz
   simp +contextual only [bm,aY,bn,E,↓ab,ae,simprocAttr]
   exact Rb _ bz (by omega)
 rw [jL] at aL f1
 obtain ⟨kd,uf,M8,ahu,M9⟩:=f1.v.k' (k:=.i64) (i:=0) (by decide)
 have g':=Ft f1.v (k:=.i64) (i:=0) (by decide) M8
 have FT:e8 1 fN (.int .i64 0)=some (.ptr kd uf):=by simpa using M8
 obtain ⟨k,b_,_,cI,ga⟩:=f1.Im g' (c:=0) (by simp [jL]) (y:=cV aq bU) rfl rfl
 rw [Nat.add_zero] at b_
 have o7:qT 1 ad kd uf (.ptr (dX aq bU) 0) (ad.get kd)=some (ad.set kd k):=b_
 have fk:((((1:Nat):Int))=1)=True:=eq_true rfl
 have b':=f2 kd M9
 have t:c8 aj K ad aq K (ad.set kd k) aq (·=.lE aW):=c8.td b' (f1.base M9)
 have vS:aW<S.st.length:=by rw [←aD.rep.len];exact eU
 have Ay:(bg.map (cV aq)).set 0 (cV aq bU)=[bU].map (cV aq):=by
  match bg,jL with
  | [a],_=>rfl
 rw [Ay] at cI
 obtain ⟨fq,Wo,fS,FQ,eR,db,_⟩:=aD.rep.val aW _ (av.Ep vS)
 rw [bh] at db
 have g_:=H_ (a8.2.symm.trans eR)
 cases db
 simp only [List.cons.injEq,true_and,and_true] at g_
 obtain ⟨rfl,rfl,rfl,rfl,rfl,rfl,rfl,rfl,rfl⟩:=g_
 have M2:ee aj (ad.set kd k) an K aq aO pm {S with st:=S.st.set aW (.df 0 [bU])} steps hO hP ht lT lV lU:=by
  have kK:K an≠.no:=by rw [aD.dp];simp
  refine ⟨aD.rep.El (i:=aW) (v:=.df 0 [bU]) t (by simp) (by intro j bQ;simpa using bQ) (by simp) ?_,aD.dp,?_,aD.co,aD.dy.cu t (by simp),aD.wr.cu t (by simp) (by simp),aD.de.cu t (by simp)⟩
  · exact ⟨fq,fN,.cc,_,by rw [t.get _ (by rw [fq];simp) (by rw [fq];simp)];exact a8.2,rfl,⟨cI,f2,by simpa using jk⟩,trivial⟩
  · rw [t.get an kK (by rw [aD.dp];simp)];exact aD.get
 simp +contextual only [bm,aY,bn,b3,cB,a8.1,bc.1,a8.2,bc.2,aL,fk,FT,o7,E,↓ab,ae,simprocAttr]
 refine aS (ob _ 0 .aw ⟨rfl,rfl,rfl⟩) ?_
 rintro x aB Fr
 obtain ⟨aK,aJ,bI,rfl,a1,t⟩:=M2.make (v:=.df 0 []) Fr rfl
 simp +contextual only [bm,aY,bn,E,↓ab,ae,simprocAttr]
 refine aS (jS ⟨_,_,_,_,_,_,bI⟩ O.w a1) ?_
 rintro x bw ⟨cK,bz⟩
 simp +contextual only [bm,aY,bn,E,↓ab,ae,simprocAttr]
 refine ⟨cK,aJ,?_⟩
 rw [x_,if_pos ⟨rfl,jL⟩]
 exact bz
end
end Go.Proofs.YtjbiefneffiogaaGreat
namespace Go.Proofs.YtjbiefneffiogaaGreat
open Go bs
section
variable {aj h J:ai} {an:aV} {K:fl} {aq:List aV} {aO pm:V} {S:av} {steps:Int} {aX a6 az bZ b4 bj:V}
set_option maxHeartbeats 2000000 in
theorem ad' (M:ee aj h an K aq aO pm S steps aX a6 az bZ b4 bj) (a:At) (bh:a.k=1→a.n ∈ S.e.map Prod.fst):
 bB Tryz.prog 109 [.ptr an 0,.agg a.enc] h fun x J=>∃aK aJ,ee aj J an aK aJ aO pm (S.atom a).1 steps aX a6 az bZ b4 bj∧x=cV aJ (S.atom a).2∧(S.atom a).2<aJ.length∧Ext h J∧c8 aj K h aq aK J aJ (fun _=>False):=by
 obtain ⟨j0,g7,hW⟩:=a
 have enc:At.enc ⟨j0,g7,hW⟩=[.int .i64 j0,.int .i64 g7,.str hW]:=rfl
 rw [enc]
 refine Tz rfl (bO ?_)
 unfold KJ
 have hold:Old h an:=M.b5.2
 have eB:(ao h.next=an)=False:=gi hold (Nat.le_refl _)
 have aI:Ext h (h.new (.au [.int .i64 j0,.int .i64 g7,.str hW] 0 false)):=(Ext.refl h).new _
 have aD:=M.ext aI
 have t0:=M.rep.ex aI
 by_cases bS:j0=1
 · subst bS
   have oS:=bh rfl
   simp +contextual only [eB,M.get,↓ab,ae,simprocAttr]
   refine aS (ad7 _ K aq g7 bZ _ aD.dy oS) ?_
   rintro x ak ⟨rfl,rfl,aM⟩
   simp +contextual only [eB,M.get,↓ab,ae,simprocAttr]
   have:S.atom ⟨1,g7,hW⟩=(S,mn S.e g7):=by simp only [av.atom,if_true]
   rw [this]
   exact ⟨K,aq,aD,rfl,aM,aI,t0⟩
 by_cases cF:j0=2
 · subst cF
   simp +contextual only [↓ab,ae,simprocAttr]
   refine aS (q' _ g7) ?_
   rintro x ak F
   obtain ⟨er,gg,M2,rfl,aM,t⟩:=aD.make (v:=.int g7) F rfl
   obtain ⟨_,_,bo,_⟩:=F
   simp +contextual only [↓ab,ae,simprocAttr]
   have:S.atom ⟨2,g7,hW⟩=(S.fW (.int g7),S.st.length):=rfl
   rw [this]
   exact ⟨er,gg,M2,rfl,aM,aI.trans bo,t0.trans t⟩
 · have wu:=eq_false bS
   have uF:=eq_false cF
   have F:gX (h.new (.au [.int .i64 j0,.int .i64 g7,.str hW] 0 false)) ((h.new (.au [.int .i64 j0,.int .i64 g7,.str hW] 0 false)).new (.au [.int .i64 2,.int .i64 0,.str hW,.int .i64 0,.int .i64 0,.int .i64 0,.str [],.aw,.aw,.aw,.cc,.aw,.bool false] 0 false)) (.ptr (ao (h.new (.au [.int .i64 j0,.int .i64 g7,.str hW] 0 false)).next) 0) [.int .i64 2,.int .i64 0,.str hW,.int .i64 0,.int .i64 0,.int .i64 0,.str [],.aw,.aw,.aw,.cc,.aw,.bool false]:=pI _ _
   obtain ⟨er,gg,M2,ax,aM,t⟩:=aD.make (v:=.text hW) F rfl
   obtain ⟨_,_,bo,_⟩:=F
   simp +contextual only [wu,uF,↓ab,ae,simprocAttr]
   have:S.atom ⟨j0,g7,hW⟩=(S.fW (.text hW),S.st.length):=by simp only [av.atom,if_neg bS,if_neg cF]
   rw [this]
   rw [cY] at ax
   exact ⟨er,gg,M2,ax,aM,aI.trans bo,t0.trans t⟩
set_option maxHeartbeats 8000000 in
theorem aeH (M:dW aj h an K aq aO pm S steps) (aC:ef aj S.c [.int .i64 S.c.k,.int .i64 S.c.x,.int .i64 S.c.n,.str S.c.s,aX,a6,az]) (gZ:1≤S.c.l.length) (aL:S.c.l.length≤1048577) (al:∀f ∈ S.c.l.dropLast,1≤f.l.length):
 bB Tryz.prog 115 [.ptr an 0,.agg [.int .i64 S.c.k,.int .i64 S.c.x,.int .i64 S.c.n,.str S.c.s,aX,a6,az]] h fun x J=>∃aK aJ,dW aj J an aK aJ aO pm S.pb steps:=by
 obtain ⟨bt,t1,bc,eq,fB,c5,M⟩:=M
 obtain ⟨vn,qi,cJ⟩:=aC.parts
 have dj:=vn.one
 have eW:=qi.one
 have fz:=cJ.one
 have hlen:=cJ.len
 have dF:=M.rep.ext.next
 have N3:S.c.l.dropLast.length=S.c.l.length-1:=List.length_dropLast
 have dH:IntKind.i64.wrap ((S.c.l.length:Int)-1)=((S.c.l.dropLast.length:Nat):Int):=by rw [wrap_i64 (by omega) (by omega)];omega
 have aI:Ext h (h.new (.au [.int .i64 S.c.k,.int .i64 S.c.x,.int .i64 S.c.n,.str S.c.s,aX,a6,az] 0 false)):=(Ext.refl h).new _
 have bX:(h.new (.au [.int .i64 S.c.k,.int .i64 S.c.x,.int .i64 S.c.n,.str S.c.s,aX,a6,az] 0 false)).get (ao h.next)=.au [.int .i64 S.c.k,.int .i64 S.c.x,.int .i64 S.c.n,.str S.c.s,aX,a6,az] 0 false:=gz _
 have dL:(h.new (.au [.int .i64 S.c.k,.int .i64 S.c.x,.int .i64 S.c.n,.str S.c.s,aX,a6,az] 0 false)).next=h.next+1:=cY _ _
 have aD:=M.ext aI
 have aci:(an=ao h.next)=False:=lM M.b5.2 (Nat.le_refl _)
 have aco:(ao h.next=an)=False:=gi M.b5.2 (Nat.le_refl _)
 generalize jL:S.c.l.dropLast=bg at *
 refine TG rfl (bO ?_)
 unfold KQ
 simp +contextual only [dj.1,dj.2.1,eW.1,eW.2.1,fz.1,fz.2.1,↓ab,ae,simprocAttr]
 generalize h.new (.au [.int .i64 S.c.k,.int .i64 S.c.x,.int .i64 S.c.n,.str S.c.s,aX,a6,az] 0 false)=H1 at *
 refine fV (fun r J=>r 0=.ptr an 0∧r 3=.ptr (ao h.next) 0∧∃i:Nat,r 5=.int .i64 i∧i≤bg.length∧∃aK aJ fS,ee aj J an aK aJ aO pm (S.fA (bg.take i)) steps bt t1 bc fS fB c5∧h.next+1≤J.next∧J.get (ao h.next)=.au [.int .i64 S.c.k,.int .i64 S.c.x,.int .i64 S.c.n,.str S.c.s,aX,a6,az] 0 false∧
  cn (h.next+1) J 1 (r 4) i ((List.range' S.st.length i).map (cV aJ))∧(∀b,(r 4).bb b→aK b=.no)∧aK (ao h.next)=.no) (fun r J=>bg.length - (r 5).gV) ?_ ?_
 · exact ⟨by simp only [↓ab,bf,simprocAttr],by simp only [↓ab,bf,simprocAttr],0,by simp only [↓ab,bf,simprocAttr]<;>rfl,by omega,K,aq,eq,aD,by omega,bX,by simp only [↓ab,bf,simprocAttr];exact ⟨rfl,rfl⟩,by simp only [↓ab,bf,simprocAttr];exact fun b q=>q.elim,M.rep.tmp (by rw [c'];exact Nat.le_refl _)⟩
 · rintro r J ⟨bm,cl,i,hz,aH,aK,aJ,fS,M,a1,dI,dO,h7,x0⟩
   unfold KR
   generalize C_:r 4=v at *
   obtain ⟨adN,adS,adQ,adR,q8⟩:=av.Qo S (bg.take i)
   have cE:=M.get
   have Pv:(ao J.next=ao h.next)=False:=eq_false (by rw [gM];omega)
   by_cases a7:i<bg.length
   · have bV:((i:Int) < (bg.length:Int))=True:=eq_true (by omega)
     have w:=g4 a7 (by omega)
     have uB:=av.Qp S bg a7
     have jj:S.c.l[i]'(by omega)=bg[i]:=by
      have:S.c.l.dropLast[i]? =bg[i]? :=by rw [jL]
      rw [List.getElem?_dropLast,if_pos (by omega),List.getElem?_eq_getElem (by omega),List.getElem?_eq_getElem a7] at this
      simpa using this
     obtain ⟨kd,uf,F_,Ga,zR,AB,ar,F7,rX⟩:=cJ.pC (k:=.i64) (i:=i) (by omega)
     rw [jj] at ar rX
     have ki:=al bg[i] (List.getElem_mem a7)
     generalize bg[i]=f at *
     obtain ⟨_,_,EK⟩:=ar.parts
     obtain ⟨ik,vE,mL,gt,rE,wj,bl,vF,wC⟩:=EK.pC (k:=.i64) (i:=0) (by omega)
     have uC:e8 7 zR (.int .i64 0)=some (.ptr ik vE):=wj
     obtain ⟨oA,qk,ql⟩:=bl.parts
     have gC:=oA.one
     have g3:=qk.one
     have gk:=ql.one
     have qW:=rX J M.rep.ext
     have uI:=wC J M.rep.ext
     have GH:f.l.headD f=f.l[0]'(by omega):=by
      rw [List.headD_eq_head?_getD,List.head?_eq_getElem?,List.getElem?_eq_getElem (by omega)];rfl
     generalize f.l[0]'(by omega)=g at *
     have F:gX J (J.new (.au [.int .i64 3,.int .i64 f.x,.str [],.int .i64 g.k,.int .i64 g.x,.int .i64 g.n,.str g.s,mL,gt,rE,.cc,.aw,.bool false] 0 false)) (.ptr (ao J.next) 0) [.int .i64 3,.int .i64 f.x,.str [],.int .i64 g.k,.int .i64 g.x,.int .i64 g.n,.str g.s,mL,gt,rE,.cc,.aw,.bool false]:=pI _ _
     obtain ⟨er,gg,M2,bG,aM,t⟩:=M.AJ F bl .nil
     obtain ⟨_,_,bo,_⟩:=F
     have lf:(ao J.next=kd)=False:=gi (M.rep.ext.b5 F7) (Nat.le_refl _)
     have acw:(ao J.next=ik)=False:=gi (M.rep.ext.b5 vF) (Nat.le_refl _)
     have vH:S.st.length+i≤aJ.length:=by rw [M.rep.len,q8,List.length_take];omega
     have fI:=dO.ext bo
     rw [←t.yD (DY vH)] at fI
     rw [q8,List.length_take,Nat.min_eq_left (by omega)] at bG aM
     have sY:=bo.next
     obtain ⟨db,aB,b_,ch,cI,ga,fG⟩:=ja (cs:=[.ptr (ao J.next) 0]) (by omega) fI (by omega) (by unfold top;omega) rfl rfl
     have mG:∀b,v.bb b→er b=.no:=fun b q=>by
      by_cases aA:er b=.no
      · exact aA
      · have:=t.fresh b (h7 b q) aA
        have:=dO.v.b5 q
        unfold Old at this
        omega
     have bI:=M2.r3 cI (fun b q=>⟨mG b q,by have:=dO.base q;omega⟩)
     have iQ:=bI.get
     have Dt:=rX _ bI.rep.ext
     have o7:=b_
     simp only [cY] at o7
     have Gw:¬v.bb (ao h.next):=fun q=>by have:=dO.base q;rw [c'] at this;omega
     have S7:(J.new (.au [.int .i64 3,.int .i64 f.x,.str [],.int .i64 g.k,.int .i64 g.x,.int .i64 g.n,.str g.s,mL,gt,rE,.cc,.aw,.bool false] 0 false)).get (ao h.next)=.au [.int .i64 S.c.k,.int .i64 S.c.x,.int .i64 S.c.n,.str S.c.s,aX,a6,az] 0 false:=by rw [bo.get _ (dP (by omega))];exact dI
     have zr:aB.get (ao h.next)=.au [.int .i64 S.c.k,.int .i64 S.c.x,.int .i64 S.c.n,.str S.c.s,aX,a6,az] 0 false:=by rw [cI.get _ (dP (by omega)) Gw];exact S7
     have acn:(ao aB.next=ao h.next)=False:=eq_false (by rw [gM];omega)
     have acm:(ao aB.next=an)=False:=gi bI.b5.2 (Nat.le_refl _)
     have ab4:(an=ao aB.next)=False:=lM bI.b5.2 (Nat.le_refl _)
     have ack:(ao aB.next=kd)=False:=gi (bI.rep.ext.b5 F7) (Nat.le_refl _)
     have fr:=bI.dy.one
     have eA:=(Ext.refl aB).new (.au [.int .i64 f.n,cV gg (S.st.length+i),fS] 0 false)
     obtain ⟨cK,bz,kz,t4⟩:=bI.env eA (b:=ao aB.next) (by rw [c'];exact Nat.le_refl _) uQ (gz _) bI.dy aM
     rw [←bG] at bz kz t4 eA
     have Ya:=eA.next
     simp +contextual only [bm,cl,hz,C_,hlen,dH,bV,cE,dI,zr,Pv,acn,acm,ab4,ack,lf,acw,AB,qW.1,qW.2.1,qW.2.2.1,qW.2.2.2,uC,uI.1,gC.1,gC.2.1,g3.1,g3.2.1,gk.1,gk.2.1,b_,o7,iQ,Dt.2.2.1,fr.1,fr.2.1,fr.2.2,aci,aco,w,↓ab,ae,simprocAttr]
     have GM:er (ao h.next)=.no:=by
      by_cases aA:er (ao h.next)=.no
      · exact aA
      · have:=t.fresh _ x0 aA;rw [c'] at this;omega
     have XX:cK (ao h.next)=.no:=by
      by_cases aA:cK (ao h.next)=.no
      · exact aA
      · have:=t4.fresh _ GM aA;rw [c'] at this;omega
     refine ⟨⟨i+1,rfl,a7,cK,gg,.ptr (ao aB.next) 0,?_,by omega,?_,?_,XX⟩,by omega⟩
     · rw [uB]
       have GP:(S.fA (bg.take i)).st.length=S.st.length+i:=by rw [q8,List.length_take];omega
       have:=bz.next ((S.fA (bg.take i)).ir f) steps bt t1 bc (.ptr (ao aB.next) 0) fB c5 (by simp only [av.ir,av.fW,GH]) bz.co (by simp only [av.ir];rw [GP];exact kz) bz.wr bz.de
       exact this
     · rw [List.range'_1_concat,List.map_append]
       have m:=(Mod.refl (fun b=>b=an) (aB.new (.au [.int .i64 f.n,.ptr (ao J.next) 0,fS] 0 false))).set (fun _=>rfl) (.au [aO,fB,.int .i64 (S.fA (bg.take i)).e6,.int .i64 (S.fA (bg.take i)).fp,.int .i64 (S.fA (bg.take i)).read,.int .i64 steps,c5,.bool (S.fA (bg.take i)).fJ,.int .i64 (S.fA (bg.take i)).c.k,.int .i64 (S.fA (bg.take i)).c.x,.int .i64 (S.fA (bg.take i)).c.n,.str (S.fA (bg.take i)).c.s,bt,t1,bc,.ptr (ao aB.next) 0,.aw] 0 false)
       have r9:=ch
       rw [bG] at r9
       refine (r9.ext eA).mod m fun b q e=>?_
       rw [e] at q
       have zX:er an=.n2:=bI.dp
       rcases fG an q with q | q
       · rw [mG an q] at zX;cases zX
       · have:=M2.b5.2;omega
     · intro b q
       have aA:er b=.no:=by
        rcases fG b q with q | q
        · exact mG b q
        · exact M2.rep.tmp (by omega)
       by_cases a2:cK b=.no
       · exact a2
       · have:=t4.fresh b aA a2
         have:=ch.v.b5 q
         unfold Old at this
         omega
   · have bV:((i:Int) < (bg.length:Int))=False:=eq_false (by omega)
     obtain rfl:i=bg.length:=by omega
     rw [List.take_length] at M cE q8
     have Rv:=dO.v.len
     simp +contextual only [bm,cl,hz,C_,hlen,dH,bV,dI,↓ab,ae,simprocAttr]
     clear bV hz
     generalize cq:S.fA bg=T at *
     refine fV (fun r fh=>r 0=.ptr an 0∧r 3=.ptr (ao h.next) 0∧r 4=v∧∃j:Nat,r 7=.int .i64 j∧j≤bg.length∧ee aj fh an aK aJ aO pm {T with st:=av.h1 T.e S.st.length T.st (bg.take j)} steps bt t1 bc fS fB c5∧
      cn (h.next+1) fh 1 v bg.length ((List.range' S.st.length bg.length).map (cV aJ))∧fh.get (ao h.next)=.au [.int .i64 S.c.k,.int .i64 S.c.x,.int .i64 S.c.n,.str S.c.s,aX,a6,az] 0 false) (fun r fh=>bg.length - (r 7).gV) ?_ ?_
     · exact ⟨by simp only [bm,↓ab,bf,simprocAttr],by simp only [cl,↓ab,bf,simprocAttr],by simp only [C_,↓ab,bf,simprocAttr],0,by simp only [↓ab,bf,simprocAttr]<;>rfl,by omega,M,dO,dI⟩
     · clear bm cl C_ cE M dO dI Pv
       rintro r J ⟨bm,cl,c2,j,gj,bQ,M,dO,dI⟩
       unfold KS
       have cE:=M.get
       have Rw:=dO.v.len
       by_cases a7:j<bg.length
       · have bV:((j:Int) < (bg.length:Int))=True:=eq_true (by omega)
         have w:=g4 a7 (by omega)
         have vH:S.st.length+bg.length≤aJ.length:=by
          rw [M.rep.len]
          show _≤(av.h1 T.e S.st.length T.st (bg.take j)).length
          have:∀(l:List aU) (a:Nat) (st:List eF),(av.h1 T.e a st l).length=st.length:=by
           intro l
           induction l with
           | nil=>intro a st;rfl
           | cons g l bJ=>intro a st;rw [av.h1,bJ,List.length_set]
          rw [this,q8]
          exact Nat.le_refl _
         have A:ek J aJ (List.range' S.st.length bg.length) v:=⟨by rw [List.length_range'];exact dO.v,DY vH⟩
         obtain ⟨b,o,b9,cG,jM⟩:=A.at (k:=.i64) (i:=j) (by rw [List.length_range'];exact a7)
         have j2:(List.range' S.st.length bg.length).getD j 0=S.st.length+j:=by
          rw [List.getD_eq_getElem?_getD,List.getElem?_eq_getElem (by rw [List.length_range'];exact a7),List.getElem_range']
          simp
         rw [j2] at cG jM
         have abW:=cG J (Ext.refl _)
         have qP:(av.h1 T.e S.st.length T.st (bg.take j))[S.st.length+j]? =some (.fn bg[j].x (bg[j].l.headD bg[j]) []):=by
          rw [It _ _ _ _ _ (by rw [List.length_take];omega),←cq]
          exact av.Qn S bg j a7
         obtain ⟨kM,cw,V3,cs,fs,⟨q4,q6,q5,C0,rfl⟩,_,_⟩:=M.rep.val _ _ qP
         have fr:=M.dy.one
         have fj:=(M.rep.new (dX aJ (S.st.length+j)) (by rw [kM];simp)).1
         have oV:(dX aJ (S.st.length+j)=ao h.next)=False:=eq_false fun q=>by rw [q,x0] at kM;cases kM
         have Y5:∀c:cL,¬v.bb (dX aJ (S.st.length+j)):=fun _ q=>by rw [h7 _ q] at kM;cases kM
         simp +contextual only [cV,bm,cl,c2,gj,bV,cE,Rw,b9,abW,fs,fr.1,fr.2.1,w,↓ab,ae,simprocAttr]
         have t:c8 aj aK J aJ aK (J.set (dX aJ (S.st.length+j)) (.au [.int .i64 3,.int .i64 bg[j].x,.str [],.int .i64 (bg[j].l.headD bg[j]).k,.int .i64 (bg[j].l.headD bg[j]).x,.int .i64 (bg[j].l.headD bg[j]).n,.str (bg[j].l.headD bg[j]).s,q4,q6,q5,fS,.aw,.bool false] 0 false)) aJ (·=.val (S.st.length+j)):=c8.td kM fj
         refine ⟨⟨j+1,rfl,a7,?_,?_,?_⟩,by omega⟩
         · have kK:aK an≠.no:=by rw [M.dp];simp
           have di:av.h1 T.e S.st.length T.st (bg.take (j+1))=(av.h1 T.e S.st.length T.st (bg.take j)).set (S.st.length+j) (.fn bg[j].x (bg[j].l.headD bg[j]) T.e):=by
            rw [List.take_succ_eq_append_getElem a7,Iu,List.length_take,Nat.min_eq_left (by omega)]
           rw [di]
           have F0:ev J aK aJ fS T.e:=M.dy
           refine ⟨M.rep.El (i:=S.st.length+j) t (by intro k al;simpa using al) (by simp) (by simp) ?_,M.dp,?_,M.co,M.dy.cu t (by simp),M.wr.cu t (by simp) (by simp),M.de.cu t (by simp)⟩
           · exact ⟨kM,cw,fS,_,by rw [dB,if_pos rfl],⟨q4,q6,q5,C0,rfl⟩,trivial,F0.cu t (by simp)⟩
           · rw [t.get an kK (by rw [M.dp];simp)];exact M.get
         · have m:=(Mod.refl (fun b=>b=dX aJ (S.st.length+j)) J).set (fun _=>rfl) (.au [.int .i64 3,.int .i64 bg[j].x,.str [],.int .i64 (bg[j].l.headD bg[j]).k,.int .i64 (bg[j].l.headD bg[j]).x,.int .i64 (bg[j].l.headD bg[j]).n,.str (bg[j].l.headD bg[j]).s,q4,q6,q5,fS,.aw,.bool false] 0 false)
           refine dO.mod m fun b q e=>?_
           rw [e] at q
           exact Y5 .dead q
         · simp only [oV,↓reduceIte];exact dI
       · have bV:((j:Int) < (bg.length:Int))=False:=eq_false (by omega)
         obtain rfl:j=bg.length:=by omega
         rw [List.take_length] at M
         obtain ⟨kd,uf,F_,Ga,zR,AB,ar,F7,rX⟩:=cJ.pC (k:=.i64) (i:=bg.length) (by omega)
         have qW:=rX J M.rep.ext
         obtain ⟨oA,qk,ql⟩:=ar.parts
         have gC:=oA.one
         have g3:=qk.one
         have gk:=ql.one
         simp +contextual only [bm,cl,c2,gj,bV,cE,Rw,dI,hlen,dH,AB,qW.1,gC.1,gC.2.1,g3.1,g3.2.1,gk.1,gk.2.1,↓ab,ae,simprocAttr]
         have Ha:S.pb={T with st:=av.h1 T.e S.st.length T.st bg,c:=S.c.l[bg.length]'(by omega)}:=by
          simp only [av.pb,jL,cq]
          congr 1
          rw [List.getLastD_eq_getLast?,List.getLast?_eq_getElem?,List.getElem?_eq_getElem (by omega)]
          simp only [Option.getD_some]
          congr 1
          omega
         rw [Ha]
         exact ⟨aK,aJ,_,_,_,_,_,_,M.next {T with st:=av.h1 T.e S.st.length T.st bg,c:=S.c.l[bg.length]'(by omega)} steps F_ Ga zR fS fB c5 rfl ar M.dy M.wr M.de⟩
end
end Go.Proofs.YtjbiefneffiogaaGreat
namespace Go.Proofs.YtjbiefneffiogaaGreat
open Go bs
section
variable {aj h J:ai} {an:aV} {K:fl} {aq:List aV} {aO pm:V} {S:av} {steps:Int} {aX a6 az bZ b4 bj:V}
theorem aer (M:dW aj h an K aq aO pm S steps) (O:Ok S) {aN:List UInt8} (en:cj aj 1 aO aN.length (dt aN)) (hlen:aN.length≤1073741824) (fx:S.read≤aN.length)
 {bu:List Nat} {az:V} (A:ek h aq bu az) {s:List UInt8} (aM:(bu.length:Int)=eK s) (ad:0<eK s):
 bB Tryz.prog 111 [.ptr an 0,.str s,az] h fun x J=>∃aK aJ,dW aj J an aK aJ aO pm (S.n_ aN s bu) steps:=by
 by_cases ak:s ∈ tj
 · have aF:eK s=2:=by unfold eK;rw [if_pos ak]
   rw [aF] at aM
   obtain ⟨aW,bU,rfl⟩:=O8 aM
   simp only [tj,List.mem_cons,List.not_mem_nil,or_false] at ak
   rcases ak with rfl | rfl | rfl | rfl | rfl | rfl | rfl | rfl | rfl | rfl | rfl
   · exact aeo rfl M O en hlen fx A
   · exact aeG rfl M O en hlen fx A
   · exact aeA rfl M O en hlen fx A
   · exact aet rfl M O en hlen fx A
   · exact aez rfl M O en hlen fx A
   · exact aeu rfl M O en hlen fx A
   · exact aey rfl M O en hlen fx A
   · exact aex rfl M O en hlen fx A
   · exact aep rfl M O en hlen fx A
   · exact aew rfl M O en hlen fx A
   · exact aeE rfl M O en hlen fx A
 by_cases aB:s ∈ ti
 · have aF:eK s=1:=by unfold eK;rw [if_neg ak,if_pos aB]
   rw [aF] at aM
   obtain ⟨aW,rfl⟩:=O7 aM
   simp only [ti,List.mem_cons,List.not_mem_nil,or_false] at aB
   rcases aB with rfl | rfl | rfl | rfl | rfl | rfl
   · exact aeB rfl M O en hlen fx A
   · exact aev rfl M O en hlen fx A
   · exact aeC rfl M O en hlen fx A
   · exact aeD rfl M O en hlen fx A
   · exact aeF rfl M O en hlen fx A
   · exact aeq rfl M O en hlen fx A
 by_cases bw:s=[99,117,116]
 · subst bw
   have aF:eK [99,117,116]=3:=by decide
   rw [aF] at aM
   obtain ⟨aW,bU,gH,rfl⟩:=O9 aM
   exact aes rfl M O en hlen fx A
 · unfold eK at ad
   rw [if_neg ak,if_neg aB,if_neg bw] at ad
   omega
set_option maxHeartbeats 16000000 in
theorem aeJ (M:dW aj h an K aq aO pm S steps) (O:Ok S) (hw:S.w.length≤1000000000) (cZ:Shape S.c) (bh:∀a ∈ S.c.a,a.k=1→a.n ∈ S.e.map Prod.fst) (gq:1≤S.c.k∧S.c.k≤12)
 {aN:List UInt8} (en:cj aj 1 aO aN.length (dt aN)) (hlen:aN.length≤1073741824) (fx:S.read≤aN.length):bB Tryz.prog 60 [.ptr an 0] h fun x J=>∃aK aJ,dW aj J an aK aJ aO pm (S.step aN) steps:=by
 obtain ⟨aX,a6,az,eq,fB,c5,M⟩:=M
 have aC:=M.co
 obtain ⟨dv,eL,cJ⟩:=aC.parts
 have cE:=M.get
 have dj:=dv.one
 have eW:=eL.one
 have fz:=cJ.one
 have Ak:=dv.len
 have dF:=M.rep.ext.next
 have oe:=cZ.oe
 have eB:(ao h.next=an)=False:=gi M.b5.2 (Nat.le_refl _)
 have gr:(an=ao h.next)=False:=lM M.b5.2 (Nat.le_refl _)
 have aI:Ext h ((h.new (.au [.int .i64 0,.int .i64 0,.int .i64 0,.str [],.aw,.aw,.aw] 0 false)).set (ao h.next) (.au [.int .i64 S.c.k,.int .i64 S.c.x,.int .i64 S.c.n,.str S.c.s,aX,a6,az] 0 false)):=((Ext.refl h).new _).set (Nat.le_refl _) _
 have bX:((h.new (.au [.int .i64 0,.int .i64 0,.int .i64 0,.str [],.aw,.aw,.aw] 0 false)).set (ao h.next) (.au [.int .i64 S.c.k,.int .i64 S.c.x,.int .i64 S.c.n,.str S.c.s,aX,a6,az] 0 false)).get (ao h.next)=.au [.int .i64 S.c.k,.int .i64 S.c.x,.int .i64 S.c.n,.str S.c.s,aX,a6,az] 0 false:=by rw [dB,if_pos rfl]
 have dL:((h.new (.au [.int .i64 0,.int .i64 0,.int .i64 0,.str [],.aw,.aw,.aw] 0 false)).set (ao h.next) (.au [.int .i64 S.c.k,.int .i64 S.c.x,.int .i64 S.c.n,.str S.c.s,aX,a6,az] 0 false)).next=h.next+1:=by rw [hf,cY]
 have aD:=M.ext aI
 refine Uv rfl (bO ?_)
 unfold L4
 simp +contextual only [cE,eB,gr,dj.1,dj.2.1,eW.1,eW.2.1,fz.1,fz.2.1,↓ab,ae,simprocAttr]
 generalize ((h.new (.au [.int .i64 0,.int .i64 0,.int .i64 0,.str [],.aw,.aw,.aw] 0 false)).set (ao h.next) (.au [.int .i64 S.c.k,.int .i64 S.c.x,.int .i64 S.c.n,.str S.c.s,aX,a6,az] 0 false))=H1 at *
 refine fV (fun r J=>r 0=.ptr an 0∧r 2=.ptr (ao h.next) 0∧∃i:Nat,r 4=.int .i64 i∧i≤S.c.a.length∧∃aK aJ,ee aj J an aK aJ aO pm (S.atoms (S.c.a.take i)).1 steps aX a6 az eq fB c5∧h.next+1≤J.next∧J.get (ao h.next)=.au [.int .i64 S.c.k,.int .i64 S.c.x,.int .i64 S.c.n,.str S.c.s,aX,a6,az] 0 false∧
  cn (h.next+1) J 1 (r 3) i ((S.atoms (S.c.a.take i)).2.map (cV aJ))∧(∀j ∈ (S.atoms (S.c.a.take i)).2,j<aJ.length)∧(∀b,(r 3).bb b→aK b=.no)∧aK (ao h.next)=.no) (fun r J=>S.c.a.length - (r 4).gV) ?_ ?_
 · exact ⟨by simp only [↓ab,bf,simprocAttr],by simp only [↓ab,bf,simprocAttr],0,by simp only [↓ab,bf,simprocAttr]<;>rfl,by omega,K,aq,aD,by omega,bX,by simp only [↓ab,bf,simprocAttr];exact ⟨rfl,rfl⟩,(by intro j q;cases q),by simp only [↓ab,bf,simprocAttr];exact fun b q=>q.elim,M.rep.tmp (by rw [c'];exact Nat.le_refl _)⟩
 · rintro r J ⟨bm,bn,i,c2,aH,aK,aJ,M,a1,dI,dO,fI,h7,x0⟩
   unfold L5
   generalize g0:r 3=v at *
   by_cases a7:i<S.c.a.length
   · have bV:((i:Int) < (S.c.a.length:Int))=True:=eq_true (by omega)
     obtain ⟨b,o,b9,cG,_⟩:=xB (dv.ext M.rep.ext) (k:=.i64) a7
     have w:=g4 a7 (by omega)
     obtain ⟨kG,cW,k2,nd,l5,hv⟩:=av.l3 S (S.c.a.take i)
     have g':=av.Kf S S.c.a a7
     have sX:S.c.a[i] ∈ S.c.a:=List.getElem_mem a7
     simp +contextual only [bm,bn,c2,g0,Ak,bV,dI,b9,cG,↓ab,ae,simprocAttr]
     refine aS (ad' M S.c.a[i] (fun q=>by rw [kG];exact bh _ sX q)) ?_
     rintro x ak ⟨er,gg,M2,rfl,aM,bo,t⟩
     have sY:=bo.next
     have tR:=dO.ext bo
     rw [←t.yD fI] at tR
     obtain ⟨db,aB,b_,ch,cI,ga,fG⟩:=ja (cs:=[.ptr (dX gg ((S.atoms (S.c.a.take i)).1.atom S.c.a[i]).2) 0]) (by omega) tR (by omega) (by unfold top;omega) rfl rfl
     simp +contextual only [cV,bm,bn,c2,g0,b_,w,↓ab,ae,simprocAttr]
     have mG:∀b,v.bb b→er b=.no:=fun b q=>by
      by_cases aA:er b=.no
      · exact aA
      · have:=t.fresh b (h7 b q) aA
        have:=dO.v.b5 q
        unfold Old at this
        omega
     have GM:er (ao h.next)=.no:=by
      by_cases aA:er (ao h.next)=.no
      · exact aA
      · have:=t.fresh _ x0 aA;rw [c'] at this;omega
     have Gw:¬v.bb (ao h.next):=fun q=>by have:=dO.base q;rw [c'] at this;omega
     refine ⟨⟨i+1,rfl,a7,er,gg,?_⟩,by omega⟩
     rw [g']
     refine ⟨M2.r3 cI (fun b q=>⟨mG b q,by have:=dO.base q;omega⟩),by omega,by rw [cI.get _ (dP (by omega)) Gw,bo.get _ (dP (by omega))];exact dI,?_,?_,?_,GM⟩
     · rw [List.map_append];exact ch
     · intro j q
       rcases List.mem_append.1 q with q | q
       · exact Nat.lt_of_lt_of_le (fI j q) t.len
       · simp only [List.mem_cons,List.not_mem_nil,or_false] at q;subst q;exact aM
     · intro b q
       rcases fG b q with q | q
       · exact mG b q
       · exact M2.rep.tmp (by omega)
   · have bV:((i:Int) < (S.c.a.length:Int))=False:=eq_false (by omega)
     obtain rfl:i=S.c.a.length:=by omega
     rw [List.take_length] at M dO fI
     obtain ⟨kG,cW,k2,nd,l5,hv⟩:=av.l3 S S.c.a
     have hQ:=O.atoms S.c.a cZ.at_
     have di:S.step aN=(S.atoms S.c.a).1.dE aN (S.atoms S.c.a).2:=rfl
     have Ey:cn (h.next+1) J 1 v (S.atoms S.c.a).2.length ((S.atoms S.c.a).2.map (cV aJ)):=by rw [hv];exact dO
     rw [di]
     clear di dO bV bX aD Ak aI dL
     generalize (S.atoms S.c.a).1=T at *
     generalize (S.atoms S.c.a).2=bu at *
     have cr:ek J aJ bu v:=⟨Ey.v,fI⟩
     have dY:=M.get
     have aii:(S.c.a.length:Int)=(S.c.a.length:Int):=rfl
     have fY:=dv.len
     have m8:dW aj J an aK aJ aO pm T steps:=⟨_,_,_,_,_,_,M⟩
     have al:S.c.k=1∨S.c.k=2∨S.c.k=3∨S.c.k=4∨S.c.k=5∨S.c.k=6∨S.c.k=7∨S.c.k=8∨S.c.k=9∨S.c.k=10∨S.c.k=11∨S.c.k=12:=by omega
     have ha:((S.c.a.length:Int) < (S.c.a.length:Int))=False:=eq_false (by omega)
     rcases al with al | al | al | al | al | al | al | al | al | al | al | al
     · rw [al] at dI
       have e_:T.c.k=1:=by rw [cW];exact al
       obtain ⟨aW,rfl⟩:∃aW,bu=[aW]:=by
        have:bu.length=1:=by rw [hv];exact cZ.bt (by omega)
        match bu,this with
        | [a],_=>exact ⟨a,rfl⟩
       obtain ⟨eU,cQ,ey,fN,_,_,_,_,_,_,_,_,b3,jE,bY⟩:=M.arg cr 0 0 aW rfl rfl
       have e2:=bY _ (Ext.refl _)
       simp +contextual only [bm,bn,c2,g0,fY,ha,dI,b3,e2.1,↓ab,ae,simprocAttr]
       refine aS (jS m8 hQ.w eU) ?_
       rintro y ak ⟨er,M2⟩
       simp +contextual only [bm,bn,c2,g0,fY,ha,dI,b3,e2.1,↓ab,ae,simprocAttr]
       refine ⟨er,aJ,?_⟩
       have:T.dE aN [aW]=T.m1 aW:=by simp only [av.dE,e_,↓reduceIte,Int.reduceEq,reduceCtorEq,false_or,or_false,or_true,true_or,List.getD_cons_zero,List.getD_cons_succ]
       rw [this]
       exact M2
     · rw [al] at dI
       have e_:T.c.k=2:=by rw [cW];exact al
       have gZ:=cZ.eI (by omega)
       obtain ⟨ik,vE,mL,gt,rE,wj,bl,vF,wC⟩:=cJ.pC (k:=.i64) (i:=0) (by omega)
       have uC:e8 7 az (.int .i64 0)=some (.ptr ik vE):=wj
       obtain ⟨oA,qk,ql⟩:=bl.parts
       have gC:=oA.one
       have g3:=qk.one
       have gk:=ql.one
       have fr:=M.dy.one
       obtain ⟨us,dH,dq,hA,ix⟩:=M.wr
       have Gm:T.w.length≤1000000000:=by rw [k2];exact hw
       have kg:S.c.l=[S.c.l[0]'(by omega),S.c.l[1]'(by omega)]:=by
        refine List.ext_getElem (by simpa using gZ) fun i ad ak=>?_
        match i,ak with
        | 0,_=>rfl
        | 1,_=>rfl
        | i+2,h=>simp only [List.length_cons,List.length_nil] at h;omega
       rw [al] at aC
       obtain ⟨db,aB,b_,ch,cI,ga,fG⟩:=ja (size:=8) (cs:=[.int .i64 2,.int .i64 S.c.x,.int .i64 S.c.n,.str S.c.s,aX,a6,az,eq]) (by omega) dH M.rep.ext.next (by unfold top;omega) rfl (by simp only [gv,dj.1,eW.1,fz.1,fr.1,Bool.and_self];rfl)
       obtain ⟨kW,bI⟩:=M.waited (a:=⟨false,S.c.x,S.c.l[1]'(by omega),T.e⟩) (lj:=S.c.l[0]'(by omega)) (d':=S.c) (by rw [al];exact aC) (by rw [al];rfl) rfl kg M.dy dH (by rw [al];exact ch) cI (fun b q=>by rcases fG b q with r | r;exact .inl r;exact .inr (by omega)) ⟨us,rfl,hA,ix⟩
       have bz:=bI.next {T with w:=⟨false,S.c.x,S.c.l[1]'(by omega),T.e⟩::T.w,c:=S.c.l[0]'(by omega)} steps mL gt rE eq db c5 rfl bl bI.dy bI.wr bI.de
       have dx:=ch.v.one
       have n7:(ao J.next=an)=False:=gi M.b5.2 (Nat.le_refl _)
       have n9:(J.next=h.next)=False:=eq_false (by omega)
       have iQ:aB.get an=_:=(cI.get an M.b5.2 (fun q=>by have:=dq an q;rw [M.dp] at this;cases this)).trans dY
       have zr:aB.get (ao h.next)=_:=(cI.get (ao h.next) (dP (by omega)) (fun q=>by have:=dq _ q;rw [x0] at this;cases this)).trans dI
       have cp:Ext aj aB:=⟨by have:=M.rep.ext.next;omega,fun b af=>(cI.get b (Nat.lt_of_lt_of_le af M.rep.ext.next) (fun q=>by have:=dH.base q;unfold Old at af;omega)).trans (M.rep.ext.get b af)⟩
       have uI:=wC aB cp
       have n8:(an=ik)=False:=eq_false fun q=>by have:=M.b5.1;rw [q] at this;unfold Old at vF;omega
       have np:T.eg 0=S.c.l[0]'(by omega):=by
        simp only [av.eg,cW]
        rw [List.getD_eq_getElem?_getD,List.getElem?_eq_getElem (by omega)];rfl
       have ki:T.eg 1=S.c.l[1]'(by omega):=by
        simp only [av.eg,cW]
        rw [List.getD_eq_getElem?_getD,List.getElem?_eq_getElem (by omega)];rfl
       have:T.dE aN bu={T with w:=⟨false,S.c.x,S.c.l[1]'(by omega),T.e⟩::T.w,c:=S.c.l[0]'(by omega)}:=by
        simp only [av.dE,e_,↓reduceIte,Int.reduceEq,reduceCtorEq,false_or,or_false,or_true,true_or,av.waits,np,ki]
        rw [cW]
        rfl
       rw [this]
       simp +contextual only [bm,bn,c2,g0,fY,ha,dI,dY,n7,gr,eB,n8,n9,iQ,zr,b_,uC,uI.1,dj.1,dj.2.1,eW.1,eW.2.1,fz.1,fz.2.1,gC.1,gC.2.1,g3.1,g3.2.1,gk.1,gk.2.1,fr.1,fr.2.1,fr.2.2,dx.1,dx.2.1,↓ab,ae,simprocAttr]
       exact ⟨kW,aJ,_,_,_,_,_,_,bz⟩
     · rw [al] at dI
       have e_:T.c.k=3:=by rw [cW];exact al
       obtain ⟨b_,ch⟩:=cZ.cI al
       simp +contextual only [bm,bn,c2,g0,fY,ha,dI,↓ab,ae,simprocAttr]
       refine aS (aer m8 hQ en hlen (by rw [l5];exact fx) cr (s:=S.c.s) (by rw [hv];exact b_) ch) ?_
       rintro y ak ⟨er,gg,M2⟩
       simp +contextual only [bm,bn,c2,g0,fY,ha,dI,↓ab,ae,simprocAttr]
       refine ⟨er,gg,?_⟩
       have:T.dE aN bu=T.n_ aN T.c.s bu:=by simp only [av.dE,e_,↓reduceIte,Int.reduceEq,reduceCtorEq,false_or,or_false,or_true,true_or,List.getD_cons_zero,List.getD_cons_succ]
       rw [this]
       exact (by rw [cW];exact M2)
     · rw [al] at dI
       have e_:T.c.k=4:=by rw [cW];exact al
       simp +contextual only [bm,bn,c2,g0,fY,ha,dI,↓ab,ae,simprocAttr]
       refine aS (ob J S.c.n v Ey.v.one) ?_
       rintro y ak F
       obtain ⟨er,gg,M2,rfl,GV⟩:=M.HQ F (Ey.mono (by omega)) h7 fI
       simp +contextual only [bm,bn,c2,g0,fY,ha,dI,↓ab,ae,simprocAttr]
       refine aS (jS ⟨_,_,_,_,_,_,M2⟩ hQ.w GV) ?_
       rintro y ak ⟨kW,bI⟩
       simp +contextual only [bm,bn,c2,g0,fY,ha,dI,↓ab,ae,simprocAttr]
       refine ⟨kW,gg,?_⟩
       have:T.dE aN bu=T.dN (.df T.c.n bu):=by simp only [av.dE,e_,↓reduceIte,Int.reduceEq,reduceCtorEq,false_or,or_false,or_true,true_or,List.getD_cons_zero,List.getD_cons_succ]
       rw [this]
       exact (by rw [cW];exact bI)
     · rw [al] at dI
       have e_:T.c.k=5:=by rw [cW];exact al
       obtain ⟨aW,rfl⟩:∃aW,bu=[aW]:=by
        have:bu.length=1:=by rw [hv];exact cZ.bt (by omega)
        match bu,this with
        | [a],_=>exact ⟨a,rfl⟩
       obtain ⟨eU,cQ,ey,fN,_,_,_,_,_,_,_,_,b3,jE,bY⟩:=M.arg cr 0 0 aW rfl rfl
       have e2:=bY _ (Ext.refl _)
       obtain ⟨dL,eJ⟩:=cZ.n5 al
       have WE:T.dE aN [aW]=T.l6 T.c.n aW:=by simp only [av.dE,e_,↓reduceIte,Int.reduceEq,reduceCtorEq,false_or,or_false,List.getD_cons_zero]
       rw [WE]
       by_cases bw:¬cP (T.val aW)=4
       · have l8:=eq_false bw
         simp +contextual only [bm,bn,c2,g0,fY,ha,dI,b3,e2.1,e2.2,l8,↓ab,ae,simprocAttr]
         refine aS (mm m8 6) ?_
         rintro y ak M2
         simp +contextual only [bm,bn,c2,g0,fY,ha,dI,↓ab,ae,simprocAttr]
         refine ⟨aK,aJ,?_⟩
         have:T.l6 T.c.n aW=T.gb:=by
          simp only [av.l6]
          cases bh:T.val aW<;>first | rfl | (rw [bh] at bw;exact (bw rfl).elim)
         rw [this]
         exact M2
       obtain ⟨t,bg,Hj⟩:=wz (Decidable.not_not.1 bw)
       rw [Hj] at e2 jE
       simp only [cP,dD,e3] at e2
       obtain ⟨f1,f2,f3⟩:=jE
       have hJ:=f1.v.len
       by_cases x7:(bg.length:Int)≤S.c.n
       · have vX:=eq_true x7
         simp +contextual only [bm,bn,c2,g0,fY,ha,dI,b3,e2.1,e2.2,hJ,vX,↓ab,ae,simprocAttr]
         refine aS (mm m8 6) ?_
         rintro y ak M2
         simp +contextual only [bm,bn,c2,g0,fY,ha,dI,↓ab,ae,simprocAttr]
         refine ⟨aK,aJ,?_⟩
         have:T.l6 T.c.n aW=T.gb:=by
          simp only [av.l6,Hj]
          rw [cW,if_pos x7]
         rw [this]
         exact M2
       have vX:=eq_false x7
       obtain ⟨m,hm⟩:∃m:Nat,S.c.n=(m:Int):=⟨S.c.n.toNat,by omega⟩
       have va:ek J aJ bg fN:=⟨f1.v,f3⟩
       obtain ⟨cD,ain,ib,jN,Ae⟩:=va.at (k:=.i64) (i:=m) (by omega)
       rw [←hm] at ib
       have AI:=jN _ (Ext.refl _)
       simp +contextual only [bm,bn,c2,g0,fY,ha,dI,b3,e2.1,e2.2,hJ,vX,ib,AI,↓ab,ae,simprocAttr]
       refine aS (jS m8 hQ.w Ae) ?_
       rintro y ak ⟨er,M2⟩
       simp +contextual only [bm,bn,c2,g0,fY,ha,dI,b3,e2.1,e2.2,ib,AI,↓ab,ae,simprocAttr]
       refine ⟨er,aJ,?_⟩
       have:T.l6 T.c.n aW=T.m1 (bg.getD m 0):=by
        simp only [av.l6,Hj]
        rw [cW,if_neg x7,hm]
        rfl
       rw [this]
       exact M2
     · rw [al] at dI
       have e_:T.c.k=6:=by rw [cW];exact al
       obtain ⟨aW,bU,rfl⟩:∃aW bU,bu=[aW,bU]:=by
        have:bu.length=2:=by rw [hv];exact cZ.b1 al
        match bu,this with
        | [a,b],_=>exact ⟨a,b,rfl⟩
       obtain ⟨eU,cQ,ey,fN,_,_,_,_,_,_,_,_,b3,jE,bY⟩:=M.arg cr 0 0 aW rfl rfl
       have e2:=bY _ (Ext.refl _)
       obtain ⟨jk,bX,aim,k3,_,_,_,_,_,_,_,_,cB,nD,b7⟩:=M.arg cr 1 1 bU rfl rfl
       have yl:=b7 _ (Ext.refl _)
       by_cases aB:¬cP (T.val aW)=3
       · have k5:=eq_false aB
         simp +contextual only [bm,bn,c2,g0,fY,ha,dI,b3,e2.1,e2.2,cB,yl.1,k5,↓ab,ae,simprocAttr]
         refine aS (mm m8 6) ?_
         rintro y ak M2
         simp +contextual only [bm,bn,c2,g0,fY,ha,dI,↓ab,ae,simprocAttr]
         refine ⟨aK,aJ,?_⟩
         have:T.dE aN [aW,bU]=T.gb:=by
          have:T.dE aN [aW,bU]=T.call aW bU:=by simp only [av.dE,e_,↓reduceIte,Int.reduceEq,reduceCtorEq,false_or,or_false,List.getD_cons_zero,List.getD_cons_succ]
          rw [this]
          simp only [av.call]
          cases bh:T.val aW<;>first | rfl | (rw [bh] at aB;exact (aB rfl).elim)
         rw [this]
         exact M2
       have k5:=eq_true (Decidable.not_not.1 aB)
       simp +contextual only [bm,bn,c2,g0,fY,ha,dI,b3,e2.1,e2.2,cB,yl.1,k5,Decidable.not_not.1 aB,↓ab,ae,simprocAttr]
       refine aS (adX m8 eU jk (Decidable.not_not.1 aB)) ?_
       rintro y ak ⟨er,gg,M2⟩
       simp +contextual only [bm,bn,c2,g0,fY,ha,dI,b3,e2.1,cB,yl.1,↓ab,ae,simprocAttr]
       refine ⟨er,gg,?_⟩
       have:T.dE aN [aW,bU]=T.call aW bU:=by simp only [av.dE,e_,↓reduceIte,Int.reduceEq,reduceCtorEq,false_or,or_false,or_true,true_or,List.getD_cons_zero,List.getD_cons_succ]
       rw [this]
       exact M2
     · rw [al] at dI
       have e_:T.c.k=7:=by rw [cW];exact al
       have oT:=cZ.HG al
       obtain ⟨ik,vE,mL,gt,rE,wj,bl,vF,wC⟩:=cJ.pC (k:=.i64) (i:=0) (by omega)
       have uC:e8 7 az (.int .i64 0)=some (.ptr ik vE):=wj
       obtain ⟨oA,qk,ql⟩:=bl.parts
       have gC:=oA.one
       have g3:=qk.one
       have gk:=ql.one
       have fr:=M.dy.one
       have uI:=wC J M.rep.ext
       have F:gX J (J.new (.au [.int .i64 3,.int .i64 S.c.x,.str [],.int .i64 (S.c.l[0]'(by omega)).k,.int .i64 (S.c.l[0]'(by omega)).x,.int .i64 (S.c.l[0]'(by omega)).n,.str (S.c.l[0]'(by omega)).s,mL,gt,rE,eq,.aw,.bool false] 0 false)) (.ptr (ao J.next) 0) [.int .i64 3,.int .i64 S.c.x,.str [],.int .i64 (S.c.l[0]'(by omega)).k,.int .i64 (S.c.l[0]'(by omega)).x,.int .i64 (S.c.l[0]'(by omega)).n,.str (S.c.l[0]'(by omega)).s,mL,gt,rE,eq,.aw,.bool false]:=pI _ _
       obtain ⟨er,gg,M2,bG,GV,t⟩:=M.AJ F bl M.dy
       have n7:(ao J.next=an)=False:=gi M.b5.2 (Nat.le_refl _)
       have n8:(ao J.next=ik)=False:=gi (M.rep.ext.b5 vF) (Nat.le_refl _)
       have n9:(J.next=h.next)=False:=eq_false (by omega)
       have GN:T.eg 0=S.c.l[0]'(by omega):=by
        simp only [av.eg,cW]
        rw [List.getD_eq_getElem?_getD,List.getElem?_eq_getElem (by omega)];rfl
       have:T.dE aN bu=T.dN (.fn T.c.x (T.eg 0) T.e):=by simp only [av.dE,e_,↓reduceIte,Int.reduceEq,reduceCtorEq,false_or,or_false]
       rw [this,GN,cW]
       generalize (S.c.l[0]'(by omega))=d at *
       simp +contextual only [bm,bn,c2,g0,fY,ha,dI,dY,n7,n8,n9,uC,uI.1,gC.1,gC.2.1,g3.1,g3.2.1,gk.1,gk.2.1,fr.1,fr.2.1,fr.2.2,↓ab,ae,simprocAttr]
       rw [bG]
       refine aS (jS ⟨_,_,_,_,_,_,M2⟩ hQ.w GV) ?_
       rintro y ak ⟨kW,bI⟩
       simp +contextual only [bm,bn,c2,g0,fY,ha,dI,dY,n7,n8,n9,uC,uI.1,gC.1,gC.2.1,g3.1,g3.2.1,gk.1,gk.2.1,fr.1,fr.2.1,fr.2.2,↓ab,ae,simprocAttr]
       exact ⟨kW,gg,bI⟩
     · rw [al] at dI
       have e_:T.c.k=8:=by rw [cW];exact al
       obtain ⟨aiw,adL⟩:=cZ.HH al
       simp +contextual only [bm,bn,c2,g0,fY,ha,dI,↓ab,ae,simprocAttr]
       refine aS (by have R:=aeH (aX:=aX) (a6:=a6) (az:=az) m8 (by rw [cW];exact aC) (by rw [cW];omega) (by rw [cW];have:=cZ.g2;omega) (by rw [cW];intro f ar;rw [adL f ar];exact Nat.le_refl _);rw [cW,al] at R;exact R) ?_
       rintro y ak ⟨er,gg,M2⟩
       simp +contextual only [bm,bn,c2,g0,fY,ha,dI,↓ab,ae,simprocAttr]
       refine ⟨er,gg,?_⟩
       have:T.dE aN bu=T.pb:=by simp only [av.dE,e_,↓reduceIte,Int.reduceEq,reduceCtorEq,false_or,or_false,or_true,true_or,List.getD_cons_zero,List.getD_cons_succ]
       rw [this]
       exact M2
     · rw [al] at dI
       have e_:T.c.k=9:=by rw [cW];exact al
       obtain ⟨aW,rfl⟩:∃aW,bu=[aW]:=by
        have:bu.length=1:=by rw [hv];exact cZ.bt (by omega)
        match bu,this with
        | [a],_=>exact ⟨a,rfl⟩
       obtain ⟨eU,cQ,ey,fN,_,_,_,_,_,_,_,_,b3,jE,bY⟩:=M.arg cr 0 0 aW rfl rfl
       have e2:=bY _ (Ext.refl _)
       simp +contextual only [bm,bn,c2,g0,fY,ha,dI,b3,e2.1,↓ab,ae,simprocAttr]
       refine aS (by have R:=ae2 (aX:=aX) (a6:=a6) (az:=az) m8 e_ (by rw [cW,←al];exact aC) eU (by rw [cW];exact cZ.st) (by rw [cW];have:=cZ.g2;omega);rw [cW] at R;exact R) ?_
       rintro y ak M2
       simp +contextual only [bm,bn,c2,g0,fY,ha,dI,b3,e2.1,↓ab,ae,simprocAttr]
       refine ⟨aK,aJ,?_⟩
       have:T.dE aN [aW]=T.hX false aW:=by simp only [av.dE,e_,↓reduceIte,Int.reduceEq,reduceCtorEq,false_or,or_false,or_true,true_or,List.getD_cons_zero,List.getD_cons_succ]
       rw [this]
       exact M2
     · rw [al] at dI
       have e_:T.c.k=10:=by rw [cW];exact al
       obtain ⟨aW,rfl⟩:∃aW,bu=[aW]:=by
        have:bu.length=1:=by rw [hv];exact cZ.bt (by omega)
        match bu,this with
        | [a],_=>exact ⟨a,rfl⟩
       obtain ⟨eU,cQ,ey,fN,_,_,_,_,_,_,_,_,b3,jE,bY⟩:=M.arg cr 0 0 aW rfl rfl
       have e2:=bY _ (Ext.refl _)
       simp +contextual only [bm,bn,c2,g0,fY,ha,dI,b3,e2.1,↓ab,ae,simprocAttr]
       refine aS (by have R:=adY (aX:=aX) (a6:=a6) (az:=az) m8 e_ (by rw [cW,←al];exact aC) eU (by rw [cW];exact cZ.st) (by rw [cW];have:=cZ.g2;omega);rw [cW] at R;exact R) ?_
       rintro y ak M2
       simp +contextual only [bm,bn,c2,g0,fY,ha,dI,b3,e2.1,↓ab,ae,simprocAttr]
       refine ⟨aK,aJ,?_⟩
       have:T.dE aN [aW]=T.hX true aW:=by simp only [av.dE,e_,↓reduceIte,Int.reduceEq,reduceCtorEq,false_or,or_false,or_true,true_or,List.getD_cons_zero,List.getD_cons_succ]
       rw [this]
       exact M2
     · rw [al] at dI
       have e_:T.c.k=11:=by rw [cW];exact al
       have gZ:=cZ.eI (by omega)
       obtain ⟨ik,vE,mL,gt,rE,wj,bl,vF,wC⟩:=cJ.pC (k:=.i64) (i:=0) (by omega)
       have uC:e8 7 az (.int .i64 0)=some (.ptr ik vE):=wj
       obtain ⟨oA,qk,ql⟩:=bl.parts
       have gC:=oA.one
       have g3:=qk.one
       have gk:=ql.one
       have fr:=M.dy.one
       obtain ⟨us,dH,dq,hA,ix⟩:=M.wr
       have Gm:T.w.length≤1000000000:=by rw [k2];exact hw
       have kg:S.c.l=[S.c.l[0]'(by omega),S.c.l[1]'(by omega)]:=by
        refine List.ext_getElem (by simpa using gZ) fun i ad ak=>?_
        match i,ak with
        | 0,_=>rfl
        | 1,_=>rfl
        | i+2,h=>simp only [List.length_cons,List.length_nil] at h;omega
       rw [al] at aC
       obtain ⟨db,aB,b_,ch,cI,ga,fG⟩:=ja (size:=8) (cs:=[.int .i64 11,.int .i64 S.c.x,.int .i64 S.c.n,.str S.c.s,aX,a6,az,eq]) (by omega) dH M.rep.ext.next (by unfold top;omega) rfl (by simp only [gv,dj.1,eW.1,fz.1,fr.1,Bool.and_self];rfl)
       obtain ⟨kW,bI⟩:=M.waited (a:=⟨true,S.c.x,S.c.l[1]'(by omega),T.e⟩) (lj:=S.c.l[0]'(by omega)) (d':=S.c) (by rw [al];exact aC) (by rw [al];rfl) rfl kg M.dy dH (by rw [al];exact ch) cI (fun b q=>by rcases fG b q with r | r;exact .inl r;exact .inr (by omega)) ⟨us,rfl,hA,ix⟩
       have bz:=bI.next {T with w:=⟨true,S.c.x,S.c.l[1]'(by omega),T.e⟩::T.w,c:=S.c.l[0]'(by omega)} steps mL gt rE eq db c5 rfl bl bI.dy bI.wr bI.de
       have dx:=ch.v.one
       have n7:(ao J.next=an)=False:=gi M.b5.2 (Nat.le_refl _)
       have n9:(J.next=h.next)=False:=eq_false (by omega)
       have iQ:aB.get an=_:=(cI.get an M.b5.2 (fun q=>by have:=dq an q;rw [M.dp] at this;cases this)).trans dY
       have zr:aB.get (ao h.next)=_:=(cI.get (ao h.next) (dP (by omega)) (fun q=>by have:=dq _ q;rw [x0] at this;cases this)).trans dI
       have cp:Ext aj aB:=⟨by have:=M.rep.ext.next;omega,fun b af=>(cI.get b (Nat.lt_of_lt_of_le af M.rep.ext.next) (fun q=>by have:=dH.base q;unfold Old at af;omega)).trans (M.rep.ext.get b af)⟩
       have uI:=wC aB cp
       have n8:(an=ik)=False:=eq_false fun q=>by have:=M.b5.1;rw [q] at this;unfold Old at vF;omega
       have np:T.eg 0=S.c.l[0]'(by omega):=by
        simp only [av.eg,cW]
        rw [List.getD_eq_getElem?_getD,List.getElem?_eq_getElem (by omega)];rfl
       have ki:T.eg 1=S.c.l[1]'(by omega):=by
        simp only [av.eg,cW]
        rw [List.getD_eq_getElem?_getD,List.getElem?_eq_getElem (by omega)];rfl
       have:T.dE aN bu={T with w:=⟨true,S.c.x,S.c.l[1]'(by omega),T.e⟩::T.w,c:=S.c.l[0]'(by omega)}:=by
        simp only [av.dE,e_,↓reduceIte,Int.reduceEq,reduceCtorEq,false_or,or_false,or_true,true_or,av.waits,np,ki]
        rw [cW]
        rfl
       rw [this]
       simp +contextual only [bm,bn,c2,g0,fY,ha,dI,dY,n7,gr,eB,n8,n9,iQ,zr,b_,uC,uI.1,dj.1,dj.2.1,eW.1,eW.2.1,fz.1,fz.2.1,gC.1,gC.2.1,g3.1,g3.2.1,gk.1,gk.2.1,fr.1,fr.2.1,fr.2.2,dx.1,dx.2.1,↓ab,ae,simprocAttr]
       exact ⟨kW,aJ,_,_,_,_,_,_,bz⟩
     · rw [al] at dI
       have e_:T.c.k=12:=by rw [cW];exact al
       obtain ⟨aW,rfl⟩:∃aW,bu=[aW]:=by
        have:bu.length=1:=by rw [hv];exact cZ.bt (by omega)
        match bu,this with
        | [a],_=>exact ⟨a,rfl⟩
       obtain ⟨eU,cQ,ey,fN,_,_,_,_,_,_,_,_,b3,jE,bY⟩:=M.arg cr 0 0 aW rfl rfl
       have e2:=bY _ (Ext.refl _)
       simp +contextual only [bm,bn,c2,g0,fY,ha,dI,b3,e2.1,↓ab,ae,simprocAttr]
       refine aS (ts m8 hQ.w eU) ?_
       rintro y ak ⟨er,M2⟩
       simp +contextual only [bm,bn,c2,g0,fY,ha,dI,b3,e2.1,↓ab,ae,simprocAttr]
       refine ⟨er,aJ,?_⟩
       have:T.dE aN [aW]=T.p7 aW:=by simp only [av.dE,e_,↓reduceIte,Int.reduceEq,reduceCtorEq,false_or,or_false,or_true,true_or,List.getD_cons_zero,List.getD_cons_succ]
       rw [this]
       exact M2
end
end Go.Proofs.YtjbiefneffiogaaGreat
namespace Go.Proofs.YtjbiefneffiogaaGreat
open Go bs
noncomputable def Be (h:ai) (an:aV):Nat:=match hU (h.get an) 5 with
 | some (.int _ n)=>n.toNat
 | _=>0
set_option maxHeartbeats 4000000 in
theorem adZ (c:aU) (ah:List V) (h:ai) (H:ef h c ah) (Hn:iL [] c) {aO:V} {aN:List UInt8} (en:cj h 1 aO aN.length (dt aN)) (hlen:aN.length≤1073741824) {steps:Int} (Gg:0≤steps) (aM:steps≤100000):
 bB Tryz.prog 41 [.agg ah,.aw,aO,.int .i64 steps] h fun x J=>∃l,yV c aN steps l∧lz h.next J l x∧Ext h J:=by
 obtain ⟨aX,a6,az,rfl,dv,eL,cJ⟩:=H.open
 refine Uj rfl (bO ?_)
 unfold LJ
 have jQ:=dv.one
 have jR:=eL.one
 have ol:=cJ.one
 have ku:=en.one
 simp +contextual only [jQ.1,jQ.2.1,jR.1,jR.2.1,ol.1,ol.2.1,↓ab,ae,simprocAttr]
 have aI:Ext h ((h.new (.au [.int .i64 c.k,.int .i64 c.x,.int .i64 c.n,.str c.s,aX,a6,az] 0 false)).new (.au [.int .i64 0,.int .i64 0,.int .i64 0,.int .i64 0,.aw] 0 false)):=((Ext.refl h).new _).new _
 have bH:((h.new (.au [.int .i64 c.k,.int .i64 c.x,.int .i64 c.n,.str c.s,aX,a6,az] 0 false)).new (.au [.int .i64 0,.int .i64 0,.int .i64 0,.int .i64 0,.aw] 0 false)).get (ao h.next)=.au [.int .i64 c.k,.int .i64 c.x,.int .i64 c.n,.str c.s,aX,a6,az] 0 false:=by
  rw [eG,if_neg (by rw [gM,cY];omega),gz]
 have fk:((h.new (.au [.int .i64 c.k,.int .i64 c.x,.int .i64 c.n,.str c.s,aX,a6,az] 0 false)).new (.au [.int .i64 0,.int .i64 0,.int .i64 0,.int .i64 0,.aw] 0 false)).get (ao (h.next+1))=.au [.int .i64 0,.int .i64 0,.int .i64 0,.int .i64 0,.aw] 0 false:=by
  rw [eG,if_pos (by rw [cY])]
 have dL:((h.new (.au [.int .i64 c.k,.int .i64 c.x,.int .i64 c.n,.str c.s,aX,a6,az] 0 false)).new (.au [.int .i64 0,.int .i64 0,.int .i64 0,.int .i64 0,.aw] 0 false)).next=h.next+2:=by rw [cY,cY]
 generalize ((h.new (.au [.int .i64 c.k,.int .i64 c.x,.int .i64 c.n,.str c.s,aX,a6,az] 0 false)).new (.au [.int .i64 0,.int .i64 0,.int .i64 0,.int .i64 0,.aw] 0 false))=H1 at *
 have ky:=aI
 have bV:H1.get (ao h.next)=.au [.int .i64 c.k,.int .i64 c.x,.int .i64 c.n,.str c.s,aX,a6,az] 0 false:=bH
 have z0:H1.get (ao (h.next+1))=.au [.int .i64 0,.int .i64 0,.int .i64 0,.int .i64 0,.aw] 0 false:=fk
 have EL:=en.ext ky
 have EC:=H.ext ky
 simp +contextual only [ku.1,ku.2.1,ku.2.2,bH,jQ.1,jQ.2.1,jR.1,jR.2.1,ol.1,ol.2.1,↓ab,ae,simprocAttr]
 have gf:ee H1 (H1.new (.au [aO,.aw,.int .i64 0,.int .i64 0,.int .i64 0,.int .i64 0,.aw,.bool false,.int .i64 c.k,.int .i64 c.x,.int .i64 c.n,.str c.s,aX,a6,az,.cc,.aw] 0 false)) (ao H1.next) (jF (fun _=>.no) (fun b=>b=ao H1.next) .n2) [] aO .aw (start c) 0 aX a6 az .cc .aw .aw:=by
  refine ⟨⟨(Ext.refl H1).new _,fun b af=>?_,rfl,fun i v q=>(by cases i<;>simp [start] at q)⟩,mD rfl,gz _,EC,.nil,⟨[],⟨rfl,rfl⟩,fun b q=>q.elim,rfl,fun i a u q=>(by simp [start] at q)⟩,⟨rfl,rfl⟩,fun b q=>q.elim⟩
  by_cases q:b=ao H1.next
  · subst q;rw [c',cY];omega
  · rw [mC (p:=fun b=>b=ao H1.next) q] at af;exact absurd rfl af
 generalize kK:ao H1.next=an at *
 generalize (H1.new (.au [aO,.aw,.int .i64 0,.int .i64 0,.int .i64 0,.int .i64 0,.aw,.bool false,.int .i64 c.k,.int .i64 c.x,.int .i64 c.n,.str c.s,aX,a6,az,.cc,.aw] 0 false))=ez at *
 refine fV (fun r J=>r 9=.ptr an 0∧r 3=.int .i64 steps∧r 8=.ptr (ao (h.next+1)) 0∧∃i:Nat,(∀j,j<i→((start c).nth aN j).fJ=false)∧(i:Int)≤steps∧∃aK aJ,dW H1 J an aK aJ aO .aw ((start c).nth aN i) i) (fun r J=>steps.toNat-Be J an) ?_ ?_
 · exact ⟨by simp only [↓ab,bf,simprocAttr],by simp only [↓ab,bf,simprocAttr],by simp only [↓ab,bf,simprocAttr],0,fun j q=>(by omega),Gg,_,_,_,_,_,_,_,_,gf⟩
 · rintro r J ⟨iI,cl,iH,i,pR,aH,aK,aJ,q4,q6,q5,eq,fB,c5,M⟩
   unfold LK
   have cE:=M.get
   have pU:Be J an=i:=by unfold Be;rw [cE,qU];simp
   have W:=c9.nth (aN:=aN) Hn i
   have Bt:J.get (ao (h.next+1))=.au [.int .i64 0,.int .i64 0,.int .i64 0,.int .i64 0,.aw] 0 false:=by rw [M.rep.ext.get _ (dP (by omega))];exact z0
   have AL:(an=ao (h.next+1))=False:=eq_false fun q=>by have:=M.b5.1;rw [q,c'] at this;omega
   have Bv:(ao (h.next+1)=an)=False:=eq_false fun q=>by have:=M.b5.1;rw [←q,c'] at this;omega
   have dx:=M.de.one
   have mM:∀(aK:fl) (aJ:List aV) (S:av) (g:ai) (q4 q6 q5 eq fB c5:V) (k:cL),ee H1 g an aK aJ aO .aw S i q4 q6 q5 eq fB c5→cn h.next (g.set (ao (h.next+1)) k) 1 c5 S.out.length (dt S.out)∧Ext h (g.set (ao (h.next+1)) k):=by
    intro aK aJ S g q4 q6 q5 eq fB c5 k M
    refine ⟨(M.de.1.mono (by omega)).mod ((Mod.refl (fun b=>b=ao (h.next+1)) g).set (fun _=>rfl) k) fun b q e=>?_,(ky.trans M.rep.ext).set (by omega) _⟩
    have:=M.de.1.base q
    rw [e,c'] at this
    omega
   cases bA:((start c).nth aN i).fJ with
   | true=>
     rw [bA] at cE
     simp +contextual only [iI,cl,iH,cE,bA,Bt,AL,Bv,dx.1,dx.2.1,↓ab,ae,simprocAttr]
     have ar:=mM aK aJ _ J q4 q6 q5 eq fB c5 (.au [.int .i64 ((start c).nth aN i).e6,.int .i64 ((start c).nth aN i).fp,.int .i64 ((start c).nth aN i).read,.int .i64 i,c5] 0 false) M
     exact ⟨⟨((start c).nth aN i).e6,((start c).nth aN i).fp,((start c).nth aN i).read,i,((start c).nth aN i).out⟩,⟨i,pR,aH,.inl bA,by rw [if_pos bA]⟩,⟨c5,rfl,ar.1⟩,ar.2⟩
   | false=>
     rw [bA] at cE
     by_cases a7:(i:Int)<steps
     · have rI:=eq_true a7
       have w:IntKind.i64.wrap ((i:Int)+1)=((i+1:Nat):Int):=by rw [wrap_i64 (by omega) (by omega)];rfl
       have aD:=M.next ((start c).nth aN i) ((i+1:Nat):Int) q4 q6 q5 eq fB c5 rfl M.co M.dy M.wr M.de
       rw [bA] at aD
       simp +contextual only [iI,cl,iH,cE,bA,rI,w,↓ab,ae,simprocAttr]
       obtain ⟨tu,al,bh⟩:=W.c.shape
       refine aS (aeJ ⟨_,_,_,_,_,_,aD⟩ (W.ok (by omega)) (by have:=W.wl;omega) tu bh al EL hlen W.read) ?_
       rintro x ak ⟨er,gg,M2⟩
       simp +contextual only [iI,cl,iH,↓ab,ae,simprocAttr]
       have vm:=M2
       obtain ⟨_,_,_,_,_,_,vm⟩:=vm
       have Hd:Be ak an=i+1:=by unfold Be;rw [vm.get,qU];simp
       refine ⟨⟨i+1,fun j bQ=>?_,by omega,er,gg,M2⟩,by rw [pU,Hd];omega⟩
       by_cases e:j=i
       · subst e;exact bA
       · exact pR j (by omega)
     · have rI:=eq_false a7
       simp +contextual only [iI,cl,iH,cE,bA,rI,Bt,AL,Bv,dx.1,dx.2.1,↓ab,ae,simprocAttr]
       have aD:=M.next {(start c).nth aN i with e6:=4} i q4 q6 q5 eq fB c5 rfl M.co M.dy M.wr M.de
       have ar:=mM aK aJ _ _ q4 q6 q5 eq fB c5 (.au [.int .i64 4,.int .i64 ((start c).nth aN i).fp,.int .i64 ((start c).nth aN i).read,.int .i64 i,c5] 0 false) aD
       simp only [bA] at ar
       exact ⟨⟨4,((start c).nth aN i).fp,((start c).nth aN i).read,i,((start c).nth aN i).out⟩,⟨i,pR,aH,.inr (by omega),by rw [bA];rfl⟩,⟨c5,rfl,ar.1⟩,ar.2⟩
set_option maxHeartbeats 2000000 in
theorem aeI (c:aU) (ah:List V) (h:ai) (H:ef h c ah) (hw:wt c≤400) {aO:V} {aN:List UInt8} (en:cj h 1 aO aN.length (dt aN)) (hlen:aN.length≤1073741824) {steps:Int} (aM:steps≤100000):
 bB Tryz.prog 14 [.agg ah,aO,.int .i64 steps] h fun x J=>∃l,qm c aN steps l∧lz h.next J l x∧Ext h J:=by
 obtain ⟨aX,a6,az,rfl,dv,eL,cJ⟩:=H.open
 refine T0 rfl (bO ?_)
 unfold Lb
 have jQ:=dv.one
 have jR:=eL.one
 have ol:=cJ.one
 have aI:Ext h ((h.new (.au [.int .i64 c.k,.int .i64 c.x,.int .i64 c.n,.str c.s,aX,a6,az] 0 false)).new (.au [.int .i64 0,.int .i64 0,.int .i64 0,.int .i64 0,.aw] 0 false)):=((Ext.refl h).new _).new _
 have bH:((h.new (.au [.int .i64 c.k,.int .i64 c.x,.int .i64 c.n,.str c.s,aX,a6,az] 0 false)).new (.au [.int .i64 0,.int .i64 0,.int .i64 0,.int .i64 0,.aw] 0 false)).get (ao h.next)=.au [.int .i64 c.k,.int .i64 c.x,.int .i64 c.n,.str c.s,aX,a6,az] 0 false:=by
  rw [eG,if_neg (by rw [gM,cY];omega),gz]
 have fk:((h.new (.au [.int .i64 c.k,.int .i64 c.x,.int .i64 c.n,.str c.s,aX,a6,az] 0 false)).new (.au [.int .i64 0,.int .i64 0,.int .i64 0,.int .i64 0,.aw] 0 false)).get (ao (h.next+1))=.au [.int .i64 0,.int .i64 0,.int .i64 0,.int .i64 0,.aw] 0 false:=by
  rw [eG,if_pos (by rw [cY])]
 have dL:((h.new (.au [.int .i64 c.k,.int .i64 c.x,.int .i64 c.n,.str c.s,aX,a6,az] 0 false)).new (.au [.int .i64 0,.int .i64 0,.int .i64 0,.int .i64 0,.aw] 0 false)).next=h.next+2:=by rw [cY,cY]
 simp +contextual only [jQ.1,jQ.2.1,jR.1,jR.2.1,ol.1,ol.2.1,↓ab,ae,simprocAttr]
 generalize ((h.new (.au [.int .i64 c.k,.int .i64 c.x,.int .i64 c.n,.str c.s,aX,a6,az] 0 false)).new (.au [.int .i64 0,.int .i64 0,.int .i64 0,.int .i64 0,.aw] 0 false))=H1 at *
 refine aS (adO c _ H1 (H.ext aI) hw) ?_
 rintro x ak ⟨rfl,bo⟩
 have sY:=bo.next
 have bM:ak.get (ao h.next)=.au [.int .i64 c.k,.int .i64 c.x,.int .i64 c.n,.str c.s,aX,a6,az] 0 false:=by rw [bo.get _ (dP (by omega))];exact bH
 have fe:ak.get (ao (h.next+1))=.au [.int .i64 0,.int .i64 0,.int .i64 0,.int .i64 0,.aw] 0 false:=by rw [bo.get _ (dP (by omega))];exact fk
 have ff:=aI.trans bo
 have Bu:∀(k:cL),Ext h (ak.set (ao (h.next+1)) k):=fun k=>ff.set (by omega) _
 have no:∀k:cL,cn h.next (ak.set (ao (h.next+1)) k) 1 .aw 0 (dt []):=fun k=>⟨rfl,rfl⟩
 by_cases aC:qp c=0
 · have nk:=eq_true aC
   by_cases bD:steps<0
   · have e1:=eq_true bD
     simp +contextual only [nk,e1,bM,fe,↓ab,ae,simprocAttr]
     exact ⟨⟨5,0,0,0,[]⟩,(by unfold qm;rw [if_pos (.inr bD)]),⟨.aw,rfl,no _⟩,Bu _⟩
   · have e1:=eq_false bD
     simp +contextual only [nk,e1,bM,fe,↓ab,ae,simprocAttr]
     have ar:=pH c hw
     refine aS (adZ c _ ak (H.ext ff) (RB (Dz hw) ar aC) (en.ext ff) hlen (by omega) aM) ?_
     rintro x aB ⟨l,aL,⟨bj,rfl,O⟩,cp⟩
     have z3:aB.get (ao (h.next+1))=.au [.int .i64 0,.int .i64 0,.int .i64 0,.int .i64 0,.aw] 0 false:=by rw [cp.get _ (dP (by omega))];exact fe
     have dx:=O.v.one
     simp +contextual only [z3,dx.1,dx.2.1,↓ab,ae,simprocAttr]
     refine ⟨l,(by unfold qm;rw [if_neg (by intro q;rcases q with q | q;exact q aC;exact bD q)];exact aL),⟨bj,rfl,?_⟩,(ff.trans cp).set (by omega) _⟩
     refine (O.mono (by omega)).mod ((Mod.refl (fun b=>b=ao (h.next+1)) aB).set (fun _=>rfl) _) fun b q e=>?_
     have:=O.base q
     rw [e,c'] at this
     omega
 · have nk:=eq_false aC
   simp +contextual only [nk,bM,fe,↓ab,ae,simprocAttr]
   exact ⟨⟨5,0,0,0,[]⟩,(by unfold qm;rw [if_pos (.inl aC)]),⟨.aw,rfl,no _⟩,Bu _⟩
theorem Has.set {h:ai} {n m:Nat} {l:List V} (B:Has h n l) (hm:n≠m) (k:cL):Has (h.set (ao m) k) n l:=⟨by rw [hf];exact B.lt,by rw [dB,if_neg (by rw [gM];exact fun q=>hm q.symm)];exact B.g⟩
theorem Has.put {h:ai} {n:Nat} {l:List V} (B:Has h n l) (hd:List V):Has (h.set (ao n) (.au hd 0 false)) n hd:=⟨by rw [hf];exact B.lt,by rw [dB,if_pos rfl]⟩
theorem ks (h:ai) (size n:Nat) (ah:List V) (aL:ah.length=n * size) (a1:n≤top):∃H,h.new (.au ah 0 false)=H∧Ext h H∧cj H size (.slice (ao h.next) 0 n n) n ah∧wU (.slice (ao h.next) 0 n n)∧∀b,(V.slice (ao h.next) 0 n n).bb b→b=ao h.next:=
 ⟨_,rfl,(Ext.refl h).new _,cn.v (B:=h.next) ⟨aL,rfl,by rw [c'];exact Nat.le_refl _,dP (by rw [cY];omega),Nat.le_refl _,a1,ah,0,false,gz _,by omega,by rw [List.drop_zero,List.take_length]⟩,
   fun b o l c e=>by cases e;exact Nat.le_refl _,fun b q=>q⟩
def w1 (n:Int):At:=⟨1,n,[]⟩
def jO (n:Int):At:=⟨2,n,[]⟩
def p5 (s:List UInt8) (a:List At):aU:=.mk 3 0 0 s a [] []
def uH (x:Int) (p q:aU):aU:=.mk 2 x 0 [] [] [] [p,q]
theorem Px:wU .aw:=fun b o l c e=>by cases e
theorem DR {F:aV→Prop} {h:ai} {s:List UInt8} {a:List At} {aX:V} (H:cj h 3 aX a.length (j9 a)) (qA:∀b,aX.bb b→F b):jV F h (p5 s a) [.int .i64 3,.int .i64 0,.int .i64 0,.str s,aX,.aw,.aw]:=
 .mk (us:=[]) H ⟨rfl,rfl⟩ Px ⟨rfl,rfl⟩ rfl (fun i c u q=>by simp at q) qA (fun b q=>q.elim) (fun b q=>q.elim)
theorem HM {F:aV→Prop} {h:ai} {x:Int} {p q:aU} {u w:List V} {az:V} (P:jV F h p u) (Q:jV F h q w) (H:cj h 7 az 2 (u++w)) (ba:wU az) (qA:∀b,az.bb b→F b):
 jV F h (uH x p q) [.int .i64 2,.int .i64 x,.int .i64 0,.str [],.aw,.aw,az]:=
 .mk (us:=[u,w]) ⟨rfl,rfl⟩ ⟨rfl,rfl⟩ ba (by simpa using H) rfl (fun i c v ad ak=>by
  match i with
  | 0=>simp at ad ak;subst ad ak;exact P
  | 1=>simp at ad ak;subst ad ak;exact Q
  | i+2=>simp at ad) (fun b q=>q.elim) (fun b q=>q.elim) qA
theorem jV.ext {F:aV→Prop} {h J:ai} (e:Ext h J) {c:aU} {ah:List V} (H:jV F h c ah):jV F J c ah:=by
 induction H with
 | mk bT aF ba aL hu kids cX gy cw bJ=>exact .mk (bT.ext e) (aF.ext e) ba (aL.ext e) hu bJ cX gy cw
theorem jV.set {F:aV→Prop} {h:ai} {c:aU} {ah:List V} (H:jV F h c ah) {b:aV} (af:¬F b) (k:cL):jV F (h.set b k) c ah:=
 H.mod ((Mod.refl (fun x=>x=b) h).set (fun _=>rfl) k) fun x q _=>⟨fun e=>af (e ▸ q),q⟩
def p3:Nat→aU
 | 0=>p5 [112,117,116,99] [w1 9]
 | j+1=>uH (23-j) (p5 [112,117,116,99] [w1 (8-j)]) (uH (9-j) (p5 [100,105,118] [w1 (8-j),jO 256]) (p3 j))
def u0:aU:=uH 6 (p5 [97,100,100] [w1 1,jO 0]) (p3 3)
set_option maxHeartbeats 4000000 in
theorem afw (h:ai):bB Tryz.prog 19 [] h fun x J=>∃us,x=.agg us∧ef J u0 us∧Ext h J:=by
 refine Uc rfl (bO ?_)
 unfold Lz
 obtain ⟨ad,aP,aI,cr⟩:=xF h [.int .i64 0,.int .i64 0,.int .i64 0,.str [],.aw,.aw,.aw]
 obtain ⟨ak,aA,bo,oo⟩:=xG ad [.int .i64 0,.int .i64 0,.str []] [.int .i64 1,.int .i64 1,.str []]
 obtain ⟨aB,a2,cp,zi,IE,e5⟩:=ks ak 3 1 [.int .i64 1,.int .i64 9,.str []] rfl (by decide)
 obtain ⟨bw,b',eA,Jy⟩:=xG aB [.int .i64 0,.int .i64 0,.int .i64 0,.str [],.aw,.aw,.aw] [.int .i64 3,.int .i64 0,.int .i64 0,.str [112,117,116,99],.slice (ao ak.next) 0 1 1,.aw,.aw]
 simp +contextual only [aP,aA,a2,b',↓ab,ae,simprocAttr]
 have bc:=cr.lt
 have eI:=bo.next
 have lG:=cp.next
 have aie:ak.next<aB.next:=by rw [←a2,cY];omega
 have mU:=Jy.lt
 have Sc:jV (fun b=>b≠ao h.next∧b≠ao aB.next) bw (p3 0) [.int .i64 3,.int .i64 0,.int .i64 0,.str [112,117,116,99],.slice (ao ak.next) 0 1 1,.aw,.aw]:=
  DR (zi.ext eA) fun b q=>by rw [e5 b q];exact ⟨by rw [ne_eq,gM];omega,by rw [ne_eq,gM];omega⟩
 refine fV (fun r g=>r 0=.ptr (ao h.next) 0∧r 1=.ptr (ao ad.next) 0∧r 2=.ptr (ao aB.next) 0∧∃(j:Nat) (u:List V),r 3=.int .i64 (3 - (j:Int))∧j≤3∧Has g h.next [.int .i64 0,.int .i64 0,.int .i64 0,.str [],.aw,.aw,.aw]∧Has g ad.next [.int .i64 1,.int .i64 1,.str []]∧Has g aB.next u∧jV (fun b=>b≠ao h.next∧b≠ao aB.next) g (p3 j) u∧Ext h g) (fun r g=>(r 3).gV) ?_ ?_
 · exact ⟨by simp only [↓ab,bf,simprocAttr],by simp only [↓ab,bf,simprocAttr],by simp only [↓ab,bf,simprocAttr],0,_,by simp only [↓ab,bf,simprocAttr]<;>rfl,by omega,((cr.ext bo).ext cp).ext eA,(oo.ext cp).ext eA,Jy,Sc,((aI.trans bo).trans cp).trans eA⟩
 rintro r g ⟨bm,aY,bn,j,u,cl,bQ,A,B,C,P,E⟩
 obtain ⟨Em,ut,ul,rfl,Fh,Fj,Fi⟩:=P.co.open
 have dj:=Fh.one
 have eW:=Fj.one
 have fz:=Fi.one
 have uJ:=C.lt
 unfold LA
 by_cases a7:j<3
 · have bV:((1:Int)≤3 - (j:Int))=True:=eq_true (by omega)
   have dH:IntKind.i64.wrap (6 + (3 - (j:Int)))=9-j:=by rw [wrap_i64 (by omega) (by omega)];omega
   have dq:IntKind.i64.wrap (9 - (j:Int)-1)=8-j:=by rw [wrap_i64 (by omega) (by omega)];omega
   have hA:IntKind.i64.wrap (20 + (3 - (j:Int)))=23-j:=by rw [wrap_i64 (by omega) (by omega)];omega
   have ix:IntKind.i64.wrap (3 - (j:Int)-1)=3 - ((j+1:Nat):Int):=by rw [wrap_i64 (by omega) (by omega)];omega
   obtain ⟨bH,pk,bx,zg,QF,s1⟩:=ks g 3 2 [.int .i64 1,.int .i64 (8-j),.str [],.int .i64 2,.int .i64 256,.str []] rfl (by decide)
   obtain ⟨bM,rb,fC,EF⟩:=xG bH [.int .i64 0,.int .i64 0,.int .i64 0,.str [],.aw,.aw,.aw] [.int .i64 3,.int .i64 0,.int .i64 0,.str [100,105,118],.slice (ao g.next) 0 2 2,.aw,.aw]
   obtain ⟨cT,re,om,zi,IE,h3⟩:=ks bM 3 1 [.int .i64 1,.int .i64 (8-j),.str []] rfl (by decide)
   obtain ⟨fF,w6,p_,JD⟩:=xG cT [.int .i64 0,.int .i64 0,.int .i64 0,.str [],.aw,.aw,.aw] [.int .i64 3,.int .i64 0,.int .i64 0,.str [112,117,116,99],.slice (ao bM.next) 0 1 1,.aw,.aw]
   obtain ⟨gY,Jg,u7,Fg,QG,nw⟩:=ks fF 7 2 [.int .i64 3,.int .i64 0,.int .i64 0,.str [100,105,118],.slice (ao g.next) 0 2 2,.aw,.aw,.int .i64 (p3 j).k,.int .i64 (p3 j).x,.int .i64 (p3 j).n,.str (p3 j).s,Em,ut,ul] rfl (by decide)
   obtain ⟨ke,Jh,w5,Sg,ael,afm⟩:=ks gY 7 2 [.int .i64 3,.int .i64 0,.int .i64 0,.str [112,117,116,99],.slice (ao bM.next) 0 1 1,.aw,.aw,.int .i64 2,.int .i64 (9-j),.int .i64 0,.str [],.aw,.aw,.slice (ao fF.next) 0 2 2] rfl (by decide)
   have RV:=EF.ext (om.trans p_)
   have Jz:=C.ext (((bx.trans fC).trans om).trans p_)
   have Bz:=Jz.ext u7
   have ED:=Bz.ext w5
   have RW:=JD.ext u7
   simp +contextual only [bm,aY,bn,cl,bV,dH,dq,hA,ix,pk,rb,re,w6,Jg,Jh,RV.g,JD.g,RW.g,Jz.g,Bz.g,ED.g,dj.1,dj.2.1,eW.1,eW.2.1,fz.1,fz.2.1,↓ab,ae,simprocAttr]
   have oA:jV (fun b=>b≠ao h.next∧b≠ao aB.next) ke (p5 [100,105,118] [w1 (8-j),jO 256]) _:=DR (zg.ext ((((fC.trans om).trans p_).trans u7).trans w5)) fun b q=>by rw [s1 b q];exact ⟨by rw [ne_eq,gM];omega,by rw [ne_eq,gM];omega⟩
   have dL:=bx.next
   have eJ:=fC.next
   have DB:=om.next
   have DC:=p_.next
   have n5:=u7.next
   have qk:jV (fun b=>b≠ao h.next∧b≠ao aB.next) ke (p5 [112,117,116,99] [w1 (8-j)]) _:=DR (zi.ext ((p_.trans u7).trans w5)) fun b q=>by rw [h3 b q];exact ⟨by rw [ne_eq,gM];omega,by rw [ne_eq,gM];omega⟩
   have zm:=((((bx.trans fC).trans om).trans p_).trans u7).trans w5
   have ql:=HM (x:=9 - (j:Int)) oA (P.ext zm) (Fg.ext w5) QG fun b q=>by rw [nw b q];exact ⟨by rw [ne_eq,gM];omega,by rw [ne_eq,gM];omega⟩
   have Ff:=HM (x:=23 - (j:Int)) qk ql Sg ael fun b q=>by rw [afm b q];exact ⟨by rw [ne_eq,gM];omega,by rw [ne_eq,gM];omega⟩
   exact ⟨⟨j+1,_,rfl,a7,(A.ext zm).set (by omega) _,(B.ext zm).set (by omega) _,(C.ext zm).put _,Ff.set (fun q=>q.2 rfl) _,(E.trans zm).set (by omega) _⟩,by omega⟩
 · have bV:((1:Int)≤3 - (j:Int))=False:=eq_false (by omega)
   obtain rfl:j=3:=by omega
   obtain ⟨bH,pk,bx,zg,QF,s1⟩:=ks g 3 2 [.int .i64 1,.int .i64 1,.str [],.int .i64 2,.int .i64 0,.str []] rfl (by decide)
   obtain ⟨bM,rb,fC,EF⟩:=xG bH [.int .i64 0,.int .i64 0,.int .i64 0,.str [],.aw,.aw,.aw] [.int .i64 3,.int .i64 0,.int .i64 0,.str [97,100,100],.slice (ao g.next) 0 2 2,.aw,.aw]
   obtain ⟨cT,re,om,zi,IE,h3⟩:=ks bM 7 2 [.int .i64 3,.int .i64 0,.int .i64 0,.str [97,100,100],.slice (ao g.next) 0 2 2,.aw,.aw,.int .i64 (p3 3).k,.int .i64 (p3 3).x,.int .i64 (p3 3).n,.str (p3 3).s,Em,ut,ul] rfl (by decide)
   have RS:=C.ext (bx.trans fC)
   have Fl:=(bx.trans fC).trans om
   have m2:=A.ext Fl
   simp +contextual only [bm,aY,bn,cl,bV,pk,rb,re,B.g,RS.g,EF.g,m2.g,dj.1,dj.2.1,eW.1,eW.2.1,fz.1,fz.2.1,↓ab,ae,simprocAttr]
   have dL:=bx.next
   have eJ:=fC.next
   have oA:jV (fun b=>b≠ao h.next∧b≠ao aB.next) cT (p5 [97,100,100] [w1 1,jO 0]) _:=DR (zg.ext (fC.trans om)) fun b q=>by rw [s1 b q];exact ⟨by rw [ne_eq,gM];omega,by rw [ne_eq,gM];omega⟩
   have Ff:=HM (x:=6) oA (P.ext Fl) zi IE fun b q=>by rw [h3 b q];exact ⟨by rw [ne_eq,gM];omega,by rw [ne_eq,gM];omega⟩
   exact ⟨_,rfl,(Ff.set (fun q=>q.1 rfl) _).co,(E.trans Fl).set (Nat.le_refl _) _⟩
theorem ads (x:Int) {n:Int} (aj:1≤n) (ad:n≤1000000) (h:ai):bB Tryz.prog 18 [.int .i64 x,.int .i64 n] h fun y J=>J=h∧∃k:Nat,(k:Int)<n∧y=.int .i64 k:=by
 refine Ub rfl (bO ?_)
 unfold Ly
 have bV:(n<1)=False:=eq_false (by omega)
 have ahL:(n=0)=False:=eq_false (by omega)
 have OY:=Dm (P:=Tryz.prog) .i64 x n (by omega)
 have t1:=Int.tmod_lt_of_pos x (show 0<n by omega)
 have t2:-n<x.tmod n:=by
  have:=Int.neg_tmod x n
  have:=Int.tmod_lt_of_pos (-x) (show 0<n by omega)
  omega
 by_cases bD:x.tmod n<0
 · have e1:=eq_true bD
   have w:IntKind.i64.wrap (x.tmod n+n)=((x.tmod n+n).toNat:Int):=by rw [wrap_i64 (by omega) (by omega)];omega
   simp +contextual only [bV,OY,e1,w,↓ab,ae,simprocAttr]
   exact ⟨_,by omega,rfl⟩
 · have e1:=eq_false bD
   simp +contextual only [bV,OY,e1,↓ab,ae,simprocAttr]
   exact ⟨(x.tmod n).toNat,by omega,by congr 1;omega⟩
def zB:bK:=eY (eY (eY (eY (eY (eY (eY j_))))))
theorem Uq:j_=.seq (pM j_) (.seq (pM (eY j_)) (.seq (pM (eY (eY j_))) (.seq (pM (eY (eY (eY j_)))) (.seq (pM (eY (eY (eY (eY j_))))) (.seq (pM (eY (eY (eY (eY (eY j_)))))) (.seq (pM (eY (eY (eY (eY (eY (eY j_))))))) zB)))))):=rfl
def H3:List (List UInt8):=[[97,100,100],[115,117,98],[109,117,108],[100,105,118],[109,111,100],[110,101,103],[101,113],[108,116],[108,101],[99,104,114],[112,117,116,99],[98,121,116,101],[99,117,116],[106,111,105,110],[115,105,122,101],[112,117,116,115],[115,101,116],[103,101,116,99]]
def nx (s:List UInt8):At:=⟨3,0,s⟩
theorem acz:∀s ∈ H3,s.length≤4:=by decide
set_option maxHeartbeats 4000000 in
theorem adz (w a b:Int) (iX:List UInt8) {h:ai} {Q:cN→bP→ai→Prop} (fY:iX.length≤1048576) (nr:∀r J,r 8=.bool true→Q .ret r J)
 (H:∀(r:bP) g s oG,r 10=.str s→s.length≤4→cj g 3 (r 14) oG.length (j9 oG)→oG.length≤3→lA oG≤80→bN Tryz.prog [.c zB] .normal r g Q):
 bN Tryz.prog [.c j_] .normal (bP.au [.int .i64 w,.int .i64 a,.int .i64 b,.str iX]) h Q:=by
 rw [Uq]
 generalize zB=rest at H ⊢
 unfold j_
 simp only [eY,pM]
 by_cases a0:a < -1073741824
 · have q:=eq_true a0
   simp +contextual only [q,↓ab,ae,simprocAttr]
   refine aS (xC _) ?_
   rintro z ad ⟨rfl,rfl⟩
   simp +contextual only [↓ab,ae,simprocAttr]
   exact nr _ _ (by simp only [↓ab,bf,simprocAttr])
 have f0:=eq_false a0
 by_cases bt:1073741823<a
 · have q:=eq_true bt
   simp +contextual only [f0,q,↓ab,ae,simprocAttr]
   refine aS (xC _) ?_
   rintro z ad ⟨rfl,rfl⟩
   simp +contextual only [↓ab,ae,simprocAttr]
   exact nr _ _ (by simp only [↓ab,bf,simprocAttr])
 have f1:=eq_false bt
 by_cases b1:b < -1073741824
 · have q:=eq_true b1
   simp +contextual only [f0,f1,q,↓ab,ae,simprocAttr]
   refine aS (xC _) ?_
   rintro z ad ⟨rfl,rfl⟩
   simp +contextual only [↓ab,ae,simprocAttr]
   exact nr _ _ (by simp only [↓ab,bf,simprocAttr])
 have f2:=eq_false b1
 by_cases a3:1073741823<b
 · have q:=eq_true a3
   simp +contextual only [f0,f1,f2,q,↓ab,ae,simprocAttr]
   refine aS (xC _) ?_
   rintro z ad ⟨rfl,rfl⟩
   simp +contextual only [↓ab,ae,simprocAttr]
   exact nr _ _ (by simp only [↓ab,bf,simprocAttr])
 have f3:=eq_false a3
 by_cases a4:4096 < (iX.length:Int)
 · have q:=eq_true a4
   simp +contextual only [f0,f1,f2,f3,q,↓ab,ae,simprocAttr]
   refine aS (xC _) ?_
   rintro z ad ⟨rfl,rfl⟩
   simp +contextual only [↓ab,ae,simprocAttr]
   exact nr _ _ (by simp only [↓ab,bf,simprocAttr])
 have f4:=eq_false a4
 obtain ⟨ad,aP,aI,zg,QF,s1⟩:=ks h 1 18 [.str [97,100,100],.str [115,117,98],.str [109,117,108],.str [100,105,118],.str [109,111,100],.str [110,101,103],.str [101,113],.str [108,116],.str [108,101],.str [99,104,114],.str [112,117,116,99],.str [98,121,116,101],.str [99,117,116],.str [106,111,105,110],.str [115,105,122,101],.str [112,117,116,115],.str [115,101,116],.str [103,101,116,99]] rfl (by decide)
 simp +contextual only [f0,f1,f2,f3,f4,aP,↓ab,ae,simprocAttr]
 refine aS (ads w (n:=18) (by decide) (by decide) ad) ?_
 rintro z ak ⟨rfl,k,al,rfl⟩
 have dJ:k<18:=by omega
 obtain ⟨dI,off,b9,S0⟩:=zg.b9 (k:=.i64) dJ
 have cG:=S0.b7 (i:=k) (by simpa using dJ)
 have kl:∃s ∈ H3,([.str [97,100,100],.str [115,117,98],.str [109,117,108],.str [100,105,118],.str [109,111,100],.str [110,101,103],.str [101,113],.str [108,116],.str [108,101],.str [99,104,114],.str [112,117,116,99],.str [98,121,116,101],.str [99,117,116],.str [106,111,105,110],.str [115,105,122,101],.str [112,117,116,115],.str [115,101,116],.str [103,101,116,99]]:List V)[k]'(by simpa using dJ)=.str s:=by
  have:([.str [97,100,100],.str [115,117,98],.str [109,117,108],.str [100,105,118],.str [109,111,100],.str [110,101,103],.str [101,113],.str [108,116],.str [108,101],.str [99,104,114],.str [112,117,116,99],.str [98,121,116,101],.str [99,117,116],.str [106,111,105,110],.str [115,105,122,101],.str [112,117,116,115],.str [115,101,116],.str [103,101,116,99]]:List V)=H3.map .str:=rfl
  simp only [this,List.getElem_map]
  exact ⟨_,List.getElem_mem _,rfl⟩
 obtain ⟨s,aM,kl⟩:=kl
 rw [kl] at cG
 have rP:=acz s aM
 rw [Nat.mul_one] at b9
 obtain ⟨aB,a2,cp,m2⟩:=xF ak [.int .i64 0,.int .i64 0,.str []]
 obtain ⟨bw,b',eA,Jw⟩:=xF aB [.int .i64 0,.int .i64 0,.str []]
 obtain ⟨ej,da,iD,Bz⟩:=xF bw [.int .i64 0,.int .i64 0,.str []]
 have lG:=m2.lt
 have mU:=Jw.lt
 have m3:=(m2.ext eA).ext iD
 have RN:=Jw.ext iD
 obtain ⟨gA,eh,yS,nB,ED⟩:∃H,ej.set (ao ak.next) (.au [.int .i64 2,.int .i64 a,.str []] 0 false)=H∧Has H ak.next [.int .i64 2,.int .i64 a,.str []]∧Has H aB.next [.int .i64 0,.int .i64 0,.str []]∧Has H bw.next [.int .i64 0,.int .i64 0,.str []]:=⟨_,rfl,m3.put _,RN.set (by omega) _,Bz.set (by omega) _⟩
 obtain ⟨c6,eE,yT,RO,nC⟩:∃H,gA.set (ao aB.next) (.au [.int .i64 2,.int .i64 b,.str []] 0 false)=H∧Has H ak.next [.int .i64 2,.int .i64 a,.str []]∧Has H aB.next [.int .i64 2,.int .i64 b,.str []]∧Has H bw.next [.int .i64 0,.int .i64 0,.str []]:=⟨_,rfl,yS.set (by omega) _,nB.put _,ED.set (by omega) _⟩
 obtain ⟨hH,fa,m4,qc,RT⟩:∃H,c6.set (ao bw.next) (.au [.int .i64 3,.int .i64 0,.str iX] 0 false)=H∧Has H ak.next [.int .i64 2,.int .i64 a,.str []]∧Has H aB.next [.int .i64 2,.int .i64 b,.str []]∧Has H bw.next [.int .i64 3,.int .i64 0,.str iX]:=⟨_,rfl,yT.set (by omega) _,RO.set (by omega) _,nC.put _⟩
 obtain ⟨ia,hM,jv,Sh,aiy,aiz⟩:=ks hH 3 2 [.int .i64 2,.int .i64 a,.str [],.int .i64 2,.int .i64 b,.str []] rfl (by decide)
 have so:=m4.ext jv
 have By:=qc.ext jv
 have tF:=RT.ext jv
 by_cases Jn:s=[110,101,103]
 · have e:=eq_true Jn
   obtain ⟨il,kv,jI,l1,uY,uZ⟩:=ks ia 3 1 [.int .i64 2,.int .i64 a,.str []] rfl (by decide)
   simp +contextual only [b9,cG,a2,b',da,eh,eE,fa,hM,m3.g,nB.g,nC.g,m4.g,qc.g,so.g,e,kv,↓ab,ae,simprocAttr]
   exact H _ _ s [jO a] (by simp only [Jn,↓ab,bf,simprocAttr]) rP (by simp only [↓ab,bf,simprocAttr];exact l1) (by simp) (by simp only [lA,jO,nx,List.length_nil];omega)
 have tD:=eq_false Jn
 by_cases Jj:s=[99,104,114]
 · have e:=eq_true Jj
   obtain ⟨il,kv,jI,l1,uY,uZ⟩:=ks ia 3 1 [.int .i64 2,.int .i64 a,.str []] rfl (by decide)
   simp +contextual only [b9,cG,a2,b',da,eh,eE,fa,hM,m3.g,nB.g,nC.g,m4.g,qc.g,so.g,tD,e,kv,↓ab,ae,simprocAttr]
   exact H _ _ s [jO a] (by simp only [Jj,↓ab,bf,simprocAttr]) rP (by simp only [↓ab,bf,simprocAttr];exact l1) (by simp) (by simp only [lA,jO,nx,List.length_nil];omega)
 have u':=eq_false Jj
 by_cases Jo:s=[112,117,116,99]
 · have e:=eq_true Jo
   obtain ⟨il,kv,jI,l1,uY,uZ⟩:=ks ia 3 1 [.int .i64 2,.int .i64 a,.str []] rfl (by decide)
   simp +contextual only [b9,cG,a2,b',da,eh,eE,fa,hM,m3.g,nB.g,nC.g,m4.g,qc.g,so.g,tD,u',e,kv,↓ab,ae,simprocAttr]
   exact H _ _ s [jO a] (by simp only [Jo,↓ab,bf,simprocAttr]) rP (by simp only [↓ab,bf,simprocAttr];exact l1) (by simp) (by simp only [lA,jO,nx,List.length_nil];omega)
 have w7:=eq_false Jo
 by_cases Jl:s=[103,101,116,99]
 · have e:=eq_true Jl
   obtain ⟨il,kv,jI,l1,uY,uZ⟩:=ks ia 3 1 [.int .i64 2,.int .i64 a,.str []] rfl (by decide)
   simp +contextual only [b9,cG,a2,b',da,eh,eE,fa,hM,m3.g,nB.g,nC.g,m4.g,qc.g,so.g,tD,u',w7,e,kv,↓ab,ae,simprocAttr]
   exact H _ _ s [jO a] (by simp only [Jl,↓ab,bf,simprocAttr]) rP (by simp only [↓ab,bf,simprocAttr];exact l1) (by simp) (by simp only [lA,jO,nx,List.length_nil];omega)
 have yR:=eq_false Jl
 by_cases Ji:s=[98,121,116,101]
 · have e:=eq_true Ji
   obtain ⟨il,kv,jI,l1,uY,uZ⟩:=ks ia 3 2 [.int .i64 3,.int .i64 0,.str iX,.int .i64 2,.int .i64 a,.str []] rfl (by decide)
   simp +contextual only [b9,cG,a2,b',da,eh,eE,fa,hM,m3.g,nB.g,nC.g,m4.g,qc.g,so.g,tF.g,tD,u',w7,yR,e,kv,↓ab,ae,simprocAttr]
   exact H _ _ s [nx iX,jO a] (by simp only [Ji,↓ab,bf,simprocAttr]) rP (by simp only [↓ab,bf,simprocAttr];exact l1) (by simp) (by simp only [lA,jO,nx,List.length_nil];omega)
 have Bs:=eq_false Ji
 by_cases Jk:s=[99,117,116]
 · have e:=eq_true Jk
   obtain ⟨il,kv,jI,l1,uY,uZ⟩:=ks ia 3 3 [.int .i64 3,.int .i64 0,.str iX,.int .i64 2,.int .i64 a,.str [],.int .i64 2,.int .i64 b,.str []] rfl (by decide)
   simp +contextual only [b9,cG,a2,b',da,eh,eE,fa,hM,m3.g,nB.g,nC.g,m4.g,qc.g,so.g,By.g,tF.g,tD,u',w7,yR,Bs,e,kv,↓ab,ae,simprocAttr]
   exact H _ _ s [nx iX,jO a,jO b] (by simp only [Jk,↓ab,bf,simprocAttr]) rP (by simp only [↓ab,bf,simprocAttr];exact l1) (by simp) (by simp only [lA,jO,nx,List.length_nil];omega)
 have Ex:=eq_false Jk
 by_cases Jm:s=[106,111,105,110]
 · have e:=eq_true Jm
   obtain ⟨il,kv,jI,l1,uY,uZ⟩:=ks ia 3 2 [.int .i64 3,.int .i64 0,.str iX,.int .i64 3,.int .i64 0,.str iX] rfl (by decide)
   simp +contextual only [b9,cG,a2,b',da,eh,eE,fa,hM,m3.g,nB.g,nC.g,m4.g,qc.g,tF.g,tD,u',w7,yR,Bs,Ex,e,kv,↓ab,ae,simprocAttr]
   exact H _ _ s [nx iX,nx iX] (by simp only [Jm,↓ab,bf,simprocAttr]) rP (by simp only [↓ab,bf,simprocAttr];exact l1) (by simp) (by simp only [lA,jO,nx,List.length_nil];omega)
 have Jr:=eq_false Jm
 by_cases Jq:s=[115,105,122,101]
 · have e:=eq_true Jq
   obtain ⟨il,kv,jI,l1,uY,uZ⟩:=ks ia 3 1 [.int .i64 3,.int .i64 0,.str iX] rfl (by decide)
   simp +contextual only [b9,cG,a2,b',da,eh,eE,fa,hM,m3.g,nB.g,nC.g,m4.g,qc.g,tF.g,tD,u',w7,yR,Bs,Ex,Jr,e,kv,↓ab,ae,simprocAttr]
   exact H _ _ s [nx iX] (by simp only [Jq,↓ab,bf,simprocAttr]) rP (by simp only [↓ab,bf,simprocAttr];exact l1) (by simp) (by simp only [lA,jO,nx,List.length_nil];omega)
 have RI:=eq_false Jq
 by_cases Jp:s=[112,117,116,115]
 · have e:=eq_true Jp
   obtain ⟨il,kv,jI,l1,uY,uZ⟩:=ks ia 3 1 [.int .i64 3,.int .i64 0,.str iX] rfl (by decide)
   simp +contextual only [b9,cG,a2,b',da,eh,eE,fa,hM,m3.g,nB.g,nC.g,m4.g,qc.g,tF.g,tD,u',w7,yR,Bs,Ex,Jr,RI,e,kv,↓ab,ae,simprocAttr]
   exact H _ _ s [nx iX] (by simp only [Jp,↓ab,bf,simprocAttr]) rP (by simp only [↓ab,bf,simprocAttr];exact l1) (by simp) (by simp only [lA,jO,nx,List.length_nil];omega)
 have ag6:=eq_false Jp
 simp +contextual only [b9,cG,a2,b',da,eh,eE,fa,hM,m3.g,nB.g,nC.g,m4.g,qc.g,tD,u',w7,yR,Bs,Ex,Jr,RI,ag6,↓ab,ae,simprocAttr]
 exact H _ _ s [jO a,jO b] (by simp only [↓ab,bf,simprocAttr]) rP (by simp only [↓ab,bf,simprocAttr];exact Sh) (by simp) (by simp [lA,jO])
theorem adv {h:ai} {s:List UInt8} {a:List At} {aX:V} (H:cj h 3 aX a.length (j9 a)):ef h (p5 s a) [.int .i64 3,.int .i64 0,.int .i64 0,.str s,aX,.aw,.aw]:=
 .mk (us:=[]) H ⟨rfl,rfl⟩ Px ⟨rfl,rfl⟩ rfl (fun i c u q=>by simp at q)
theorem abT {h:ai} {x:Int} {p q:aU} {u w:List V} {az:V} (P:ef h p u) (Q:ef h q w) (H:cj h 7 az 2 (u++w)) (ba:wU az):
 ef h (uH x p q) [.int .i64 2,.int .i64 x,.int .i64 0,.str [],.aw,.aw,az]:=
 .mk (us:=[u,w]) ⟨rfl,rfl⟩ ⟨rfl,rfl⟩ ba (by simpa using H) rfl (fun i c v ad ak=>by
  match i with
  | 0=>simp at ad ak;subst ad ak;exact P
  | 1=>simp at ad ak;subst ad ak;exact Q
  | i+2=>simp at ad)
theorem lz.set {B:Nat} {h:ai} {l:rn} {x:V} (H:lz B h l x) {n:Nat} (a1:n<B) (k:cL):lz B (h.set (ao n) k) l x:=by
 obtain ⟨bj,aP,aA⟩:=H
 refine ⟨bj,aP,aA.mod ((Mod.refl (fun b=>b=ao n) h).set (fun _=>rfl) _) fun b q e=>?_⟩
 have:=aA.base q
 rw [e,c'] at this
 omega
set_option maxHeartbeats 4000000 in
theorem adA (r:bP) (g:ai) (s:List UInt8) (oG:List At) (jm:r 10=.str s) (aM:s.length≤4) (S:cj g 3 (r 14) oG.length (j9 oG)) (CY:oG.length≤3) (g':lA oG≤80) {Q:cN→bP→ai→Prop} (nr:∀r J,r 8=.bool true→Q .ret r J):
 bN Tryz.prog [.c zB] .normal r g Q:=by
 generalize p6:r 14=aX at S
 have mg:=S.one
 unfold zB j_
 simp only [eY]
 simp +contextual only [jm,p6,mg.1,mg.2.1,mg.2.2,↓ab,ae,simprocAttr]
 refine aS (afw g) ?_
 rintro x bH ⟨us,rfl,JI,aI⟩
 obtain ⟨Em,ut,ul,rfl,Fh,Fj,Fi⟩:=JI.open
 have dj:=Fh.one
 have eW:=Fj.one
 have fz:=Fi.one
 obtain ⟨bM,aA,bo,zh,aek,s2⟩:=ks bH 7 2 [.int .i64 3,.int .i64 0,.int .i64 0,.str s,aX,.aw,.aw,.int .i64 u0.k,.int .i64 u0.x,.int .i64 u0.n,.str u0.s,Em,ut,ul] rfl (by decide)
 obtain ⟨cT,a2,cp,m2⟩:=xG bM [.int .i64 0,.int .i64 0,.int .i64 0,.str [],.aw,.aw,.aw] [.int .i64 2,.int .i64 1,.int .i64 0,.str [],.aw,.aw,.slice (ao bH.next) 0 2 2]
 obtain ⟨fF,b',eA,Sf,aix,od⟩:=ks cT 1 1 [.int .u8 7] rfl (by decide)
 obtain ⟨gY,da,iD,Fg,QG,nw⟩:=ks fF 1 1 [.int .u8 7] rfl (by decide)
 obtain ⟨ke,eh,jJ,nB⟩:=xF gY [.int .i64 0,.int .i64 0,.int .i64 0,.int .i64 0,.aw]
 obtain ⟨ug,eE,fE,nC⟩:=xF ke [.int .i64 0,.int .i64 0,.int .i64 0,.int .i64 0,.aw]
 have Ez:=m2.ext eA
 have m3:=Ez.ext iD
 have yS:=m3.ext jJ
 have yT:=yS.ext fE
 simp +contextual only [jm,p6,mg.1,mg.2.1,mg.2.2,dj.1,dj.2.1,eW.1,eW.2.1,fz.1,fz.2.1,aA,a2,b',da,eh,eE,m2.g,Ez.g,m3.g,yS.g,yT.g,↓ab,ae,simprocAttr]
 have JJ:ef ug (uH 1 (p5 s oG) u0) [.int .i64 2,.int .i64 1,.int .i64 0,.str [],.aw,.aw,.slice (ao bH.next) 0 2 2]:=(abT (adv (S.ext (aI.trans bo))) (JI.ext bo) zh aek).ext ((((cp.trans eA).trans iD).trans jJ).trans fE)
 have OC:wt (uH 1 (p5 s oG) u0)≤400:=by
  have:wt u0≤100:=by decide
  simp only [uH,p5,wt,jU,lA,List.length_nil] at this ⊢
  omega
 refine aS (afk _ _ ug JJ OC (aN:=[7]) ((Sf.ext iD).ext (jJ.trans fE)) (by decide) (steps:=40) (by decide)) ?_
 rintro x vC ⟨l,aL,L,hG⟩
 obtain ⟨bj,rfl,V,dx⟩:=L.open
 have m4:=yT.ext hG
 simp +contextual only [jm,p6,m4.g,↓ab,ae,simprocAttr]
 refine aS (aeI _ _ vC (JJ.ext hG) OC (aN:=[7]) ((Fg.ext jJ).ext (fE.trans hG)) (by decide) (steps:=40) (by decide)) ?_
 rintro x Wv ⟨m,hm,M,jv⟩
 obtain rfl:l=m:=afl aL hm
 obtain ⟨Eu,rfl,W,P0⟩:=M.open
 have so:=m4.ext jv
 have By:=(nB.ext fE).ext (hG.trans jv)
 have tF:=nC.ext (hG.trans jv)
 have n5:=fE.next
 have n6:=nC.lt
 have n7:=hG.next
 have aik:=nB.lt
 have eJ:=m2.lt
 have DB:=eA.next
 have DC:=iD.next
 obtain ⟨Ws,kv,Ju,Jv,Jx,R6,R'⟩:∃H,Wv.set (ao gY.next) (.au [.int .i64 l.e6,.int .i64 l.fp,.int .i64 l.read,.int .i64 l.steps,bj] 0 false)=H∧Has H bM.next [.int .i64 2,.int .i64 1,.int .i64 0,.str [],.aw,.aw,.slice (ao bH.next) 0 2 2]∧Has H gY.next [.int .i64 l.e6,.int .i64 l.fp,.int .i64 l.read,.int .i64 l.steps,bj]∧Has H ke.next [.int .i64 0,.int .i64 0,.int .i64 0,.int .i64 0,.aw]∧lz ug.next H l (.agg [.int .i64 l.e6,.int .i64 l.fp,.int .i64 l.read,.int .i64 l.steps,bj])∧lz vC.next H l (.agg [.int .i64 l.e6,.int .i64 l.fp,.int .i64 l.read,.int .i64 l.steps,Eu]):=
  ⟨_,rfl,so.set (by omega) _,By.put _,tF.set (by omega) _,(L.ext jv).set (by omega) _,M.set (by omega) _⟩
 obtain ⟨ahB,adJ,RL,RM,RR,R7,R_⟩:∃H,Ws.set (ao ke.next) (.au [.int .i64 l.e6,.int .i64 l.fp,.int .i64 l.read,.int .i64 l.steps,Eu] 0 false)=H∧Has H bM.next [.int .i64 2,.int .i64 1,.int .i64 0,.str [],.aw,.aw,.slice (ao bH.next) 0 2 2]∧Has H gY.next [.int .i64 l.e6,.int .i64 l.fp,.int .i64 l.read,.int .i64 l.steps,bj]∧Has H ke.next [.int .i64 l.e6,.int .i64 l.fp,.int .i64 l.read,.int .i64 l.steps,Eu]∧lz ug.next H l (.agg [.int .i64 l.e6,.int .i64 l.fp,.int .i64 l.read,.int .i64 l.steps,bj])∧lz vC.next H l (.agg [.int .i64 l.e6,.int .i64 l.fp,.int .i64 l.read,.int .i64 l.steps,Eu]):=
  ⟨_,rfl,Ju.set (by omega) _,Jv.set (by omega) _,Jx.put _,R6.set (by omega) _,R'.set (by omega) _⟩
 simp +contextual only [jm,p6,dx.1,dx.2.1,P0.1,P0.2.1,kv,adJ,m2.g,Ez.g,m3.g,yS.g,yT.g,m4.g,so.g,Ju.g,RL.g,By.g,tF.g,Jv.g,Jx.g,RM.g,RR.g,↓ab,ae,simprocAttr]
 refine aS (afp R7 R_) ?_
 rintro z ahC ⟨rfl,nc⟩
 have d1:decide (l=l)=true:=decide_eq_true rfl
 simp +contextual only [d1,↓ab,ae,simprocAttr]
 refine aS (xC _) ?_
 rintro z ahD ⟨rfl,rfl⟩
 simp +contextual only [↓ab,ae,simprocAttr]
 exact nr _ _ (by simp only [↓ab,bf,simprocAttr])
theorem abB (w a b:Int) (iX:List UInt8) (fY:iX.length≤1048576) (h:ai):bB Tryz.prog 4 [.int .i64 w,.int .i64 a,.int .i64 b,.str iX] h fun x J=>x=.bool true:=by
 refine Up rfl (bO ?_)
 have nr:∀(r:bP) (J:ai),r 8=.bool true→(fun e r J=>e.ends∧∃ah,eZ r J [.t 8]=some ah∧oneOf ah=.bool true) cN.ret r J:=fun r J q=>by
  simp +contextual only [q,↓ab,ae,simprocAttr]
 exact adz w a b iX fY nr fun r g s oG jm aM S ad ak=>adA r g s oG jm aM S ad ak nr
end Go.Proofs.YtjbiefneffiogaaGreat
