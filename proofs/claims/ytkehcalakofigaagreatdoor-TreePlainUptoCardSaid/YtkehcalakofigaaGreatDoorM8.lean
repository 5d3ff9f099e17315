/- The chapter's functions, walked by the abstract machine: plain lemmas, no condition. Printed by a program from longer texts: names made short. -/
import Derived.Test.YtkehcalakofigaaGreatDoorM6
import Derived.Test.YtkehcalakofigaaGreatDoorM7
set_option linter.unusedSectionVars false
set_option linter.unusedSimpArgs false
set_option linter.unusedVariables false
namespace Go.Proofs.YtkehcalakofigaaGreatDoor
open Go aS
theorem QQ {P:Program} {b':List V} {b:aO} {d:Option Nat} {os:List bA} {D:Option gW} {aI:List gK} {r:aT} {h:af} {Q:c6→aT→af→Prop} {K:V→af→Prop}
 (c:wx P b' b h K) (H:∀v ab,K v ab→bk P (.os (hy D r h v) os::aI) .normal (r.set d v) ab Q):Cx P (b'++[.ptr b 0]) d D os aI r h Q:=by
 obtain ⟨v,ab,q,k⟩:=c
 exact ⟨b',b,rfl,v,ab,q,H v ab k⟩
structure CK (fE:Nat) (h8:aO) (M:aO→Prop) (I:List aL→af→Prop):Prop where
 ext:∀{d:List aL} {h ab:af},I d h→Ext h ab→I d ab
 wZ:∀{d:List aL} {h:af} (p:aL) {ad:List V},I d h→b9 (fun b=>b8 b<fE) h p.enc ad→wx Tryz.prog [.agg ad] h8 h fun x ab=>x=.bool true∧I (d++[p]) ab∧Mod M h ab
 bR:∀{d:List aL} {h:af},I d h→∀b,M b→Old h b
 bG:∀b,M b→fE≤b8 b
set_option maxHeartbeats 1000000 in
theorem M3 {fE:Nat} {h8:aO} {M:aO→Prop} {I:List aL→af→Prop} (E:CK fE h8 M I) {j4 jR:Nat} (a6:¬M (ay j4)) (az:¬M (ay jR)):∀(N:Nat) (p:aL),p.size≤N→∀(d:List aL) (ad:List V) (h:af),b9 (fun b=>b8 b<fE) h p.enc ad→
 Has h j4 [.func 4294967296 [.ptr h8 0]]→Has h jR [.func 53 [.ptr (ay j4) 0,.ptr (ay jR) 0]]→I d h→bM Tryz.prog 53 [.agg ad,.ptr (ay j4) 0,.ptr (ay jR) 0] h fun x ab=>x=.bool true∧I (d++p.pre) ab∧Mod M h ab
 | 0,p,aQ,_,_,_,_,_,_,_=>by have:=ri p;omega
 | N+1,p,aQ,d,ad,h,H,Y,B,J=>by
   obtain ⟨cH,rfl,L,_⟩:=aL.open H
   have ol:=L.one
   have ai:=L.len
   have hle:=L.le
   rw [List.length_map] at ai hle
   refine Kf rfl (dt ?_)
   unfold zV
   obtain ⟨aa,aq,aN,dw⟩:=gO h [.int .i64 p.k,.int .i64 p.n,.int .i64 p.a,.str p.s,cH]
   have pG:¬M (ay h.next):=fun q=>vn (Nat.le_refl _) (E.bR J _ q)
   have nU:=Y.ext aN
   simp +contextual only [ol.1,ol.2.1,aq,dw.g,nU.g,l9,List.cons_append,List.nil_append,if_true,↓aw,aJ,simprocAttr]
   refine QQ (b':=[_]) (E.wZ p (E.ext J aN) (H.ext aN)) ?_
   rintro x ae ⟨rfl,da,m2⟩
   have cS:=dw.mod m2 pG
   have Dc:=nU.mod m2 a6
   have eo:=(B.ext aN).mod m2 az
   have G2:Mod M h ae:=(aN.mod M).trans m2
   simp +contextual only [cS.g,ai,↓aw,aJ,simprocAttr]
   refine gS (fun r g=>r 1=.ptr (ay j4) 0∧r 2=.ptr (ay jR) 0∧r 12=cH∧r 13=.int .i64 p.l.length∧∃i:Nat,r 14=.int .i64 i∧i≤p.l.length∧Has g j4 [.func 4294967296 [.ptr h8 0]]∧Has g jR [.func 53 [.ptr (ay j4) 0,.ptr (ay jR) 0]]∧
    I (d++[p]++gk (p.l.take i)) g∧Mod M h g) (fun r g=>p.l.length - (r 14).toN) ?_ ?_
   · exact ⟨by simp only [↓aw,bw,simprocAttr],by simp only [↓aw,bw,simprocAttr],by simp only [↓aw,bw,simprocAttr],by simp only [↓aw,bw,simprocAttr],0,by simp only [↓aw,bw,simprocAttr]<;>rfl,by omega,Dc,eo,by rw [List.take_zero,gk,List.append_nil];exact da,G2⟩
   rintro r g ⟨bz,bZ,td,te,i,nF,YY,Dd,CE,rQ,q4⟩
   unfold Ea
   have j':=L.mod (dx:=fun b=>b8 b<fE) q4 fun b q _=>⟨fun z=>by have:=E.bG b z;omega,q⟩
   by_cases aP:i<p.l.length
   · have g0:((i:Int) < (p.l.length:Int))=True:=eq_true (by omega)
     obtain ⟨b,off,wl,c0,X,gY,ld⟩:=aL.k9 j' (k:=.i64) aP
     have vc:=ld g (Ext.refl g)
     have eF:=gY.one
     have eR:=kF aP (by unfold top at hle;omega)
     have b5:=rh (t:=p) (List.getElem_mem aP)
     obtain ⟨g1,dH,bm,Z⟩:=gZ g [.int .i64 0,.int .i64 0,.int .i64 0,.str [],.b4] [.int .i64 p.l[i].k,.int .i64 p.l[i].n,.int .i64 p.l[i].a,.str p.l[i].s,wl]
     have qm:=CE.ext bm
     have tO:=Dd.ext bm
     simp +contextual only [bz,bZ,td,te,nF,g0,c0,vc,dH,Z.g,qm.g,eF.1,eF.2.1,l9,List.cons_append,List.nil_append,show (53=4294967296)=False from by simp,if_false,↓aw,aJ,simprocAttr]
     refine cj (M3 E a6 az N p.l[i] (by omega) _ _ g1 (X.ext bm) tO qm (E.ext rQ bm)) ?_
     rintro x g2 ⟨rfl,dd,m3⟩
     simp +contextual only [bz,bZ,td,te,nF,eR,↓aw,aJ,simprocAttr]
     exact ⟨⟨i+1,rfl,aP,tO.mod m3 a6,qm.mod m3 az,by rw [take_one aP,HM,gk,gk,List.append_nil,←List.append_assoc];exact dd,q4.trans ((bm.mod M).trans m3)⟩,by omega⟩
   · have g0:((i:Int) < (p.l.length:Int))=False:=eq_false (by omega)
     rw [List.take_of_length_le (by omega)] at rQ
     simp +contextual only [bz,bZ,td,te,nF,g0,↓aw,aJ,simprocAttr]
     exact ⟨by rw [HK,←List.singleton_append,←List.append_assoc];exact rQ,q4⟩
theorem QE (ad:List V) (h:af) (aR:ed ad=true) (ai:ad.length≤top):bM Tryz.prog 40 [.agg ad] h fun x ab=>∃n,x=.func 52 [.ptr (ay n) 0]∧Has ab n ad∧Ext h ab:=by
 refine Um rfl (dt ?_)
 unfold D5
 obtain ⟨aa,aq,aN,dw⟩:=gO h ad
 have eD:(ad.length≤17179869184)=True:=eq_true ai
 simp +contextual only [aq,aR,eD,↓aw,aJ,simprocAttr]
 exact ⟨_,rfl,dw,aN⟩
set_option maxHeartbeats 1000000 in
theorem ag4 {fE:Nat} {h8:aO} {M:aO→Prop} {I:List aL→af→Prop} (E:CK fE h8 M I) {iP:Nat} (p:aL) (ad:List V) (h:af) (H:b9 (fun b=>b8 b<fE) h p.enc ad) (CF:Has h iP ad) (J:I [] h):
 bM Tryz.prog 52 [.func 4294967296 [.ptr h8 0],.ptr (ay iP) 0] h fun x ab=>I p.pre ab∧Mod M h ab:=by
 obtain ⟨cH,rfl,L,_⟩:=aL.open H
 refine Ke rfl (dt ?_)
 unfold zU
 obtain ⟨aa,aq,aN,nU⟩:=gO h [.func 4294967296 [.ptr h8 0]]
 obtain ⟨ae,av,aY,eo⟩:=gZ aa [.iu] [.func 53 [.ptr (ay h.next) 0,.ptr (ay aa.next) 0]]
 have fa:=aN.trans aY
 have nR:=CF.ext fa
 have c1:¬M (ay h.next):=fun q=>vn (Nat.le_refl _) (E.bR J _ q)
 have hO:¬M (ay aa.next):=fun q=>vn (Nat.le_refl _) (E.bR (E.ext J aN) _ q)
 have ol:=L.one
 simp +contextual only [aq,av,eo.g,nR.g,ol.1,ol.2.1,l9,List.cons_append,List.nil_append,show (53=4294967296)=False from by simp,if_false,↓aw,aJ,simprocAttr]
 refine cj (M3 E c1 hO p.size p (Nat.le_refl _) [] _ ae (H.ext fa) (nU.ext aY) eo (E.ext J fa)) ?_
 rintro x aF ⟨rfl,dd,m3⟩
 simp +contextual only [↓aw,aJ,simprocAttr]
 exact ⟨dd,(fa.mod M).trans m3⟩
structure IS (b3 hF m:Nat) (l:lu) (d:List aL) (h:af):Prop where
 n:Has h b3 [.int .i64 (IntKind.i64.wrap d.length)]
 bG:m<h.next
 l:h.get (ay m)=.cY l
 pg:hF<h.next
 d:h.get (ay hF)=.eu
theorem afo (v:V) (r:aT):mD [6] [v] r 3=r 3:=by simp [mD,aT.rb,aT.set,dX]
theorem ahh (n:Nat):IntKind.i64.wrap (IntKind.i64.wrap (n:Int)+1)=IntKind.i64.wrap ((n+1:Nat):Int):=by
 rw [IntKind.wrap_i64,IntKind.wrap_i64,IntKind.wrap_i64];omega
set_option maxHeartbeats 1000000 in
theorem VX {fE b3 hF m:Nat} {l:lu} {r:aT} (cN:fE≤b3) (po:fE≤m) (cZ:m≠b3) (xe:hF≠b3) (sn:hF≠m) (F:wk Tryz.prog l 10 r [6] DS DT) (ba:l.st=0) (ah:l.dK=none) (aH:r 3=.ptr (ay b3) 0):
 CK fE (ay m) (fun b=>b=ay b3∨b=ay m) (fun d h=>IS b3 hF m l d h) where
 ext:=fun {d h ab} J e=>⟨J.n.ext e,Nat.lt_of_lt_of_le J.bG e.next,(e.get _ (fh J.bG)).trans J.l,Nat.lt_of_lt_of_le J.pg e.next,(e.get _ (fh J.pg)).trans J.d⟩
 bR:=fun {d h} J b ag=>by
  rcases ag with rfl | rfl
  · exact fh J.n.lt
  · exact fh J.bG
 bG:=fun b ag=>by
  rcases ag with rfl | rfl
  · rw [c4];exact cN
  · rw [c4];exact po
 wZ:=fun {d h} p ad J H=>by
  refine QR (by decide) follows dq F J.l ba rfl ?_
  have o0:=J.n.set (m:=m) (fun q=>cZ q.symm) (.cY (l.go 1 l.dK))
  unfold DS
  refine ⟨rfl,J.l,dt ?_⟩
  unfold DT
  have dQ:l.go 0 none=l:=by obtain ⟨st,dK,_,_,_,_,_,_⟩:=l;simp only at ba ah;subst ba ah;rfl
  simp +contextual only [afo,aH,o0.g,ahh,↓aw,aJ,simprocAttr]
  refine ⟨if_neg (fun q=>cZ q.symm),⟨?_,?_,?_,?_,?_⟩,?_⟩
  · refine Has.set ?_ (fun q=>cZ q.symm) _
    rw [List.length_append,List.length_singleton]
    exact o0.put _
  · exact J.bG
  · rw [di,if_pos rfl,dQ]
  · exact J.pg
  · rw [di,if_neg (fun q=>sn (fB q).symm),di,if_neg (fun q=>xe (fB q).symm),di,if_neg (fun q=>sn (fB q).symm)]
    exact J.d
  · exact (((Mod.refl _ h).set (fun _=>.inr rfl) _).set (fun _=>.inl rfl) _).set (fun _=>.inr rfl) _
set_option maxHeartbeats 1000000 in
theorem Ie (p:aL) (aQ:p.size≤1000000000) (ad:List V) (h:af) (H:b9 Any h p.enc ad):bM Tryz.prog 15 [.agg ad] h fun x ab=>x=.int .i64 (p.size:Nat)∧Ext h ab:=by
 have hU:=H.Ht
 have aR:=H.ed
 obtain ⟨cH,cI,L,_⟩:=aL.open H
 have pO:ad.length≤top:=by rw [cI];simp [top]
 have cd:ad.length=5:=by rw [cI];rfl
 have Gv:(ad.length≤17179869184)=True:=eq_true pO
 refine TQ rfl (dt ?_)
 unfold DR
 obtain ⟨aa,aq,aN,dw⟩:=gO h ad
 obtain ⟨ae,av,aY,qw⟩:=gZ aa [.int .i64 0] [.int .i64 0]
 have cS:=dw.ext aY
 have g5:lO 5 (bW.bq ad 0 false) 0=some (.agg ad):=by rw [Bf,if_pos (by omega),List.drop_zero,List.take_of_length_le (by omega)]
 simp +contextual only [aq,av,aR,Gv,cS.g,g5,↓aw,aJ,simprocAttr]
 refine cj (QE ad ae aR pO) ?_
 rintro x aF ⟨n,rfl,rS,cz⟩
 simp +contextual only [↓aw,aJ,simprocAttr]
 refine Pq (g:=52) (cs:=[.ptr (ay n) 0]) (by simp only [↓aw,bw,simprocAttr]) (by decide) ⟨_,Tryz.func52,by kernel_rfl⟩ ?_
 intro l F ba ah
 have EF:Ext h aF:=aN.trans (aY.trans cz)
 have gD:Ext aF ((aF.new .eu).new (.cY l)):=((Ext.refl aF).new _).new _
 have wS:=EF.trans gD
 have e6:=aN.next
 have ht:=aY.next
 have x1:=cz.next
 have gv:=qw.lt
 have C7:Has ((aF.new .eu).new (.cY l)) aa.next [.int .i64 0]:=(qw.ext cz).ext gD
 have E:=VX (fE:=h.next) (b3:=aa.next) (hF:=aF.next) (m:=aF.next+1) (by omega) (by omega) (by omega) (by omega) (by omega) F ba ah (by simp only [↓aw,bw,simprocAttr])
 have al:IS aa.next aF.next (aF.next+1) l [] ((aF.new .eu).new (.cY l)):=by
  refine ⟨C7,by rw [e7,e7];omega,mV _,by rw [e7,e7];omega,?_⟩
  rw [gE,if_neg (fun q=>by have:=fB q;rw [e7] at this;omega),mV]
 refine (ag4 E p ad _ (hU.ext wS) (rS.ext gD) al).mono ?_
 rintro x cd ⟨dy,m5⟩
 refine ⟨l,dy.l,by rw [ba];decide,?_⟩
 rw [ah]
 have zr:=dy.n.set (m:=aF.next+1) (by omega) .dead
 have hw:IntKind.i64.wrap (p.pre.length:Int)=((p.size:Nat):Int):=by rw [HL,wrap_i64 (by omega) (by omega)]
 rw [hw] at zr
 have qF:(cd.set (ay (aF.next+1)) .dead).get (ay aF.next)=.eu:=by rw [di,if_neg (fun q=>by have:=fB q;omega)];exact dy.d
 have EJ:Ext h (cd.set (ay (aF.next+1)) .dead):=by
  refine (wS.q5 m5 fun b ag=>?_).set (by omega) _
  rcases ag with rfl | rfl
  · rw [c4];omega
  · rw [c4];omega
 simp +contextual only [Option.getD_none,zr.g,dX,V.list,aT.bq,oB,qF,↓aw,aJ,simprocAttr]
 exact EJ.set (by omega) _
structure gC where
 first:List Int:=[]
 rest:Int:=0
 least:Int:=0
 iN:Int:=0
 last:List Int:=[]
 bG:Int:=0
 az:Int:=0
 s:Int:=0
def gC.enc (r:gC):List D:=[.l 1 (r.first.map aS.encI),.i .i64 r.rest,.i .i64 r.least,.i .i64 r.iN,.l 1 (r.last.map aS.encI),.i .i64 r.bG,.i .i64 r.az,.i .i64 r.s]
def yE:List (Int × gC):=
 [(1,{s:=3}),(2,{s:=1,rest:=1,iN:=64}),(3,{first:=[1,1]}),(4,{first:=[1,1]}),
  (10,{}),(13,{}),(11,{s:=1}),(12,{bG:=-1073741824,az:=1073741823}),(14,{az:=1}),(15,{first:=[2,2]}),(16,{s:=2,rest:=2,iN:=1}),
  (20,{bG:=-1073741824,az:=1073741823}),(21,{s:=4}),(22,{}),(23,{az:=1}),(24,{s:=1}),(25,{s:=2,rest:=3,iN:=1}),(26,{first:=[3,3]}),(28,{first:=[3,3]}),(35,{first:=[3,3]}),(37,{first:=[3,3]}),
  (38,{s:=5,first:=[3,3]}),(34,{first:=[3]}),(36,{first:=[3]}),(39,{first:=[3]}),(31,{first:=[3,3,3]}),(27,{first:=[2,3]}),(29,{first:=[2,3,3]}),
  (30,{rest:=5,least:=1,iN:=1073741824,last:=[3]}),(32,{first:=[3],rest:=4,least:=1,iN:=1073741824}),(33,{first:=[3],rest:=4,least:=1,iN:=1073741824}),
  (45,{first:=[2,3]}),(46,{s:=1,first:=[9]}),(47,{s:=2,rest:=1,iN:=1}),(51,{s:=2,rest:=1,iN:=1}),(52,{first:=[2,3]}),(53,{rest:=5,least:=1,iN:=1073741824}),
  (50,{s:=1,az:=64,rest:=6,least:=1,iN:=1073741824})]
def Ca:List (Int × List D):=yE.map fun x=>(x.1,x.2.enc)
set_option maxRecDepth 100000 in
theorem aft:BB ctx 100000 35 (fun ao v=>BA ao 1000 Ca v)=true:=by kernel_rfl
theorem PK (h:af):bM Tryz.prog 35 [] h fun x ab=>Ext h ab∧l2 (Jj h) ab Ca x:=
 VT (C:=ctx) follows dq HP (by kernel_rfl) (by kernel_rfl) ⟨_,Tryz.func35,by kernel_rfl⟩ aft h
def hX (k:Int):Int:=if 1≤k∧k≤4 then 1 else if 10≤k∧k≤16 then 2 else if 20≤k∧k≤39 then 3 else if k=45 then 4 else if k=46 then 5 else if k=47 then 6 else if 50≤k∧k≤53 then 7 else 0
theorem acR {a b:Int} (h:a≤b):(a≤b)=True:=eq_true h
theorem acQ {a b:Int} (h:b<a):(a≤b)=False:=eq_false (by omega)
theorem Xy {a b:Int} (h:b≤a):(a≥b)=True:=eq_true h
theorem Xx {a b:Int} (h:a<b):(a≥b)=False:=eq_false (by omega)
theorem aab {a b:Int} (h:a=b):(a=b)=True:=eq_true h
theorem aaa {a b:Int} (h:a<b∨b<a):(a=b)=False:=eq_false (by omega)
set_option maxHeartbeats 4000000 in
theorem E5 (k:Int) (h:af):bM Tryz.prog 36 [.int .i64 k] h fun x ab=>x=.int .i64 (hX k)∧ab=h:=by
 refine Uf rfl (dt ?_)
 unfold D3 hX
 have aE:k<1∨(1≤k∧k≤4)∨(5≤k∧k≤9)∨(10≤k∧k≤16)∨(17≤k∧k≤19)∨(20≤k∧k≤39)∨(40≤k∧k≤44)∨k=45∨k=46∨k=47∨(48≤k∧k≤49)∨(50≤k∧k≤53)∨54≤k:=by omega
 rcases aE with q | q | q | q | q | q | q | q | q | q | q | q | q<;>simp +contextual (disch:=omega) only [acR,acQ,Xy,Xx,aab,aaa,and_true,and_false,true_and,false_and,if_true,if_false,↓aw,aJ,simprocAttr]<;>trivial
def A6 (k g:Int):Bool:=if g=8 then decide (k=1) else if g=9 then decide (k=27) else decide (hX k=g)
set_option maxHeartbeats 1000000 in
theorem aax (t:aL) (g:Int) (ad:List V) (h:af) (H:b9 Any h t.enc ad):bM Tryz.prog 48 [.agg ad,.int .i64 g] h fun x ab=>x=.bool (A6 t.k g)∧Ext h ab:=by
 obtain ⟨cH,rfl,L,_⟩:=aL.open H
 have ol:=L.one
 refine UD rfl (dt ?_)
 unfold D_ A6
 obtain ⟨aa,aq,aN,dw⟩:=gO h [.int .i64 t.k,.int .i64 t.n,.int .i64 t.a,.str t.s,cH]
 by_cases a:g=8
 · simp +contextual only [ol.1,ol.2.1,aq,dw.g,eq_true a,if_true,↓aw,aJ,simprocAttr]
   exact aN
 · by_cases b:g=9
   · simp +contextual only [ol.1,ol.2.1,aq,dw.g,eq_false a,eq_true b,if_true,if_false,↓aw,aJ,simprocAttr]
     exact aN
   · simp +contextual only [ol.1,ol.2.1,aq,dw.g,eq_false a,eq_false b,if_false,↓aw,aJ,simprocAttr]
     refine cj (E5 t.k aa) ?_
     rintro x ae ⟨rfl,rfl⟩
     simp +contextual only [↓aw,aJ,simprocAttr]
     exact aN
def vD (k:Int):List (Int × gC)→Option gC
 | []=>none
 | (n,r)::l=>if k=n then some r else vD k l
def oL (k:Int):Option gC:=vD k yE
theorem Li (k:Int):∀l:List (Int × gC),lg k (l.map fun x=>(x.1,x.2.enc))=(vD k l).map gC.enc
 | []=>rfl
 | (n,r)::l=>by
   simp only [List.map_cons,lg,vD]
   split
   · rfl
   · exact Li k l
theorem W4 (k:Int):lg k Ca=(oL k).map gC.enc:=Li k yE
def opsL:List (List UInt8):=[[43],[45],[42],[47],[109,111,100],[61],[60],[60,61]]
section
variable (named:Int→List UInt8→Bool)
def Cs (lJ:Int) (s:List UInt8):Bool:=
 if lJ=1 then named 3 s else if lJ=2 then named 4 s else if lJ=3 then named 5 s else if lJ=4 then decide (s.length≤4096) else if lJ=5 then opsL.contains s else decide (s=[])
def firstM (r:gC) (k n:Int):List Int:=if k=50 then List.replicate n.toNat 8 else r.first
def gl (r:gC) (k n:Int) (len:Nat):Int:=(len:Int) - (firstM r k n).length-r.last.length
def qH (r:gC) (k n:Int) (len:Nat):List Int:=firstM r k n++List.replicate (gl r k n len).toNat r.rest++r.last
def xg (r:gC) (k n a:Int) (s:List UInt8):Bool:=
 decide (r.bG≤n)&&decide (n≤r.az)&&decide (0≤a)&&decide (a≤65536)&&Cs named r.s s
def k_ (r:gC) (k n:Int) (len:Nat):Bool:=decide (r.least≤gl r k n len)&&decide (gl r k n len≤r.iN)
mutual
def aL.may:aL→Bool
 | .mk k n a s l=>match oL k with
   | none=>false
   | some r=>xg named r k n a s&&k_ r k n l.length&&j1 (qH r k n l.length) l
def j1:List Int→List aL→Bool
 | _,[]=>true
 | [],_::_=>true
 | g::gs,t::l=>A6 t.k g&&t.may&&j1 gs l
end
end
theorem PI {k:Int} {r:gC}:∀{l:List (Int × gC)},vD k l=some r→(k,r) ∈ l
 | [],h=>by cases h
 | (n,q)::l,h=>by
   simp only [vD] at h
   split at h
   · cases h;rename_i e;subst e;simp
   · exact List.mem_cons_of_mem _ (PI h)
section
variable {named:Int→List UInt8→Bool}
end
end Go.Proofs.YtkehcalakofigaaGreatDoor
namespace Go.Proofs.YtkehcalakofigaaGreatDoor
open Go aS
abbrev Nm:=List UInt8
mutual
def aL.same:aL→aL→Bool
 | .mk k n _ s l,.mk bl gT _ fC ec=>decide (k=bl)&&decide (n=gT)&&decide (s=fC)&&h' l ec
def h':List aL→List aL→Bool
 | [],[]=>true
 | t::l,u::m=>t.same u&&h' l m
 | [],_::_=>false
 | _::_,[]=>false
end
theorem afI (t u:aL):t.same u=(decide (t.k=u.k)&&decide (t.n=u.n)&&decide (t.s=u.s)&&h' t.l u.l):=by
 cases t;cases u;rw [aL.same];rfl
theorem O9:∀{l m:List aL},h' l m=true→l.length=m.length
 | [],[],_=>rfl
 | t::l,u::m,h=>by
   rw [h',Bool.and_eq_true] at h
   rw [List.length_cons,List.length_cons,O9 h.2]
 | [],_::_,h=>by rw [h'] at h;cases h
 | _::_,[],h=>by rw [h'] at h;cases h
theorem O8:∀{l m:List aL} {i:Nat} (aa:i<l.length) (ae:i<m.length),h' (l.drop i) (m.drop i)=(l[i].same m[i]&&h' (l.drop (i+1)) (m.drop (i+1)))
 | t::l,u::m,0,_,_=>by simp only [List.drop_zero,List.drop_succ_cons,h',List.getElem_cons_zero]
 | t::l,u::m,i+1,aa,ae=>by
   simp only [List.drop_succ_cons,List.getElem_cons_succ]
   exact O8 (by simpa using aa) (by simpa using ae)
def aL.names (t:aL):List Nm:=(t.pre.filter fun p=>decide (p.k=11)).map aL.s
theorem Hc (t:aL):t.names.length≤t.size:=by
 unfold aL.names
 rw [List.length_map,←HL]
 exact List.length_filter_le _ _
def iB (l:List aL):List Nm:=(l.filter fun p=>decide (p.k=46)).map aL.s
theorem JV (l m:List aL):iB (l++m)=iB l++iB m:=by
 unfold iB
 rw [List.filter_append,List.map_append]
theorem Dv (l:List aL):(iB l).length≤l.length:=by
 unfold iB
 rw [List.length_map]
 exact List.length_filter_le _ _
def je:List aL→List Nm
 | []=>[]
 | t::_=>t.names
def hD (k:Int) (l:List aL) (i:Nat):List Nm:=
 if k=27∨k=45 then (if i=1 then je l else []) else if k=29 then (if i=2 then je l else []) else if k=30∨k=53 then iB l else []
def fV (O:List Nm) (s:Nm):List Nm:=if s ∈ O then O else O++[s]
def nI:List Nm→Nm→List Nm
 | [],s=>[s]
 | x::l,s=>if x<s then x::nI l s else if x=s then x::l else s::x::l
section
variable (u:List Nm→Nm→List Nm)
mutual
def aL.dh:aL→List Nm→List Nm→List Nm
 | .mk k n a s l,B,O=>if k=24∧¬s ∈ B then u O s else e1 k l 0 l B O
def e1 (k:Int) (gv:List aL):Nat→List aL→List Nm→List Nm→List Nm
 | _,[],_,O=>O
 | i,t::l,B,O=>e1 k gv (i+1) l B (t.dh (B++hD k gv i) O)
end
theorem EZ (t:aL) (B O:List Nm):t.dh u B O=if t.k=24∧¬t.s ∈ B then u O t.s else e1 u t.k t.l 0 t.l B O:=by
 cases t;rw [aL.dh];rfl
theorem Lv (k:Int) (gv:List aL):∀{l:List aL} {i j:Nat} (h:i<l.length) (B O:List Nm),e1 u k gv j (l.drop i) B O=e1 u k gv (j+1) (l.drop (i+1)) B (l[i].dh u (B++hD k gv j) O)
 | t::l,0,j,_,B,O=>by simp only [List.drop_zero,List.drop_succ_cons,e1,List.getElem_cons_zero]
 | t::l,i+1,j,h,B,O=>by
   simp only [List.drop_succ_cons,List.getElem_cons_succ]
   exact Lv k gv (by simpa using h) B O
end
theorem Pf (O:List Nm) (s x:Nm):x ∈ fV O s↔x=s∨x ∈ O:=by
 unfold fV
 split
 · exact ⟨.inr,fun h=>by rcases h with rfl | h<;>assumption⟩
 · simp [or_comm]
theorem aeX {O:List Nm} (h:O.Nodup) (s:Nm):(fV O s).Nodup:=by
 unfold fV
 split
 · exact h
 · rename_i q
   rw [List.nodup_append]
   exact ⟨h,by simp,fun a bn b ag e=>by rw [List.mem_singleton] at ag;subst ag;subst e;exact q bn⟩
theorem ID (s x:Nm):∀R:List Nm,x ∈ nI R s↔x=s∨x ∈ R
 | []=>by simp [nI]
 | y::R=>by
   unfold nI
   by_cases bs:y<s
   · rw [if_pos bs,List.mem_cons,ID s x R,List.mem_cons]
     exact ⟨fun h=>by rcases h with h | h | h<;>simp [h],fun h=>by rcases h with h | h | h<;>simp [h]⟩
   · by_cases bN:y=s
     · subst bN;rw [if_neg bs,if_pos rfl];simp
     · rw [if_neg bs,if_neg bN];simp
theorem NR {a b c:Nm} (h:a<b) (ae:b<c):a<c:=List.lt_trans h ae
theorem NS {a b:Nm} (h:¬a<b) (ae:¬a=b):b<a:=by
 rcases List.le_total b a with q | q
 · exact Classical.byContradiction fun z=>ae (List.le_antisymm (List.not_lt.1 z) q)
 · exact absurd (List.le_antisymm q (List.not_lt.1 h)) ae
theorem QI (s:Nm):∀{R:List Nm},R.Pairwise (· < ·)→(nI R s).Pairwise (· < ·)
 | [],_=>List.pairwise_singleton _ _
 | y::R,h=>by
   obtain ⟨aa,ae⟩:=List.pairwise_cons.1 h
   unfold nI
   by_cases bs:y<s
   · rw [if_pos bs]
     refine List.pairwise_cons.2 ⟨fun z bh=>?_,QI s ae⟩
     rcases (ID s z R).1 bh with rfl | bh
     · exact bs
     · exact aa z bh
   · by_cases bN:y=s
     · rw [if_neg bs,if_pos bN];exact h
     · rw [if_neg bs,if_neg bN]
       refine List.pairwise_cons.2 ⟨fun z bh=>?_,h⟩
       rcases List.mem_cons.1 bh with rfl | bh
       · exact NS bs bN
       · exact NR (NS bs bN) (aa z bh)
structure j7 (O R:List Nm):Prop where
 mem:∀x,x ∈ O↔x ∈ R
 He:O.Nodup
 st:R.Pairwise (· < ·)
theorem j7.one {O R:List Nm} (G:j7 O R) (s:Nm):j7 (fV O s) (nI R s):=
 ⟨fun x=>by rw [Pf,ID,G.mem],aeX G.He s,QI s G.st⟩
mutual
theorem E0:∀(t:aL) (B:List Nm) {O R:List Nm},j7 O R→j7 (t.dh fV B O) (t.dh nI B R)
 | .mk k n a s l,B,O,R,G=>by
   rw [aL.dh,aL.dh]
   split
   · exact G.one s
   · exact Lw k l 0 l B G
theorem Lw (k:Int) (gv:List aL):∀(i:Nat) (l:List aL) (B:List Nm) {O R:List Nm},j7 O R→j7 (e1 fV k gv i l B O) (e1 nI k gv i l B R)
 | _,[],_,O,R,G=>by rw [e1,e1];exact G
 | i,t::l,B,O,R,G=>by
   rw [e1,e1]
   exact Lw k gv (i+1) l B (E0 t _ G)
end
theorem j7.nil:j7 [] []:=⟨fun x=>Iff.rfl,List.nodup_nil,.nil⟩
theorem j7.perm {O R:List Nm} (G:j7 O R):O.Perm R:=by
 refine (List.perm_ext_iff_of_nodup G.He (G.st.imp fun {a b} h e=>?_)).2 G.mem
 subst e
 exact absurd h (List.lt_irrefl _)
theorem j7.le {O R:List Nm} (G:j7 O R):R.Pairwise (·≤·):=G.st.imp fun {a b} h=>List.not_lt.1 fun q=>absurd (NR h q) (List.lt_irrefl _)
mutual
theorem Lr (u:List Nm→Nm→List Nm) (hu:∀O s,(u O s).length≤O.length+1):∀(t:aL) (B O:List Nm),(t.dh u B O).length≤O.length+t.size
 | .mk k n a s l,B,O=>by
   rw [aL.dh,aL.size]
   split
   · have:=hu O s;omega
   · have:=Lx u hu k l 0 l B O;omega
theorem Lx (u:List Nm→Nm→List Nm) (hu:∀O s,(u O s).length≤O.length+1) (k:Int) (gv:List aL):∀(i:Nat) (l:List aL) (B O:List Nm),(e1 u k gv i l B O).length≤O.length+dD l
 | _,[],_,O=>by rw [e1,dD];omega
 | i,t::l,B,O=>by
   rw [e1,dD]
   have:=Lr u hu t (B++hD k gv i) O
   have:=Lx u hu k gv (i+1) l B (t.dh u (B++hD k gv i) O)
   omega
end
theorem aeW (O:List Nm) (s:Nm):(fV O s).length≤O.length+1:=by unfold fV;split<;>simp
end Go.Proofs.YtkehcalakofigaaGreatDoor
namespace Go.Proofs.YtkehcalakofigaaGreatDoor
open Go aS
def Ki:bF:=
 .block 1 (.seq (.aE [al 24 5,da 25 24,er 26 25,bT 27 26,al 7 27])
 (.seq (.block 2 (.seq (.aE [al 37 7,al 38 0,j8 39 38,wi 40 37 39,al 36 40])
 (.cond (.t 36)
 (.exit 0)
 (.seq (.aE [al 42 0,al 43 7,⟨some 44,.jU (.t 42) (.t 43),none,[42,43]⟩,⟨some 45,.call 92 [(.c (.str [9,10,13,32])),(.t 44)],none,[44]⟩,C2 46 45,al 41 46])
 (.cond (.t 41)
 (.aE [al 47 5,da 48 47,er 49 48,bT 50 49,fm 51 50,da 52 47,er 53 52,⟨none,.st 1 (.t 53) (.t 51),none,[53,51]⟩])
 (.seq (.aE [al 55 5,⟨some 56,.call 93 [(.t 55),(.c (.str [40,42]))],none,[55]⟩,al 54 56])
 (.cond (.t 54)
 (.aE [al 57 5,⟨some 58,.call 94 [(.t 57)],none,[57]⟩])
 (.seq (.aE [al 28 5,⟨some 29,.call 95 [(.t 28)],none,[28]⟩,wj 8,⟨none,.st 4 (.t 8) (.t 29),none,[8,29]⟩])
 (.seq (.aE [al 30 7,lq 31 8,⟨none,.st 1 (.t 31) (.t 30),none,[31,30]⟩])
 (.aE [al 32 6,⟨some 33,.im 4 (.t 8),none,[8]⟩,⟨some 34,.iC 1 4 [(.int .i64 0),(.int .i64 0),(.int .i64 0),(.str [])] [(0,4,(.t 33))],none,[33]⟩,⟨some 35,.app 4 (.t 32) (.t 34),none,[32,34]⟩,al 6 35]))))))))))
 (.seq (.aE [al 59 5,da 60 59,lq 61 60,bT 62 61,⟨some 63,.bin (.int .neq) (.t 62) (.c (.int .i64 0)),none,[62]⟩])
 (.cond (.t 63)
 (.seq (.draw [al 64 5,da 65 64,lq 66 65,bT 67 66,al 68 7,⟨some 69,.build [(.int .i64 0),(.int .i64 0)] [(0,1,(.t 67)),(1,1,(.t 68))],none,[67,68]⟩,kI 2,⟨none,.st 2 (.t 3) (.t 69),none,[3,69]⟩] [(3,[7])])
 (.ret))
 (.skip)))))
def Ef:bF:=
 .seq (.aE [kI 2,⟨some 3,.new [(.int .i64 0),(.int .i64 0)],none,[]⟩])
 (.seq (.seq (.aE [al 9 0,j8 10 9,⟨some 11,.bin (.int .gtr) (.t 10) (.c (.int .i64 65536)),none,[10]⟩])
 (.cond (.t 11)
 (.seq (.aE [⟨some 12,.build [(.int .i64 0),(.int .i64 0)] [(0,1,(.c (.int .i64 3)))],none,[]⟩,kI 2,⟨none,.st 2 (.t 3) (.t 12),none,[3,12]⟩])
 (.ret))
 (.skip)))
 (.seq (.seq (.aE [al 13 0,⟨some 14,.call 91 [(.t 13)],none,[13]⟩,al 4 14])
 (.seq (.aE [al 15 4,al 16 0,j8 17 16,gJ 18 15 17])
 (.cond (.t 18)
 (.seq (.aE [al 19 4,⟨some 20,.build [(.int .i64 0),(.int .i64 0)] [(0,1,(.c (.int .i64 250))),(1,1,(.t 19))],none,[19]⟩,kI 2,⟨none,.st 2 (.t 3) (.t 20),none,[3,20]⟩])
 (.ret))
 (.skip))))
 (.seq (.aE [al 21 0,⟨some 22,.build [(.str []),(.int .i64 0),(.int .i64 0)] [(0,1,(.t 21))],none,[21]⟩,hk 23 22,al 5 23])
 (.seq (.aE [kI 6])
 (.seq (.skip)
 (.seq (.block 0 (.loop Ki))
 (.seq (.aE [al 70 6,⟨some 71,.build [(.int .i64 0),(.int .i64 0)] [],none,[]⟩,al 2 70,⟨none,.st 2 (.t 3) (.t 71),none,[3,71]⟩])
 (.ret))))))))
theorem UZ:cu Tryz.prog Tryz.f72.ntmps (Tryz.f72.body.getD .skip)=Ef:=by kernel_rfl
theorem U0:c' Tryz.prog Tryz.f72.ntmps Tryz.f72.results.toList=[.t 2,.kP 3 2]:=by kernel_rfl
theorem UY {args:List V} {h:af} {K:V→af→Prop} (ai:Nat.ble args.length 72=true) (H:cr Tryz.prog Ef (aT.bq args) h fun e r ab=>e.ends∧∃ad,cX r ab [.t 2,.kP 3 2]=some ad∧K (oneOf ad) ab):bM Tryz.prog 72 args h K:=
 dO follows dq Tryz.func72 (c:=Tryz.f72.body.getD .skip) (by kernel_rfl) (by kernel_rfl) (by kernel_rfl) ai UZ U0 (by kernel_rfl) H
def Kl:bF:=
 .seq (.aE [⟨some 9,.vq (.t 8),none,[8]⟩,rO 10 9])
 (.seq (.cond (.t 10)
 (.skip)
 (.exit 0))
 (.block 1 (.seq (.aE [rP 11 9,⟨some 12,.ext (.t 9) 2,none,[9]⟩,al 3 11,al 4 12])
 (.seq (.aE [al 13 4,⟨some 14,.bin (.int .eql) (.t 13) (.c (.int .i32 65533)),none,[13]⟩])
 (.cond (.t 14)
 (.seq (.aE [al 16 0,al 17 3,C3 18 16 17,⟨some 19,.call 102 [(.t 18)],none,[18]⟩,al 15 19,rO 20 15,rP 21 15,al 5 20,al 6 21])
 (.seq (.aE [al 22 6,CZ 23 22])
 (.cond (.t 23)
 (.seq (.aE [al 24 3,al 2 24])
 (.ret))
 (.skip))))
 (.skip))))))
def Ei:bF:=
 .seq (.aE [e_ 2])
 (.seq (.seq (.aE [al 7 0,⟨some 8,.vB (.t 7),none,[7]⟩])
 (.block 0 (.loop Kl)))
 (.seq (.aE [al 25 0,j8 26 25,al 2 26])
 (.ret)))
theorem Vc:cu Tryz.prog Tryz.f91.ntmps (Tryz.f91.body.getD .skip)=Ei:=by kernel_rfl
theorem Vd:c' Tryz.prog Tryz.f91.ntmps Tryz.f91.results.toList=[.t 2]:=by kernel_rfl
theorem Vb {args:List V} {h:af} {K:V→af→Prop} (ai:Nat.ble args.length 27=true) (H:cr Tryz.prog Ei (aT.bq args) h fun e r ab=>e.ends∧∃ad,cX r ab [.t 2]=some ad∧K (oneOf ad) ab):bM Tryz.prog 91 args h K:=
 dO follows dq Tryz.func91 (c:=Tryz.f91.body.getD .skip) (by kernel_rfl) (by kernel_rfl) (by kernel_rfl) ai Vc Vd (by kernel_rfl) H
def Ej:bF:=
 .seq (.aE [e_ 4])
 (.seq (.aE [al 5 0,al 6 1,⟨some 7,.call 103 [(.t 5),(.t 6)],none,[5,6]⟩,al 4 7])
 (.ret))
theorem Vf:cu Tryz.prog Tryz.f92.ntmps (Tryz.f92.body.getD .skip)=Ej:=by kernel_rfl
theorem Vg:c' Tryz.prog Tryz.f92.ntmps Tryz.f92.results.toList=[.t 4]:=by kernel_rfl
theorem Ve {args:List V} {h:af} {K:V→af→Prop} (ai:Nat.ble args.length 8=true) (H:cr Tryz.prog Ej (aT.bq args) h fun e r ab=>e.ends∧∃ad,cX r ab [.t 4]=some ad∧K (oneOf ad) ab):bM Tryz.prog 92 args h K:=
 dO follows dq Tryz.func92 (c:=Tryz.f92.body.getD .skip) (by kernel_rfl) (by kernel_rfl) (by kernel_rfl) ai Vf Vg (by kernel_rfl) H
def Ek:bF:=
 .seq (.aE [ei 4])
 (.seq (.draw [al 5 0,da 6 5,gm 7 6,bT 8 7,al 9 0,da 10 9,er 11 10,bT 12 11,C3 13 8 12,al 14 1,⟨some 15,.call 104 [(.t 13),(.t 14)],none,[13,14]⟩,al 4 15] [(3,[10]),(7,[10])])
 (.ret))
theorem Vi:cu Tryz.prog Tryz.f93.ntmps (Tryz.f93.body.getD .skip)=Ek:=by kernel_rfl
theorem Vj:c' Tryz.prog Tryz.f93.ntmps Tryz.f93.results.toList=[.t 4]:=by kernel_rfl
theorem Vh {args:List V} {h:af} {K:V→af→Prop} (ai:Nat.ble args.length 16=true) (H:cr Tryz.prog Ek (aT.bq args) h fun e r ab=>e.ends∧∃ad,cX r ab [.t 4]=some ad∧K (oneOf ad) ab):bM Tryz.prog 93 args h K:=
 dO follows dq Tryz.func93 (c:=Tryz.f93.body.getD .skip) (by kernel_rfl) (by kernel_rfl) (by kernel_rfl) ai Vi Vj (by kernel_rfl) H
def Km:bF:=
 .block 1 (.block 2 (.seq (.draw [al 11 0,da 12 11,er 13 12,bT 14 13,al 15 0,da 16 15,gm 17 16,bT 18 17,j8 19 18,wi 20 14 19,al 10 20] [])
 (.cond (.t 10)
 (.seq (.aE [al 21 0,da 22 21,lq 23 22,⟨none,.st 1 (.t 23) (.c (.int .i64 253)),none,[23]⟩])
 (.ret))
 (.seq (.aE [al 25 0,⟨some 26,.call 93 [(.t 25),(.c (.str [40,42]))],none,[25]⟩,al 24 26])
 (.cond (.t 24)
 (.seq (.aE [al 27 2,fm 28 27,al 2 28])
 (.aE [al 29 0,da 30 29,er 31 30,bT 32 31,⟨some 33,.bin (.int .add) (.t 32) (.c (.int .i64 2)),none,[32]⟩,da 34 29,er 35 34,⟨none,.st 1 (.t 35) (.t 33),none,[35,33]⟩]))
 (.seq (.aE [al 37 0,⟨some 38,.call 93 [(.t 37),(.c (.str [42,41]))],none,[37]⟩,al 36 38])
 (.cond (.t 36)
 (.seq (.aE [al 39 2,⟨some 40,.bin (.int .sub) (.t 39) (.c (.int .i64 1)),none,[39]⟩,al 2 40])
 (.seq (.aE [al 41 0,da 42 41,er 43 42,bT 44 43,⟨some 45,.bin (.int .add) (.t 44) (.c (.int .i64 2)),none,[44]⟩,da 46 41,er 47 46,⟨none,.st 1 (.t 47) (.t 45),none,[47,45]⟩])
 (.seq (.aE [al 48 2,zi 49 48])
 (.cond (.t 49)
 (.ret)
 (.skip)))))
 (.aE [al 3 0,da 4 3,er 5 4,bT 6 5,fm 7 6,da 8 3,er 9 8,⟨none,.st 1 (.t 9) (.t 7),none,[9,7]⟩]))))))))
def El:bF:=
 .seq (.aE [e_ 2])
 (.block 0 (.loop Km))
theorem Vl:cu Tryz.prog Tryz.f94.ntmps (Tryz.f94.body.getD .skip)=El:=by kernel_rfl
theorem Vm:c' Tryz.prog Tryz.f94.ntmps Tryz.f94.results.toList=[]:=by kernel_rfl
theorem Vk {args:List V} {h:af} {K:V→af→Prop} (ai:Nat.ble args.length 50=true) (H:cr Tryz.prog El (aT.bq args) h fun e r ab=>e.ends∧∃ad,cX r ab []=some ad∧K (oneOf ad) ab):bM Tryz.prog 94 args h K:=
 dO follows dq Tryz.func94 (c:=Tryz.f94.body.getD .skip) (by kernel_rfl) (by kernel_rfl) (by kernel_rfl) ai Vl Vm (by kernel_rfl) H
def Kn:bF:=
 .seq (.aE [gJ 80 79 78])
 (.seq (.cond (.t 80)
 (.skip)
 (.exit 1))
 (.seq (.block 2 (.seq (.aE [mM 81 77 79,bT 82 81,al 5 82])
 (.seq (.aE [al 83 0,al 84 5,⟨some 85,.call 93 [(.t 83),(.t 84)],none,[83,84]⟩])
 (.cond (.t 85)
 (.seq (.aE [al 86 0,da 87 86,er 88 87,bT 89 88,al 90 5,j8 91 90,tG 92 89 91,da 93 86,er 94 93,⟨none,.st 1 (.t 94) (.t 92),none,[94,92]⟩])
 (.seq (.aE [al 95 5,Jb 96 95,⟨none,.st 4 (.t 2) (.t 96),none,[2,96]⟩])
 (.ret)))
 (.skip)))))
 (.aE [fm 97 79,al 79 97])))
def Em:bF:=
 .seq (.aE [wj 2])
 (.seq (.draw [al 6 0,da 7 6,gm 8 7,bT 9 8,al 10 0,da 11 10,er 12 11,bT 13 12,⟨some 14,.jU (.t 9) (.t 13),none,[9,13]⟩,al 3 14] [])
 (.seq (.block 0 (.seq (.aE [al 16 3,⟨some 17,.call 105 [(.t 16)],none,[16]⟩,al 15 17])
 (.cond (.t 15)
 (.seq (.aE [al 18 0,⟨some 19,.call 106 [(.t 18)],none,[18]⟩,⟨none,.st 4 (.t 2) (.t 19),none,[2,19]⟩])
 (.ret))
 (.seq (.aE [al 21 3,⟨some 22,.bin (.int .eql) (.t 21) (.c (.int .u8 34)),none,[21]⟩,al 20 22])
 (.cond (.t 20)
 (.seq (.aE [al 23 0,⟨some 24,.call 107 [(.t 23)],none,[23]⟩,⟨none,.st 4 (.t 2) (.t 24),none,[2,24]⟩])
 (.ret))
 (.seq (.aE [al 26 3,⟨some 27,.call 108 [(.t 26)],none,[26]⟩,al 28 27,iz 29 3 28,⟨some 30,.bin (.int .eql) (.t 29) (.c (.int .u8 95)),(some (28,false)),[29,28]⟩,hj 31 28 30,al 25 31])
 (.cond (.t 25)
 (.seq (.aE [al 32 0,⟨some 33,.call 109 [(.t 32),(.c (.int .i64 3))],none,[32]⟩,⟨none,.st 4 (.t 2) (.t 33),none,[2,33]⟩])
 (.ret))
 (.seq (.aE [al 35 3,⟨some 36,.call 110 [(.t 35)],none,[35]⟩,al 34 36])
 (.cond (.t 34)
 (.seq (.aE [al 37 0,⟨some 38,.call 109 [(.t 37),(.c (.int .i64 4))],none,[37]⟩,⟨none,.st 4 (.t 2) (.t 38),none,[2,38]⟩])
 (.ret))
 (.seq (.draw [al 40 3,⟨some 41,.bin (.int .eql) (.t 40) (.c (.int .u8 39)),none,[40]⟩,al 42 41,dT 43 0 42,tH 44 43 42,rN 45 44 42,gX 46 45 42,CV 47 46 42,dT 48 0 42,tH 49 48 42,zk 50 49 42,gX 51 50 42,⟨some 52,.len .str (.t 51),(some (42,true)),[51,42]⟩,⟨some 53,.bin (.int .lss) (.t 47) (.t 52),(some (42,true)),[47,52,42]⟩,dy 54 42 53,al 55 54,dT 56 0 55,tH 57 56 55,zk 58 57 55,gX 59 58 55,dT 60 0 55,tH 61 60 55,rN 62 61 55,gX 63 62 55,CV 64 63 55,⟨some 65,.jU (.t 59) (.t 64),(some (55,true)),[59,64,55]⟩,⟨some 66,.call 108 [(.t 65)],(some (55,true)),[65,55]⟩,dy 67 55 66,al 39 67] [(6,[26]),(11,[26]),(19,[26]),(23,[26])])
 (.cond (.t 39)
 (.seq (.aE [al 68 0,da 69 68,er 70 69,bT 71 70,fm 72 71,da 73 68,er 74 73,⟨none,.st 1 (.t 74) (.t 72),none,[74,72]⟩])
 (.seq (.aE [al 75 0,⟨some 76,.call 109 [(.t 75),(.c (.int .i64 5))],none,[75]⟩,⟨none,.st 4 (.t 2) (.t 76),none,[2,76]⟩])
 (.ret)))
 (.skip))))))))))))
 (.seq (.seq (.aE [⟨some 77,.call 111 [],none,[]⟩,eI 78 77,e_ 79])
 (.block 1 (.loop Kn)))
 (.seq (.aE [al 98 0,da 99 98,lq 100 99,⟨none,.st 1 (.t 100) (.c (.int .i64 251)),none,[100]⟩])
 (.seq (.aE [C4 101,⟨none,.st 4 (.t 2) (.t 101),none,[2,101]⟩])
 (.ret))))))
theorem Vo:cu Tryz.prog Tryz.f95.ntmps (Tryz.f95.body.getD .skip)=Em:=by kernel_rfl
theorem Vp:c' Tryz.prog Tryz.f95.ntmps Tryz.f95.results.toList=[.kP 2 4]:=by kernel_rfl
theorem Vn {args:List V} {h:af} {K:V→af→Prop} (ai:Nat.ble args.length 102=true) (H:cr Tryz.prog Em (aT.bq args) h fun e r ab=>e.ends∧∃ad,cX r ab [.kP 2 4]=some ad∧K (oneOf ad) ab):bM Tryz.prog 95 args h K:=
 dO follows dq Tryz.func95 (c:=Tryz.f95.body.getD .skip) (by kernel_rfl) (by kernel_rfl) (by kernel_rfl) ai Vo Vp (by kernel_rfl) H
def DD:bF:=
 .seq (.aE [e_ 4])
 (.seq (.aE [al 5 0,al 6 1,⟨some 7,.call 114 [(.t 5),(.t 6)],none,[5,6]⟩,al 4 7])
 (.ret))
theorem S':cu Tryz.prog Tryz.f103.ntmps (Tryz.f103.body.getD .skip)=DD:=by kernel_rfl
theorem S_:c' Tryz.prog Tryz.f103.ntmps Tryz.f103.results.toList=[.t 4]:=by kernel_rfl
theorem S9 {args:List V} {h:af} {K:V→af→Prop} (ai:Nat.ble args.length 8=true) (H:cr Tryz.prog DD (aT.bq args) h fun e r ab=>e.ends∧∃ad,cX r ab [.t 4]=some ad∧K (oneOf ad) ab):bM Tryz.prog 103 args h K:=
 dO follows dq Tryz.func103 (c:=Tryz.f103.body.getD .skip) (by kernel_rfl) (by kernel_rfl) (by kernel_rfl) ai S' S_ (by kernel_rfl) H
def DE:bF:=
 .seq (.aE [ei 4])
 (.seq (.aE [al 5 0,al 6 1,⟨some 7,.call 115 [(.t 5),(.t 6)],none,[5,6]⟩,al 4 7])
 (.ret))
theorem Tb:cu Tryz.prog Tryz.f104.ntmps (Tryz.f104.body.getD .skip)=DE:=by kernel_rfl
theorem Tc:c' Tryz.prog Tryz.f104.ntmps Tryz.f104.results.toList=[.t 4]:=by kernel_rfl
theorem Ta {args:List V} {h:af} {K:V→af→Prop} (ai:Nat.ble args.length 8=true) (H:cr Tryz.prog DE (aT.bq args) h fun e r ab=>e.ends∧∃ad,cX r ab [.t 4]=some ad∧K (oneOf ad) ab):bM Tryz.prog 104 args h K:=
 dO follows dq Tryz.func104 (c:=Tryz.f104.body.getD .skip) (by kernel_rfl) (by kernel_rfl) (by kernel_rfl) ai Tb Tc (by kernel_rfl) H
def DF:bF:=
 .seq (.aE [ei 2])
 (.seq (.aE [al 3 0,⟨some 4,.bin (.int .geq) (.t 3) (.c (.int .u8 48)),none,[3]⟩,al 5 4,dT 6 0 5,⟨some 7,.bin (.int .leq) (.t 6) (.c (.int .u8 57)),(some (5,true)),[6,5]⟩,dy 8 5 7,al 2 8])
 (.ret))
theorem Te:cu Tryz.prog Tryz.f105.ntmps (Tryz.f105.body.getD .skip)=DF:=by kernel_rfl
theorem Tf:c' Tryz.prog Tryz.f105.ntmps Tryz.f105.results.toList=[.t 2]:=by kernel_rfl
theorem Td {args:List V} {h:af} {K:V→af→Prop} (ai:Nat.ble args.length 9=true) (H:cr Tryz.prog DF (aT.bq args) h fun e r ab=>e.ends∧∃ad,cX r ab [.t 2]=some ad∧K (oneOf ad) ab):bM Tryz.prog 105 args h K:=
 dO follows dq Tryz.func105 (c:=Tryz.f105.body.getD .skip) (by kernel_rfl) (by kernel_rfl) (by kernel_rfl) ai Te Tf (by kernel_rfl) H
def DG:bF:=
 .seq (.aE [wj 2])
 (.seq (.aE [al 7 0,⟨some 8,.call 117 [(.t 7),(.c (.func 105 []))],none,[7]⟩,⟨some 9,.call 116 [(.t 8),(.c (.int .i64 10)),(.c (.int .i64 64))],none,[8]⟩,al 6 9,rO 10 6,rP 11 6,al 3 10,al 4 11])
 (.seq (.seq (.aE [al 12 4,⟨some 13,.bin (.jc true 5) (.t 12) (.c .nilIface),none,[12]⟩,al 14 13,iz 15 3 14,⟨some 16,.bin (.int .gtr) (.t 15) (.c (.int .u64 2147483647)),(some (14,false)),[15,14]⟩,hj 17 14 16])
 (.cond (.t 17)
 (.seq (.aE [al 18 0,da 19 18,lq 20 19,⟨none,.st 1 (.t 20) (.c (.int .i64 254)),none,[20]⟩])
 (.seq (.aE [C4 21,⟨none,.st 4 (.t 2) (.t 21),none,[2,21]⟩])
 (.ret)))
 (.skip)))
 (.seq (.aE [al 22 3,⟨some 23,.ho (.int .i64) (.t 22),none,[22]⟩,al 5 23])
 (.seq (.seq (.aE [al 24 5,⟨some 25,.bin (.int .gtr) (.t 24) (.c (.int .i64 1073741823)),none,[24]⟩])
 (.cond (.t 25)
 (.aE [al 26 5,⟨some 27,.bin (.int .sub) (.t 26) (.c (.int .i64 2147483648)),none,[26]⟩,al 5 27])
 (.skip)))
 (.seq (.aE [al 28 5,⟨some 29,.build [(.int .i64 0),(.int .i64 0),(.int .i64 0),(.str [])] [(0,1,(.c (.int .i64 1))),(1,1,(.t 28))],none,[28]⟩,⟨none,.st 4 (.t 2) (.t 29),none,[2,29]⟩])
 (.ret))))))
theorem Th:cu Tryz.prog Tryz.f106.ntmps (Tryz.f106.body.getD .skip)=DG:=by kernel_rfl
theorem Ti:c' Tryz.prog Tryz.f106.ntmps Tryz.f106.results.toList=[.kP 2 4]:=by kernel_rfl
theorem Tg {args:List V} {h:af} {K:V→af→Prop} (ai:Nat.ble args.length 30=true) (H:cr Tryz.prog DG (aT.bq args) h fun e r ab=>e.ends∧∃ad,cX r ab [.kP 2 4]=some ad∧K (oneOf ad) ab):bM Tryz.prog 106 args h K:=
 dO follows dq Tryz.func106 (c:=Tryz.f106.body.getD .skip) (by kernel_rfl) (by kernel_rfl) (by kernel_rfl) ai Th Ti (by kernel_rfl) H
def J4:bF:=
 .seq (.seq (.aE [al 12 0,da 13 12,lq 14 13,bT 15 14,zi 16 15])
 (.cond (.t 16)
 (.skip)
 (.exit 0)))
 (.block 1 (.seq (.seq (.draw [al 17 0,da 18 17,er 19 18,bT 20 19,al 21 0,da 22 21,gm 23 22,bT 24 23,j8 25 24,wi 26 20 25] [])
 (.cond (.t 26)
 (.seq (.aE [al 27 0,da 28 27,lq 29 28,⟨none,.st 1 (.t 29) (.c (.int .i64 252)),none,[29]⟩])
 (.exit 0))
 (.skip)))
 (.seq (.draw [al 30 0,da 31 30,gm 32 31,bT 33 32,al 34 0,da 35 34,er 36 35,bT 37 36,⟨some 38,.jU (.t 33) (.t 37),none,[33,37]⟩,al 4 38] [])
 (.block 2 (.seq (.aE [al 51 4,⟨some 52,.bin (.int .eql) (.t 51) (.c (.int .u8 34)),none,[51]⟩,al 50 52])
 (.cond (.t 50)
 (.seq (.aE [al 53 0,da 54 53,er 55 54,bT 56 55,fm 57 56,da 58 53,er 59 58,⟨none,.st 1 (.t 59) (.t 57),none,[59,57]⟩])
 (.seq (.seq (.aE [al 60 3,eI 61 60,⟨some 62,.bin (.int .gtr) (.t 61) (.c (.int .i64 4096)),none,[61]⟩])
 (.cond (.t 62)
 (.aE [al 63 0,da 64 63,lq 65 64,⟨none,.st 1 (.t 65) (.c (.int .i64 255)),none,[65]⟩])
 (.skip)))
 (.seq (.aE [al 66 3,⟨some 67,.ho .str (.t 66),none,[66]⟩,⟨some 68,.build [(.int .i64 0),(.int .i64 0),(.int .i64 0),(.str [])] [(0,1,(.c (.int .i64 2))),(3,1,(.t 67))],none,[67]⟩,⟨none,.st 4 (.t 2) (.t 68),none,[2,68]⟩])
 (.ret))))
 (.seq (.aE [al 70 4,⟨some 71,.bin (.int .eql) (.t 70) (.c (.int .u8 92)),none,[70]⟩,al 69 71])
 (.cond (.t 69)
 (.aE [al 72 3,al 73 0,⟨some 74,.call 118 [(.t 73)],none,[73]⟩,⟨some 75,.iC 1 1 [(.int .u8 0)] [(0,1,(.t 74))],none,[74]⟩,zg 76 72 75,al 3 76])
 (.seq (.aE [al 78 4,⟨some 79,.bin (.int .lss) (.t 78) (.c (.int .u8 32)),none,[78]⟩,al 80 79,iz 81 4 80,⟨some 82,.bin (.int .eql) (.t 81) (.c (.int .u8 127)),(some (80,false)),[81,80]⟩,hj 83 80 82,al 77 83])
 (.cond (.t 77)
 (.aE [al 84 0,da 85 84,lq 86 85,⟨none,.st 1 (.t 86) (.c (.int .i64 252)),none,[86]⟩])
 (.seq (.aE [al 39 0,da 40 39,er 41 40,bT 42 41,fm 43 42,da 44 39,er 45 44,⟨none,.st 1 (.t 45) (.t 43),none,[45,43]⟩])
 (.aE [al 46 3,al 47 4,⟨some 48,.iC 1 1 [(.int .u8 0)] [(0,1,(.t 47))],none,[47]⟩,zg 49 46 48,al 3 49]))))))))))))
def DH:bF:=
 .seq (.aE [wj 2])
 (.seq (.aE [al 5 0,da 6 5,er 7 6,bT 8 7,fm 9 8,da 10 5,er 11 10,⟨none,.st 1 (.t 11) (.t 9),none,[11,9]⟩])
 (.seq (.aE [kI 3])
 (.seq (.block 0 (.loop J4))
 (.seq (.aE [C4 87,⟨none,.st 4 (.t 2) (.t 87),none,[2,87]⟩])
 (.ret)))))
theorem Tk:cu Tryz.prog Tryz.f107.ntmps (Tryz.f107.body.getD .skip)=DH:=by kernel_rfl
theorem Tl:c' Tryz.prog Tryz.f107.ntmps Tryz.f107.results.toList=[.kP 2 4]:=by kernel_rfl
theorem Tj {args:List V} {h:af} {K:V→af→Prop} (ai:Nat.ble args.length 88=true) (H:cr Tryz.prog DH (aT.bq args) h fun e r ab=>e.ends∧∃ad,cX r ab [.kP 2 4]=some ad∧K (oneOf ad) ab):bM Tryz.prog 107 args h K:=
 dO follows dq Tryz.func107 (c:=Tryz.f107.body.getD .skip) (by kernel_rfl) (by kernel_rfl) (by kernel_rfl) ai Tk Tl (by kernel_rfl) H
def DI:bF:=
 .seq (.aE [ei 2])
 (.seq (.aE [al 3 0,⟨some 4,.bin (.int .geq) (.t 3) (.c (.int .u8 97)),none,[3]⟩,al 5 4,dT 6 0 5,⟨some 7,.bin (.int .leq) (.t 6) (.c (.int .u8 122)),(some (5,true)),[6,5]⟩,dy 8 5 7,al 2 8])
 (.ret))
theorem Tn:cu Tryz.prog Tryz.f108.ntmps (Tryz.f108.body.getD .skip)=DI:=by kernel_rfl
theorem To:c' Tryz.prog Tryz.f108.ntmps Tryz.f108.results.toList=[.t 2]:=by kernel_rfl
theorem Tm {args:List V} {h:af} {K:V→af→Prop} (ai:Nat.ble args.length 9=true) (H:cr Tryz.prog DI (aT.bq args) h fun e r ab=>e.ends∧∃ad,cX r ab [.t 2]=some ad∧K (oneOf ad) ab):bM Tryz.prog 108 args h K:=
 dO follows dq Tryz.func108 (c:=Tryz.f108.body.getD .skip) (by kernel_rfl) (by kernel_rfl) (by kernel_rfl) ai Tn To (by kernel_rfl) H
def DJ:bF:=
 .seq (.aE [wj 4])
 (.seq (.aE [al 6 0,⟨some 7,.call 117 [(.t 6),(.c (.func 119 []))],none,[6]⟩,al 5 7])
 (.seq (.block 0 (.seq (.aE [al 9 1,C0 10 9,al 11 10,dT 12 5 11,⟨some 13,.bin (.str .eql) (.t 12) (.c (.str [95])),(some (11,true)),[12,11]⟩,dy 14 11 13,al 8 14])
 (.cond (.t 8)
 (.seq (.aE [al 15 5,Jb 16 15,⟨none,.st 4 (.t 4) (.t 16),none,[4,16]⟩])
 (.ret))
 (.seq (.aE [al 18 1,C0 19 18,al 20 19,dT 21 5 20,⟨some 22,.bin (.str .add) (.c (.str [32])) (.t 21),(some (20,true)),[21,20]⟩,⟨some 23,.bin (.str .add) (.t 22) (.c (.str [32])),(some (20,true)),[22,20]⟩,⟨some 24,.call 120 [(.c (.str [32,97,110,100,32,98,101,103,105,110,32,101,108,115,101,32,101,110,100,32,101,120,99,101,112,116,105,111,110,32,102,97,108,115,101,32,102,117,110,32,105,102,32,105,110,32,108,101,116,32,109,97,116,99,104,32,109,111,100,32,111,102,32,114,97,105,115,101,32,114,101,99,32,116,104,101,110,32,116,114,117,101,32,116,114,121,32,116,121,112,101,32,119,105,116,104,32])),(.t 23)],(some (20,true)),[23,20]⟩,dy 25 20 24,al 17 25])
 (.cond (.t 17)
 (.seq (.aE [al 26 5,⟨some 27,.build [(.int .i64 0),(.int .i64 0),(.int .i64 0),(.str [])] [(0,1,(.c (.int .i64 6))),(3,1,(.t 26))],none,[26]⟩,⟨none,.st 4 (.t 4) (.t 27),none,[4,27]⟩])
 (.ret))
 (.seq (.aE [al 29 5,j8 30 29,⟨some 31,.bin (.int .gtr) (.t 30) (.c (.int .i64 64)),none,[30]⟩,al 28 31])
 (.cond (.t 28)
 (.aE [al 32 0,da 33 32,lq 34 33,⟨none,.st 1 (.t 34) (.c (.int .i64 255)),none,[34]⟩])
 (.skip))))))))
 (.seq (.aE [al 35 1,al 36 5,⟨some 37,.build [(.int .i64 0),(.int .i64 0),(.int .i64 0),(.str [])] [(0,1,(.t 35)),(3,1,(.t 36))],none,[35,36]⟩,⟨none,.st 4 (.t 4) (.t 37),none,[4,37]⟩])
 (.ret))))
theorem Tq:cu Tryz.prog Tryz.f109.ntmps (Tryz.f109.body.getD .skip)=DJ:=by kernel_rfl
theorem Tr:c' Tryz.prog Tryz.f109.ntmps Tryz.f109.results.toList=[.kP 4 4]:=by kernel_rfl
theorem Tp {args:List V} {h:af} {K:V→af→Prop} (ai:Nat.ble args.length 38=true) (H:cr Tryz.prog DJ (aT.bq args) h fun e r ab=>e.ends∧∃ad,cX r ab [.kP 4 4]=some ad∧K (oneOf ad) ab):bM Tryz.prog 109 args h K:=
 dO follows dq Tryz.func109 (c:=Tryz.f109.body.getD .skip) (by kernel_rfl) (by kernel_rfl) (by kernel_rfl) ai Tq Tr (by kernel_rfl) H
def DL:bF:=
 .seq (.aE [ei 2])
 (.seq (.aE [al 3 0,⟨some 4,.bin (.int .geq) (.t 3) (.c (.int .u8 65)),none,[3]⟩,al 5 4,dT 6 0 5,⟨some 7,.bin (.int .leq) (.t 6) (.c (.int .u8 90)),(some (5,true)),[6,5]⟩,dy 8 5 7,al 2 8])
 (.ret))
theorem Tt:cu Tryz.prog Tryz.f110.ntmps (Tryz.f110.body.getD .skip)=DL:=by kernel_rfl
theorem Tu:c' Tryz.prog Tryz.f110.ntmps Tryz.f110.results.toList=[.t 2]:=by kernel_rfl
theorem Ts {args:List V} {h:af} {K:V→af→Prop} (ai:Nat.ble args.length 9=true) (H:cr Tryz.prog DL (aT.bq args) h fun e r ab=>e.ends∧∃ad,cX r ab [.t 2]=some ad∧K (oneOf ad) ab):bM Tryz.prog 110 args h K:=
 dO follows dq Tryz.func110 (c:=Tryz.f110.body.getD .skip) (by kernel_rfl) (by kernel_rfl) (by kernel_rfl) ai Tt Tu (by kernel_rfl) H
def DM:bF:=
 .seq (.aE [kI 0])
 (.seq (.aE [⟨some 1,.iC 17 1 [(.str [])] [(0,1,(.c (.str [59,59]))),(1,1,(.c (.str [58,61]))),(2,1,(.c (.str [45,62]))),(3,1,(.c (.str [60,61]))),(4,1,(.c (.str [59]))),(5,1,(.c (.str [40]))),(6,1,(.c (.str [41]))),(7,1,(.c (.str [44]))),(8,1,(.c (.str [61]))),(9,1,(.c (.str [60]))),(10,1,(.c (.str [43]))),(11,1,(.c (.str [45]))),(12,1,(.c (.str [42]))),(13,1,(.c (.str [47]))),(14,1,(.c (.str [124]))),(15,1,(.c (.str [33]))),(16,1,(.c (.str [95])))],none,[]⟩,al 0 1])
 (.ret))
theorem Tw:cu Tryz.prog Tryz.f111.ntmps (Tryz.f111.body.getD .skip)=DM:=by kernel_rfl
theorem Tx:c' Tryz.prog Tryz.f111.ntmps Tryz.f111.results.toList=[.t 0]:=by kernel_rfl
theorem Tv {args:List V} {h:af} {K:V→af→Prop} (ai:Nat.ble args.length 2=true) (H:cr Tryz.prog DM (aT.bq args) h fun e r ab=>e.ends∧∃ad,cX r ab [.t 0]=some ad∧K (oneOf ad) ab):bM Tryz.prog 111 args h K:=
 dO follows dq Tryz.func111 (c:=Tryz.f111.body.getD .skip) (by kernel_rfl) (by kernel_rfl) (by kernel_rfl) ai Tw Tx (by kernel_rfl) H
def DN:bF:=
 .seq (.aE [ei 4])
 (.seq (.aE [al 5 0,j8 6 5,al 7 1,j8 8 7,wi 9 6 8,al 10 9,dT 11 0 10,dT 12 1 10,⟨some 13,.len .str (.t 12),(some (10,true)),[12,10]⟩,⟨some 14,.oM (.t 11) none (some (.t 13)) none,(some (10,true)),[11,13,10]⟩,dT 15 1 10,CY 16 14 15 10,dy 17 10 16,al 4 17])
 (.ret))
theorem Tz:cu Tryz.prog Tryz.f115.ntmps (Tryz.f115.body.getD .skip)=DN:=by kernel_rfl
theorem TA:c' Tryz.prog Tryz.f115.ntmps Tryz.f115.results.toList=[.t 4]:=by kernel_rfl
theorem Ty {args:List V} {h:af} {K:V→af→Prop} (ai:Nat.ble args.length 18=true) (H:cr Tryz.prog DN (aT.bq args) h fun e r ab=>e.ends∧∃ad,cX r ab [.t 4]=some ad∧K (oneOf ad) ab):bM Tryz.prog 115 args h K:=
 dO follows dq Tryz.func115 (c:=Tryz.f115.body.getD .skip) (by kernel_rfl) (by kernel_rfl) (by kernel_rfl) ai Tz TA (by kernel_rfl) H
def J5:bF:=
 .seq (.seq (.draw [al 10 0,da 11 10,er 12 11,bT 13 12,al 14 0,da 15 14,gm 16 15,bT 17 16,j8 18 17,gJ 19 13 18,al 20 19,dT 21 1 20,dT 22 0 20,tH 23 22 20,zk 24 23 20,gX 25 24 20,dT 26 0 20,tH 27 26 20,rN 28 27 20,gX 29 28 20,⟨some 30,.jU (.t 25) (.t 29),(some (20,true)),[25,29,20]⟩,⟨some 31,.kO (.t 21) [(.t 30)],(some (20,true)),[21,30,20]⟩,dy 32 20 31] [(3,[21]),(7,[21]),(15,[21]),(19,[21])])
 (.cond (.t 32)
 (.skip)
 (.exit 0)))
 (.block 1 (.aE [al 33 0,da 34 33,er 35 34,bT 36 35,fm 37 36,da 38 33,er 39 38,⟨none,.st 1 (.t 39) (.t 37),none,[39,37]⟩]))
def DO:bF:=
 .seq (.aE [⟨some 4,.dp (.c (.str [])),none,[]⟩])
 (.seq (.aE [al 6 0,da 7 6,er 8 7,bT 9 8,al 5 9])
 (.seq (.block 0 (.loop J5))
 (.seq (.draw [al 40 0,da 41 40,gm 42 41,bT 43 42,al 44 5,al 45 0,da 46 45,er 47 46,bT 48 47,⟨some 49,.oM (.t 43) (some (.t 44)) (some (.t 48)) none,none,[43,44,48]⟩,al 4 49] [])
 (.ret))))
theorem TC:cu Tryz.prog Tryz.f117.ntmps (Tryz.f117.body.getD .skip)=DO:=by kernel_rfl
theorem TD:c' Tryz.prog Tryz.f117.ntmps Tryz.f117.results.toList=[.t 4]:=by kernel_rfl
theorem TB {args:List V} {h:af} {K:V→af→Prop} (ai:Nat.ble args.length 50=true) (H:cr Tryz.prog DO (aT.bq args) h fun e r ab=>e.ends∧∃ad,cX r ab [.t 4]=some ad∧K (oneOf ad) ab):bM Tryz.prog 117 args h K:=
 dO follows dq Tryz.func117 (c:=Tryz.f117.body.getD .skip) (by kernel_rfl) (by kernel_rfl) (by kernel_rfl) ai TC TD (by kernel_rfl) H
def DP:bF:=
 .seq (.aE [⟨some 2,.dp (.c (.int .u8 0)),none,[]⟩])
 (.seq (.aE [al 7 0,da 8 7,er 9 8,bT 10 9,fm 11 10,da 12 7,er 13 12,⟨none,.st 1 (.t 13) (.t 11),none,[13,11]⟩])
 (.seq (.draw [al 14 0,da 15 14,gm 16 15,bT 17 16,al 18 0,da 19 18,er 20 19,bT 21 20,C3 22 17 21,al 3 22] [])
 (.seq (.seq (.aE [al 23 3,⟨some 24,.bin (.str .neq) (.t 23) (.c (.str [])),none,[23]⟩])
 (.cond (.t 24)
 (.seq (.aE [al 25 3,⟨some 26,.jU (.t 25) (.c (.int .i64 0)),none,[25]⟩,⟨some 27,.call 92 [(.c (.str [110,116,34,92])),(.t 26)],none,[26]⟩,al 4 27])
 (.seq (.aE [al 28 4,C2 29 28])
 (.cond (.t 29)
 (.seq (.aE [al 30 0,da 31 30,er 32 31,bT 33 32,fm 34 33,da 35 30,er 36 35,⟨none,.st 1 (.t 36) (.t 34),none,[36,34]⟩])
 (.seq (.aE [al 37 4,⟨some 38,.jU (.c (.str [10,9,34,92])) (.t 37),none,[37]⟩,al 2 38])
 (.ret)))
 (.skip))))
 (.skip)))
 (.seq (.seq (.aE [al 39 3,j8 40 39,⟨some 41,.bin (.int .geq) (.t 40) (.c (.int .i64 3)),none,[40]⟩,al 42 41,dT 43 3 42,⟨some 44,.jU (.t 43) (.c (.int .i64 0)),(some (42,true)),[43,42]⟩,⟨some 45,.call 105 [(.t 44)],(some (42,true)),[44,42]⟩,dy 46 42 45,al 47 46,dT 48 3 47,⟨some 49,.jU (.t 48) (.c (.int .i64 1)),(some (47,true)),[48,47]⟩,⟨some 50,.call 105 [(.t 49)],(some (47,true)),[49,47]⟩,dy 51 47 50,al 52 51,dT 53 3 52,⟨some 54,.jU (.t 53) (.c (.int .i64 2)),(some (52,true)),[53,52]⟩,⟨some 55,.call 105 [(.t 54)],(some (52,true)),[54,52]⟩,dy 56 52 55])
 (.cond (.t 56)
 (.seq (.aE [al 58 3,⟨some 59,.oM (.t 58) none (some (.c (.int .i64 3))) none,none,[58]⟩,⟨some 60,.call 123 [(.t 59)],none,[59]⟩,al 57 60,rO 61 57,rP 62 57,al 5 61,al 6 62])
 (.seq (.aE [al 63 5,⟨some 64,.bin (.int .lss) (.t 63) (.c (.int .i64 256)),none,[63]⟩])
 (.cond (.t 64)
 (.seq (.aE [al 65 0,da 66 65,er 67 66,bT 68 67,⟨some 69,.bin (.int .add) (.t 68) (.c (.int .i64 3)),none,[68]⟩,da 70 65,er 71 70,⟨none,.st 1 (.t 71) (.t 69),none,[71,69]⟩])
 (.seq (.aE [al 72 5,⟨some 73,.ho (.int .u8) (.t 72),none,[72]⟩,al 2 73])
 (.ret)))
 (.skip))))
 (.skip)))
 (.seq (.aE [al 74 0,da 75 74,lq 76 75,⟨none,.st 1 (.t 76) (.c (.int .i64 252)),none,[76]⟩])
 (.seq (.aE [⟨some 2,.dp (.c (.int .u8 0)),none,[]⟩])
 (.ret)))))))
theorem TF:cu Tryz.prog Tryz.f118.ntmps (Tryz.f118.body.getD .skip)=DP:=by kernel_rfl
theorem TG:c' Tryz.prog Tryz.f118.ntmps Tryz.f118.results.toList=[.t 2]:=by kernel_rfl
theorem TE {args:List V} {h:af} {K:V→af→Prop} (ai:Nat.ble args.length 77=true) (H:cr Tryz.prog DP (aT.bq args) h fun e r ab=>e.ends∧∃ad,cX r ab [.t 2]=some ad∧K (oneOf ad) ab):bM Tryz.prog 118 args h K:=
 dO follows dq Tryz.func118 (c:=Tryz.f118.body.getD .skip) (by kernel_rfl) (by kernel_rfl) (by kernel_rfl) ai TF TG (by kernel_rfl) H
def c119:bF:=
 .seq (.aE [ei 2])
 (.seq (.aE [al 3 0,⟨some 4,.call 105 [(.t 3)],none,[3]⟩,al 5 4,iz 6 0 5,⟨some 7,.call 108 [(.t 6)],(some (5,false)),[6,5]⟩,hj 8 5 7,al 9 8,iz 10 0 9,⟨some 11,.call 110 [(.t 10)],(some (9,false)),[10,9]⟩,hj 12 9 11,al 13 12,iz 14 0 13,⟨some 15,.bin (.int .eql) (.t 14) (.c (.int .u8 95)),(some (13,false)),[14,13]⟩,hj 16 13 15,al 17 16,iz 18 0 17,⟨some 19,.bin (.int .eql) (.t 18) (.c (.int .u8 39)),(some (17,false)),[18,17]⟩,hj 20 17 19,al 2 20])
 (.ret))
theorem TI:cu Tryz.prog Tryz.f119.ntmps (Tryz.f119.body.getD .skip)=c119:=by kernel_rfl
theorem TJ:c' Tryz.prog Tryz.f119.ntmps Tryz.f119.results.toList=[.t 2]:=by kernel_rfl
theorem TH {args:List V} {h:af} {K:V→af→Prop} (ai:Nat.ble args.length 21=true) (H:cr Tryz.prog c119 (aT.bq args) h fun e r ab=>e.ends∧∃ad,cX r ab [.t 2]=some ad∧K (oneOf ad) ab):bM Tryz.prog 119 args h K:=
 dO follows dq Tryz.func119 (c:=Tryz.f119.body.getD .skip) (by kernel_rfl) (by kernel_rfl) (by kernel_rfl) ai TI TJ (by kernel_rfl) H
theorem oI {f:FuncId} {args:List V} {h:af} {v:V} (c:bM Tryz.prog f args h fun x ab=>x=v∧ab=h):eS Tryz.prog f args h v h:=by
 obtain ⟨x,ab,q,rfl,rfl⟩:=c
 exact q
def lB (c:Int):Bool:=decide (48≤c)&&decide (c≤57)
def hA (c:Int):Bool:=decide (97≤c)&&decide (c≤122)
def mc (c:Int):Bool:=decide (65≤c)&&decide (c≤90)
def sZ (c:Int):Bool:=lB c||hA c||mc c||decide (c=95)||decide (c=39)
theorem ub (c:Int) (h:af):eS Tryz.prog 105 [.int .u8 c] h (.bool (lB c)) h:=by
 refine oI (Td rfl (dt ?_))
 unfold DF
 simp +contextual only [↓aw,aJ,simprocAttr]
 rfl
theorem Cj (c:Int) (h:af):eS Tryz.prog 108 [.int .u8 c] h (.bool (hA c)) h:=by
 refine oI (Tm rfl (dt ?_))
 unfold DI
 simp +contextual only [↓aw,aJ,simprocAttr]
 rfl
theorem LM (c:Int) (h:af):eS Tryz.prog 110 [.int .u8 c] h (.bool (mc c)) h:=by
 refine oI (Ts rfl (dt ?_))
 unfold DL
 simp +contextual only [↓aw,aJ,simprocAttr]
 rfl
theorem Yp (s p:List UInt8) (h:af):eS Tryz.prog 115 [.str s,.str p] h (.bool (p.isPrefixOf s)) h:=by
 refine oI (Ty rfl (dt ?_))
 unfold DN
 have ba:(0≤(p.length:Int))=True:=eq_true (by omega)
 by_cases ai:p.length≤s.length
 · have aa:((p.length:Int)≤(s.length:Int))=True:=eq_true (by omega)
   simp +contextual only [ba,aa,Int.toNat_natCast,↓aw,aJ,simprocAttr]
   rw [Bool.eq_iff_iff,decide_eq_true_eq,List.isPrefixOf_iff_prefix,List.prefix_iff_eq_take]
   exact ⟨fun e=>e.symm,fun e=>e.symm⟩
 · have aa:((p.length:Int)≤(s.length:Int))=False:=eq_false (by omega)
   simp +contextual only [ba,aa,Int.toNat_natCast,↓aw,aJ,simprocAttr]
   rw [eq_comm,←Bool.not_eq_true,List.isPrefixOf_iff_prefix]
   exact fun e=>ai e.length_le
theorem Yo (s p:List UInt8) (h:af):eS Tryz.prog 104 [.str s,.str p] h (.bool (p.isPrefixOf s)) h:=by
 refine oI (Ta rfl (dt ?_))
 unfold DE
 simp +contextual only [↓aw,aJ,simprocAttr]
 refine gp (Yp s p h) ?_
 simp +contextual only [↓aw,aJ,simprocAttr]
theorem ac2 (c:Int) (h:af):eS Tryz.prog 119 [.int .u8 c] h (.bool (sZ c)) h:=by
 refine oI (TH rfl (dt ?_))
 unfold c119
 simp +contextual only [↓aw,aJ,simprocAttr]
 refine gp (ub c h) ?_
 simp +contextual only [↓aw,aJ,simprocAttr]
 refine LC (.bool (hA c)) (fun ao=>by simp only [ao,↓aw,aJ,simprocAttr];exact Cj _ _) ?_
 simp +contextual only [↓aw,aJ,simprocAttr]
 refine LC (.bool (mc c)) (fun ao=>by simp only [ao,↓aw,aJ,simprocAttr];exact LM _ _) ?_
 simp +contextual only [↓aw,aJ,simprocAttr]
 rfl
theorem Fj (s p:List UInt8) (at':Int) (rest:List V) (b:aO) (cv:Nat) (st:Bool) (h:af) (ag:h.get b=.bq (.str s::.int .i64 at'::rest) cv st) (ba:0≤at') (aa:at'≤s.length):
 eS Tryz.prog 93 [.ptr b 0,.str p] h (.bool (p.isPrefixOf (s.drop at'.toNat))) h:=by
 refine oI (Vh rfl (dt ?_))
 unfold Ek
 have f0:(0≤at')=True:=eq_true ba
 have f1:(at'≤(s.length:Int))=True:=eq_true aa
 simp +contextual only [ag,f0,f1,↓aw,aJ,simprocAttr]
 refine gp (Yo _ p h) ?_
 simp +contextual only [ag,f0,f1,↓aw,aJ,simprocAttr]
def gU:List UInt8→Int→Option Nat
 | [],_=>none
 | [_],_=>none
 | x::y::r,d=>if x=40∧y=42 then (gU r (d+1)).map (· +2) else if x=42∧y=41 then (if d-1=0 then some 2 else (gU r (d-1)).map (· +2)) else (gU (y::r) d).map (· +1)
theorem adQ (r:List UInt8) (d:Int) (h:r≠[]):gU r d=if ([40,42]:List UInt8).isPrefixOf r=true then (gU (r.drop 2) (d+1)).map (· +2) else
 if ([42,41]:List UInt8).isPrefixOf r=true then (if d-1=0 then some 2 else (gU (r.drop 2) (d-1)).map (· +2)) else (gU (r.drop 1) d).map (· +1):=by
 match r,h with
 | [x],_=>simp [gU,List.isPrefixOf]
 | x::y::r,_=>
   have aN:(([40,42]:List UInt8).isPrefixOf (x::y::r)=true)=(x=40∧y=42):=by
    simp only [List.isPrefixOf,Bool.and_true,Bool.and_eq_true,beq_iff_eq]
    exact propext ⟨fun q=>⟨q.1.symm,q.2.symm⟩,fun q=>⟨q.1.symm,q.2.symm⟩⟩
   have aY:(([42,41]:List UInt8).isPrefixOf (x::y::r)=true)=(x=42∧y=41):=by
    simp only [List.isPrefixOf,Bool.and_true,Bool.and_eq_true,beq_iff_eq]
    exact propext ⟨fun q=>⟨q.1.symm,q.2.symm⟩,fun q=>⟨q.1.symm,q.2.symm⟩⟩
   rw [gU]
   simp only [aN,aY,List.drop_succ_cons,List.drop_zero]
theorem O3 {a b:UInt8} {r:List UInt8} (h:([a,b]:List UInt8).isPrefixOf r=true):2≤r.length:=by
 rw [List.isPrefixOf_iff_prefix] at h
 simpa using h.length_le
noncomputable def en (s:List UInt8) (at' e:Int):bW:=.bq [.str s,.int .i64 at',.int .i64 e] 0 false
theorem adR (s:List UInt8) (a0:Nat) (cI:Int) (b:aO) (h:af) (ag:h.get b=en s a0 cI) (ba:a0≤s.length) (aQ:s.length≤100000) (fA:Old h b):
 bM Tryz.prog 94 [.ptr b 0] h fun x ab=>x=.tuple []∧Mod (fun x=>x=b) h ab∧(match gU (s.drop a0) 0 with
  | some n=>ab.get b=en s ((a0+n:Nat):Int) cI∧a0+n≤s.length
  | none=>ab.get b=en s (s.length:Int) 253):=by
 refine Vk rfl (dt ?_)
 unfold El
 unfold en at ag ⊢
 simp +contextual only [ag,↓aw,aJ,simprocAttr]
 refine gS (fun r ab=>∃(a:Nat) (d:Int),a0≤a∧a≤s.length∧r 0=.ptr b 0∧r 2=.int .i64 d∧ab.get b=.bq [.str s,.int .i64 a,.int .i64 cI] 0 false∧Mod (fun x=>x=b) h ab∧-(a:Int)≤d∧d≤a∧
  gU (s.drop a0) 0=(gU (s.drop a) d).map (· + (a-a0))) (fun r ab=>s.length - ((hd (ab.get b) 1).getD .bad).toN) ?_ ?_
 · refine ⟨a0,0,Nat.le_refl _,ba,?_⟩
   simp only [↓aw,aJ,simprocAttr]
   refine ⟨ag,Mod.refl _ _,by omega,by omega,?_⟩
   rw [Nat.sub_self]
   cases gU (s.drop a0) 0<;>rfl
 · rintro r ab ⟨a,d,oy,cb,bO,bZ,aG,hm,d0,d1,bt⟩
   unfold Km
   by_cases e2:(s.length:Int)≤(a:Int)
   · have bn:a=s.length:=by omega
     have aZ:gU (s.drop a) d=none:=by
      rw [bn,List.drop_length]
      rfl
     rw [aZ] at bt
     simp +contextual only [bO,bZ,aG,e2,↓aw,aJ,simprocAttr]
     rw [bt]
     refine ⟨hm.set (fun _=>rfl) _,?_⟩
     simp only [bn,Option.map_none,di,if_true]
   · have cZ:s.drop a≠[]:=by
      intro q
      rw [List.drop_eq_nil_iff] at q
      omega
     have xA:∀p,eS Tryz.prog 93 [.ptr b 0,.str p] ab (.bool (p.isPrefixOf (s.drop a))) ab:=fun p=>by
      have:=Fj s p (a:Int) [.int .i64 cI] b 0 false ab aG (by omega) (by omega)
      simpa using this
     have gu:=adQ (s.drop a) d cZ
     simp +contextual only [bO,bZ,aG,e2,↓aw,aJ,simprocAttr]
     refine gp (xA _) ?_
     cases hb:([40,42]:List UInt8).isPrefixOf (s.drop a) with
     | true=>
       have ae:=O3 hb
       rw [List.length_drop] at ae
       rw [hb,if_pos rfl] at gu
       have bY:IntKind.i64.wrap (d+1)=d+1:=wrap_i64 (by omega) (by omega)
       have bK:IntKind.i64.wrap ((a:Int)+2)=((a+2:Nat):Int):=by rw [wrap_i64 (by omega) (by omega)];rfl
       simp +contextual only [bO,bZ,aG,bY,bK,↓aw,aJ,simprocAttr]
       refine ⟨⟨a+2,d+1,by omega,by omega,rfl,rfl,hm.set (fun _=>rfl) _,by omega,by omega,?_⟩,by omega⟩
       rw [bt,gu,List.drop_drop,Option.map_map]
       congr 1
       funext q
       simp only [Function.comp]
       omega
     | false=>
       rw [hb,if_neg (by decide)] at gu
       simp +contextual only [bO,bZ,aG,↓aw,aJ,simprocAttr]
       refine gp (xA _) ?_
       cases gH:([42,41]:List UInt8).isPrefixOf (s.drop a) with
       | true=>
         have ae:=O3 gH
         rw [List.length_drop] at ae
         rw [gH,if_pos rfl] at gu
         have bY:IntKind.i64.wrap (d-1)=d-1:=wrap_i64 (by omega) (by omega)
         have bK:IntKind.i64.wrap ((a:Int)+2)=((a+2:Nat):Int):=by rw [wrap_i64 (by omega) (by omega)];rfl
         by_cases aX:d-1=0
         · rw [if_pos aX] at gu
           obtain rfl:d=1:=by omega
           have au:IntKind.i64.wrap 0=0:=rfl
           simp +contextual only [bO,bZ,aG,au,bK,↓aw,aJ,simprocAttr]
           rw [bt,gu]
           refine ⟨hm.set (fun _=>rfl) _,?_⟩
           simp only [Option.map_some,di,if_true]
           refine ⟨?_,by omega⟩
           rw [show a0 + (2 + (a-a0))=a+2 from by omega]
         · rw [if_neg aX] at gu
           simp +contextual only [bO,bZ,aG,bY,bK,aX,↓aw,aJ,simprocAttr]
           refine ⟨⟨a+2,d-1,by omega,by omega,rfl,rfl,hm.set (fun _=>rfl) _,by omega,by omega,?_⟩,by omega⟩
           rw [bt,gu,List.drop_drop,Option.map_map]
           congr 1
           funext q
           simp only [Function.comp]
           omega
       | false=>
         rw [gH,if_neg (by decide)] at gu
         have bK:IntKind.i64.wrap ((a:Int)+1)=((a+1:Nat):Int):=by rw [wrap_i64 (by omega) (by omega)];rfl
         simp +contextual only [bO,bZ,aG,bK,↓aw,aJ,simprocAttr]
         refine ⟨⟨a+1,d,by omega,by omega,rfl,rfl,hm.set (fun _=>rfl) _,by omega,by omega,?_⟩,by omega⟩
         rw [bt,gu,List.drop_drop,Option.map_map]
         congr 1
         funext q
         simp only [Function.comp]
         omega
theorem drop_cons {s:List UInt8} {a:Nat} (h:a<s.length):s.drop a=s[a]::s.drop (a+1):=List.drop_eq_getElem_cons h
theorem Qm (p:UInt8→Bool):∀l:List UInt8,(l.takeWhile p).length≤l.length
 | []=>by simp
 | x::l=>by
   simp only [List.takeWhile_cons]
   split
   · simpa using Qm p l
   · simp
theorem PL (s:List UInt8) (a0:Nat) (cI:Int) (b:aO) (g:FuncId) (p:Int→Bool) (h:af) (ag:h.get b=en s a0 cI) (ba:a0≤s.length) (aQ:s.length≤100000) (a6:(g=4294967296)=False)
 (ah:∀c h,eS Tryz.prog g [.int .u8 c] h (.bool (p c)) h):
 bM Tryz.prog 117 [.ptr b 0,.func g []] h fun x ab=>x=.str ((s.drop a0).takeWhile fun c=>p c.toNat)∧Mod (fun x=>x=b) h ab∧ab.get b=en s ((a0 + ((s.drop a0).takeWhile fun c=>p c.toNat).length:Nat):Int) cI:=by
 refine TB rfl (dt ?_)
 unfold DO
 unfold en at ag ⊢
 simp +contextual only [ag,↓aw,aJ,simprocAttr]
 refine gS (fun r ab=>∃(a:Nat),a0≤a∧a≤s.length∧r 0=.ptr b 0∧r 1=.func g []∧r 5=.int .i64 a0∧ab.get b=.bq [.str s,.int .i64 a,.int .i64 cI] 0 false∧Mod (fun x=>x=b) h ab∧
  ((s.drop a0).takeWhile fun c=>p c.toNat)=(s.drop a0).take (a-a0)++((s.drop a).takeWhile fun c=>p c.toNat)) (fun r ab=>s.length - ((hd (ab.get b) 1).getD .bad).toN) ?_ ?_
 · refine ⟨a0,Nat.le_refl _,ba,?_⟩
   simp only [↓aw,aJ,simprocAttr]
   refine ⟨ag,Mod.refl _ _,?_⟩
   rw [Nat.sub_self]
   rfl
 · rintro r ab ⟨a,oy,cb,bO,bz,dv,aG,hm,bt⟩
   unfold J5
   have fin:((s.drop a).takeWhile fun c=>p c.toNat)=[]→V.str (((s.drop a0).take (a-a0)))=V.str ((s.drop a0).takeWhile fun c=>p c.toNat)∧Mod (fun x=>x=b) h ab∧bW.bq [V.str s,V.int .i64 a,V.int .i64 cI] 0 false=bW.bq [V.str s,V.int .i64 ((a0 + ((s.drop a0).takeWhile fun c=>p c.toNat).length:Nat):Int),V.int .i64 cI] 0 false:=by
    intro q
    rw [q,List.append_nil] at bt
    rw [bt,List.length_take,List.length_drop]
    refine ⟨rfl,hm,?_⟩
    rw [show a0+min (a-a0) (s.length-a0)=a from by omega]
   have f0:(0≤(a0:Int))=True:=eq_true (by omega)
   have f1:((a0:Int)≤(a:Int))=True:=eq_true (by omega)
   have f2:((a:Int)≤(s.length:Int))=True:=eq_true (by omega)
   have f3:(0≤(a:Int))=True:=eq_true (by omega)
   by_cases e2:(a:Int) < (s.length:Int)
   · have aP:a<s.length:=by omega
     rw [drop_cons aP,List.takeWhile_cons] at bt fin
     simp +contextual only [a6,if_false,bO,bz,dv,aG,e2,f0,f1,f2,f3,List.getElem?_eq_getElem aP,Int.toNat_natCast,↓aw,aJ,simprocAttr]
     refine gp (ah _ _) ?_
     cases nk:p ((s[a]).toNat:Int) with
     | true=>
       rw [nk] at bt
       have bK:IntKind.i64.wrap ((a:Int)+1)=((a+1:Nat):Int):=by rw [wrap_i64 (by omega) (by omega)];rfl
       simp +contextual only [nk,bO,bz,dv,aG,e2,f0,f1,f2,f3,bK,List.getElem?_eq_getElem aP,Int.toNat_natCast,↓aw,aJ,simprocAttr]
       refine ⟨⟨a+1,by omega,by omega,rfl,hm.set (fun _=>rfl) _,?_⟩,by omega⟩
       rw [bt,if_pos rfl]
       have uN:a-a0 < (s.drop a0).length:=by rw [List.length_drop];omega
       rw [show a+1-a0=a-a0+1 from by omega,←List.take_append_getElem uN,List.append_assoc]
       congr 1
       rw [List.getElem_drop]
       simp only [show a0 + (a-a0)=a from by omega]
       rfl
     | false=>
       rw [nk] at fin
       simp +contextual only [nk,bO,bz,dv,aG,e2,f0,f1,f2,f3,List.getElem?_eq_getElem aP,Int.toNat_natCast,↓aw,aJ,simprocAttr]
       exact fin rfl
   · have bn:a=s.length:=by omega
     simp +contextual only [a6,if_false,bO,bz,dv,aG,e2,f0,f1,f2,f3,Int.toNat_natCast,↓aw,aJ,simprocAttr]
     refine fin ?_
     rw [bn,List.drop_length]
     rfl
end Go.Proofs.YtkehcalakofigaaGreatDoor
