/- The chapter's functions, walked by the abstract machine: plain lemmas, no condition. Printed by a program from longer texts: names made short. -/
import Derived.Test.YtkehcalakofigaaGreatDoorM8
import Derived.Test.YtkehcalakofigaaGreatDoorM9
set_option linter.unusedSectionVars false
set_option linter.unusedSimpArgs false
set_option linter.unusedVariables false
namespace Go.Proofs.YtkehcalakofigaaGreatDoor
open Go a1
theorem adf {P:Program} {b2:List V} {b:aO} {d:Option Nat} {os:List bs} {D:Option gM} {aJ:List gl} {r:aS} {h:ae} {Q:cY→aS→ae→Prop} {K:V→ae→Prop}
 (c:xu P b2 b h K) (H:∀v aa,K v aa→bj P (.os (hf D r h v) os::aJ) .normal (r.set d v) aa Q):An P (b2++[.ptr b 0]) d D os aJ r h Q:=by
 obtain ⟨v,aa,q,k⟩:=c
 exact ⟨b2,b,rfl,v,aa,q,H v aa k⟩
structure Au (j2:Nat) (oJ:aO) (M:aO→Prop) (I:List a'→ae→Prop):Prop where
 ext:∀{d:List a'} {h aa:ae},I d h→Ext h aa→I d aa
 H0:∀{d:List a'} {h:ae} (p:a') {ab:List V},I d h→ct (fun b=>cr b<j2) h p.enc ab→xu Tryz.prog [.agg ab] oJ h fun x aa=>x=.bool true∧I (d++[p]) aa∧Mod M h aa
 b0:∀{d:List a'} {h:ae},I d h→∀b,M b→Old h b
 bJ:∀b,M b→j2≤cr b
set_option maxHeartbeats 1000000 in
theorem J3 {j2:Nat} {oJ:aO} {M:aO→Prop} {I:List a'→ae→Prop} (E:Au j2 oJ M I) {sc rB:Nat} (aZ:¬M (aH sc)) (aB:¬M (aH rB)):∀(N:Nat) (p:a'),p.size≤N→∀(d:List a') (ab:List V) (h:ae),ct (fun b=>cr b<j2) h p.enc ab→
 Has h sc [.func 4294967296 [.ptr oJ 0]]→Has h rB [.func 53 [.ptr (aH sc) 0,.ptr (aH rB) 0]]→I d h→bF Tryz.prog 53 [.agg ab,.ptr (aH sc) 0,.ptr (aH rB) 0] h fun x aa=>x=.bool true∧I (d++p.pre) aa∧Mod M h aa
 | 0,p,aQ,_,_,_,_,_,_,_=>by have:=rV p;omega
 | N+1,p,aQ,d,ab,h,H,Y,B,J=>by
   obtain ⟨dI,rfl,L,_⟩:=a'.open H
   have ol:=L.one
   have ai:=L.len
   have hle:=L.le
   rw [List.length_map] at ai hle
   refine QH rfl (db ?_)
   unfold BO
   obtain ⟨U,aj,aE,ee⟩:=iB h [.int .i64 p.k,.int .i64 p.n,.int .i64 p.a,.str p.s,dI]
   have rm:¬M (aH h.next):=fun q=>EN (Nat.le_refl _) (E.b0 J _ q)
   have xt:=Y.ext aE
   simp +contextual only [ol.1,ol.2.1,aj,ee.g,xt.g,xQ,List.cons_append,List.nil_append,if_true,↓ak,au,simprocAttr]
   refine adf (b2:=[_]) (E.H0 p (E.ext J aE) (H.ext aE)) ?_
   rintro x ad ⟨rfl,c',m2⟩
   have gi:=ee.mod m2 rm
   have NP:=xt.mod m2 aZ
   have k9:=(B.ext aE).mod m2 aB
   have Y_:Mod M h ad:=(aE.mod M).trans m2
   simp +contextual only [gi.g,ai,↓ak,au,simprocAttr]
   refine gu (fun r g=>r 1=.ptr (aH sc) 0∧r 2=.ptr (aH rB) 0∧r 12=dI∧r 13=.int .i64 p.l.length∧∃i:Nat,r 14=.int .i64 i∧i≤p.l.length∧Has g sc [.func 4294967296 [.ptr oJ 0]]∧Has g rB [.func 53 [.ptr (aH sc) 0,.ptr (aH rB) 0]]∧
    I (d++[p]++kz (p.l.take i)) g∧Mod M h g) (fun r g=>p.l.length - (r 14).toN) ?_ ?_
   · exact ⟨by simp only [↓ak,c1,simprocAttr],by simp only [↓ak,c1,simprocAttr],by simp only [↓ak,c1,simprocAttr],by simp only [↓ak,c1,simprocAttr],0,by simp only [↓ak,c1,simprocAttr]<;>rfl,by omega,NP,k9,by rw [List.take_zero,kz,List.append_nil];exact c',Y_⟩
   rintro r g ⟨bt,cW,E_,Fa,i,Fb,adQ,NR,Nf,AQ,Ez⟩
   unfold Hh
   have gX:=L.mod (dn:=fun b=>cr b<j2) Ez fun b q _=>⟨fun z=>by have:=E.bJ b z;omega,q⟩
   by_cases aN:i<p.l.length
   · have g0:((i:Int) < (p.l.length:Int))=True:=eq_true (by omega)
     obtain ⟨b,off,wl,c4,X,gB,ld⟩:=a'.nu gX (k:=.i64) aN
     have jn:=ld g (Ext.refl g)
     have gx:=gB.one
     have eG:=j1 aN (by unfold top at hle;omega)
     have bZ:=rU (t:=p) (List.getElem_mem aN)
     obtain ⟨g1,ed,bu,Z⟩:=j' g [.int .i64 0,.int .i64 0,.int .i64 0,.str [],.cq] [.int .i64 p.l[i].k,.int .i64 p.l[i].n,.int .i64 p.l[i].a,.str p.l[i].s,wl]
     have As:=Nf.ext bu
     have Gt:=NR.ext bu
     simp +contextual only [bt,cW,E_,Fa,Fb,g0,c4,jn,ed,Z.g,As.g,gx.1,gx.2.1,xQ,List.cons_append,List.nil_append,show (53=4294967296)=False from by simp,if_false,↓ak,au,simprocAttr]
     refine bT (J3 E aZ aB N p.l[i] (by omega) _ _ g1 (X.ext bu) Gt As (E.ext AQ bu)) ?_
     rintro x g2 ⟨rfl,dc,m3⟩
     simp +contextual only [bt,cW,E_,Fa,Fb,eG,↓ak,au,simprocAttr]
     exact ⟨⟨i+1,rfl,aN,Gt.mod m3 aZ,As.mod m3 aB,by rw [take_one aN,LF,kz,kz,List.append_nil,←List.append_assoc];exact dc,Ez.trans ((bu.mod M).trans m3)⟩,by omega⟩
   · have g0:((i:Int) < (p.l.length:Int))=False:=eq_false (by omega)
     rw [List.take_of_length_le (by omega)] at AQ
     simp +contextual only [bt,cW,E_,Fa,Fb,g0,↓ak,au,simprocAttr]
     exact ⟨by rw [aax,←List.singleton_append,←List.append_assoc];exact AQ,Ez⟩
theorem acO (ab:List V) (h:ae) (aP:eb ab=true) (ai:ab.length≤top):bF Tryz.prog 40 [.agg ab] h fun x aa=>∃n,x=.func 52 [.ptr (aH n) 0]∧Has aa n ab∧Ext h aa:=by
 refine Qi rfl (db ?_)
 unfold BI
 obtain ⟨U,aj,aE,ee⟩:=iB h ab
 have eu:(ab.length≤17179869184)=True:=eq_true ai
 simp +contextual only [aj,aP,eu,↓ak,au,simprocAttr]
 exact ⟨_,rfl,ee,aE⟩
set_option maxHeartbeats 1000000 in
theorem acN {j2:Nat} {oJ:aO} {M:aO→Prop} {I:List a'→ae→Prop} (E:Au j2 oJ M I) {tU:Nat} (p:a') (ab:List V) (h:ae) (H:ct (fun b=>cr b<j2) h p.enc ab) (Ng:Has h tU ab) (J:I [] h):
 bF Tryz.prog 52 [.func 4294967296 [.ptr oJ 0],.ptr (aH tU) 0] h fun x aa=>I p.pre aa∧Mod M h aa:=by
 obtain ⟨dI,rfl,L,_⟩:=a'.open H
 refine QE rfl (db ?_)
 unfold BN
 obtain ⟨U,aj,aE,xt⟩:=iB h [.func 4294967296 [.ptr oJ 0]]
 obtain ⟨ad,ay,aM,k9⟩:=j' U [.iQ] [.func 53 [.ptr (aH h.next) 0,.ptr (aH U.next) 0]]
 have sJ:=aE.trans aM
 have pk:=Ng.ext sJ
 have da:¬M (aH h.next):=fun q=>EN (Nat.le_refl _) (E.b0 J _ q)
 have jX:¬M (aH U.next):=fun q=>EN (Nat.le_refl _) (E.b0 (E.ext J aE) _ q)
 have ol:=L.one
 simp +contextual only [aj,ay,k9.g,pk.g,ol.1,ol.2.1,xQ,List.cons_append,List.nil_append,show (53=4294967296)=False from by simp,if_false,↓ak,au,simprocAttr]
 refine bT (J3 E da jX p.size p (Nat.le_refl _) [] _ ad (H.ext sJ) (xt.ext aM) k9 (E.ext J sJ)) ?_
 rintro x aI ⟨rfl,dc,m3⟩
 simp +contextual only [↓ak,au,simprocAttr]
 exact ⟨dc,(sJ.mod M).trans m3⟩
structure F6 (ck qM m:Nat) (l:lZ) (d:List a') (h:ae):Prop where
 n:Has h ck [.int .i64 (IntKind.i64.wrap d.length)]
 bJ:m<h.next
 l:h.get (aH m)=.dv l
 Cg:qM<h.next
 d:h.get (aH qM)=.e0
theorem aba (v:V) (r:aS):qd [6] [v] r 3=r 3:=by simp [qd,aS.tT,aS.set,d_]
theorem ac2 (n:Nat):IntKind.i64.wrap (IntKind.i64.wrap (n:Int)+1)=IntKind.i64.wrap ((n+1:Nat):Int):=by
 rw [IntKind.wrap_i64,IntKind.wrap_i64,IntKind.wrap_i64];omega
set_option maxHeartbeats 1000000 in
theorem Sb {j2 ck qM m:Nat} {l:lZ} {r:aS} (cI:j2≤ck) (qY:j2≤m) (c8:m≠ck) (C1:qM≠ck) (I4:qM≠m) (F:xo Tryz.prog l 10 r [6] Bz BA) (bb:l.st=0) (ah:l.ew=none) (aG:r 3=.ptr (aH ck) 0):
 Au j2 (aH m) (fun b=>b=aH ck∨b=aH m) (fun d h=>F6 ck qM m l d h) where
 ext:=fun {d h aa} J e=>⟨J.n.ext e,Nat.lt_of_lt_of_le J.bJ e.next,(e.get _ (gS J.bJ)).trans J.l,Nat.lt_of_lt_of_le J.Cg e.next,(e.get _ (gS J.Cg)).trans J.d⟩
 b0:=fun {d h} J b af=>by
  rcases af with rfl | rfl
  · exact gS J.n.lt
  · exact gS J.bJ
 bJ:=fun b af=>by
  rcases af with rfl | rfl
  · rw [dR];exact cI
  · rw [dR];exact qY
 H0:=fun {d h} p ab J H=>by
  refine adg (by decide) follows c2 F J.l bb rfl ?_
  have Gm:=J.n.set (m:=m) (fun q=>c8 q.symm) (.dv (l.go 1 l.ew))
  unfold Bz
  refine ⟨rfl,J.l,db ?_⟩
  unfold BA
  have dQ:l.go 0 none=l:=by obtain ⟨st,ew,_,_,_,_,_,_⟩:=l;simp only at bb ah;subst bb ah;rfl
  simp +contextual only [aba,aG,Gm.g,ac2,↓ak,au,simprocAttr]
  refine ⟨if_neg (fun q=>c8 q.symm),⟨?_,?_,?_,?_,?_⟩,?_⟩
  · refine Has.set ?_ (fun q=>c8 q.symm) _
    rw [List.length_append,List.length_singleton]
    exact Gm.put _
  · exact J.bJ
  · rw [dG,if_pos rfl,dQ]
  · exact J.Cg
  · rw [dG,if_neg (fun q=>I4 (gT q).symm),dG,if_neg (fun q=>C1 (gT q).symm),dG,if_neg (fun q=>I4 (gT q).symm)]
    exact J.d
  · exact (((Mod.refl _ h).set (fun _=>.inr rfl) _).set (fun _=>.inl rfl) _).set (fun _=>.inr rfl) _
set_option maxHeartbeats 1000000 in
theorem abH (p:a') (aQ:p.size≤1000000000) (ab:List V) (h:ae) (H:ct Any h p.enc ab):bF Tryz.prog 15 [.agg ab] h fun x aa=>x=.int .i64 (p.size:Nat)∧Ext h aa:=by
 have se:=H.ZT
 have aP:=H.eb
 obtain ⟨dI,cC,L,_⟩:=a'.open H
 have tv:ab.length≤top:=by rw [cC];simp [top]
 have cp:ab.length=5:=by rw [cC];rfl
 have V1:(ab.length≤17179869184)=True:=eq_true tv
 refine PQ rfl (db ?_)
 unfold By
 obtain ⟨U,aj,aE,ee⟩:=iB h ab
 obtain ⟨ad,ay,aM,Gn⟩:=j' U [.int .i64 0] [.int .i64 0]
 have gi:=ee.ext aM
 have g5:mA 5 (bV.bk ab 0 false) 0=some (.agg ab):=by rw [En,if_pos (by omega),List.drop_zero,List.take_of_length_le (by omega)]
 simp +contextual only [aj,ay,aP,V1,gi.g,g5,↓ak,au,simprocAttr]
 refine bT (acO ab ad aP tv) ?_
 rintro x aI ⟨n,rfl,uH,b9⟩
 simp +contextual only [↓ak,au,simprocAttr]
 refine aaT (g:=52) (cs:=[.ptr (aH n) 0]) (by simp only [↓ak,c1,simprocAttr]) (by decide) ⟨_,Tryz.func52,by kernel_rfl⟩ ?_
 intro l F bb ah
 have SL:Ext h aI:=aE.trans (aM.trans b9)
 have hk:Ext aI ((aI.new .e0).new (.dv l)):=((Ext.refl aI).new _).new _
 have HX:=SL.trans hk
 have e7:=aE.next
 have hr:=aM.next
 have y7:=b9.next
 have Yu:=Gn.lt
 have NB:Has ((aI.new .e0).new (.dv l)) U.next [.int .i64 0]:=(Gn.ext b9).ext hk
 have E:=Sb (j2:=h.next) (ck:=U.next) (qM:=aI.next) (m:=aI.next+1) (by omega) (by omega) (by omega) (by omega) (by omega) F bb ah (by simp only [↓ak,c1,simprocAttr])
 have ag:F6 U.next aI.next (aI.next+1) l [] ((aI.new .e0).new (.dv l)):=by
  refine ⟨NB,by rw [gw,gw];omega,l9 _,by rw [gw,gw];omega,?_⟩
  rw [gE,if_neg (fun q=>by have:=gT q;rw [gw] at this;omega),l9]
 refine (acN E p ab _ (se.ext HX) (uH.ext hk) ag).mono ?_
 rintro x cp ⟨dj,m5⟩
 refine ⟨l,dj.l,by rw [bb];decide,?_⟩
 rw [ah]
 have Gp:=dj.n.set (m:=aI.next+1) (by omega) .dead
 have hw:IntKind.i64.wrap (p.pre.length:Int)=((p.size:Nat):Int):=by rw [LC,wrap_i64 (by omega) (by omega)]
 rw [hw] at Gp
 have CD:(cp.set (aH (aI.next+1)) .dead).get (aH aI.next)=.e0:=by rw [dG,if_neg (fun q=>by have:=gT q;omega)];exact dj.d
 have SN:Ext h (cp.set (aH (aI.next+1)) .dead):=by
  refine (HX.nz m5 fun b af=>?_).set (by omega) _
  rcases af with rfl | rfl
  · rw [dR];omega
  · rw [dR];omega
 simp +contextual only [Option.getD_none,Gp.g,d_,V.list,aS.bk,pV,CD,↓ak,au,simprocAttr]
 exact SN.set (by omega) _
structure gm where
 first:List Int:=[]
 rest:Int:=0
 least:Int:=0
 ig:Int:=0
 last:List Int:=[]
 bJ:Int:=0
 aB:Int:=0
 s:Int:=0
def gm.enc (r:gm):List D:=[.l 1 (r.first.map a1.encI),.i .i64 r.rest,.i .i64 r.least,.i .i64 r.ig,.l 1 (r.last.map a1.encI),.i .i64 r.bJ,.i .i64 r.aB,.i .i64 r.s]
def oV:List (Int × gm):=
 [(1,{s:=3}),(2,{s:=1,rest:=1,ig:=64}),(3,{first:=[1,1]}),(4,{first:=[1,1]}),
  (10,{}),(13,{}),(11,{s:=1}),(12,{bJ:=-1073741824,aB:=1073741823}),(14,{aB:=1}),(15,{first:=[2,2]}),(16,{s:=2,rest:=2,ig:=1}),
  (20,{bJ:=-1073741824,aB:=1073741823}),(21,{s:=4}),(22,{}),(23,{aB:=1}),(24,{s:=1}),(25,{s:=2,rest:=3,ig:=1}),(26,{first:=[3,3]}),(28,{first:=[3,3]}),(35,{first:=[3,3]}),(37,{first:=[3,3]}),
  (38,{s:=5,first:=[3,3]}),(34,{first:=[3]}),(36,{first:=[3]}),(39,{first:=[3]}),(31,{first:=[3,3,3]}),(27,{first:=[2,3]}),(29,{first:=[2,3,3]}),
  (30,{rest:=5,least:=1,ig:=1073741824,last:=[3]}),(32,{first:=[3],rest:=4,least:=1,ig:=1073741824}),(33,{first:=[3],rest:=4,least:=1,ig:=1073741824}),
  (45,{first:=[2,3]}),(46,{s:=1,first:=[9]}),(47,{s:=2,rest:=1,ig:=1}),(51,{s:=2,rest:=1,ig:=1}),(52,{first:=[2,3]}),(53,{rest:=5,least:=1,ig:=1073741824}),
  (50,{s:=1,aB:=64,rest:=6,least:=1,ig:=1073741824})]
def zY:List (Int × List D):=oV.map fun x=>(x.1,x.2.enc)
set_option maxRecDepth 100000 in
theorem abg:zr ctx 100000 35 (fun ar v=>zq ar 1000 zY v)=true:=by kernel_rfl
theorem abf (h:ae):bF Tryz.prog 35 [] h fun x aa=>Ext h aa∧lb (nR h) aa zY x:=
 R9 (C:=ctx) follows c2 E8 (by kernel_rfl) (by kernel_rfl) ⟨_,Tryz.func35,by kernel_rfl⟩ abg h
def e4 (k:Int):Int:=if 1≤k∧k≤4 then 1 else if 10≤k∧k≤16 then 2 else if 20≤k∧k≤39 then 3 else if k=45 then 4 else if k=46 then 5 else if k=47 then 6 else if 50≤k∧k≤53 then 7 else 0
theorem Kv {a b:Int} (h:a≤b):(a≤b)=True:=eq_true h
theorem Ku {a b:Int} (h:b<a):(a≤b)=False:=eq_false (by omega)
theorem sV {a b:Int} (h:b≤a):(a≥b)=True:=eq_true h
theorem ve {a b:Int} (h:a<b):(a≥b)=False:=eq_false (by omega)
theorem JX {a b:Int} (h:a=b):(a=b)=True:=eq_true h
theorem JW {a b:Int} (h:a<b∨b<a):(a=b)=False:=eq_false (by omega)
set_option maxHeartbeats 4000000 in
theorem IH (k:Int) (h:ae):bF Tryz.prog 36 [.int .i64 k] h fun x aa=>x=.int .i64 (e4 k)∧aa=h:=by
 refine P5 rfl (db ?_)
 unfold BE e4
 have aq:k<1∨(1≤k∧k≤4)∨(5≤k∧k≤9)∨(10≤k∧k≤16)∨(17≤k∧k≤19)∨(20≤k∧k≤39)∨(40≤k∧k≤44)∨k=45∨k=46∨k=47∨(48≤k∧k≤49)∨(50≤k∧k≤53)∨54≤k:=by omega
 rcases aq with q | q | q | q | q | q | q | q | q | q | q | q | q<;>simp +contextual (disch:=omega) only [Kv,Ku,sV,ve,JX,JW,and_true,and_false,true_and,false_and,if_true,if_false,↓ak,au,simprocAttr]<;>trivial
set_option maxHeartbeats 4000000 in
theorem Fq (k:Int) (h:ae):bF Tryz.prog 38 [.int .i64 k] h fun x aa=>x=.int .i64 (e4 k)∧aa=h:=by
 refine P_ rfl (db ?_)
 unfold BG e4
 have aq:k<1∨(1≤k∧k≤4)∨(5≤k∧k≤9)∨(10≤k∧k≤16)∨(17≤k∧k≤19)∨(20≤k∧k≤39)∨(40≤k∧k≤44)∨k=45∨k=46∨k=47∨(48≤k∧k≤49)∨(50≤k∧k≤53)∨54≤k:=by omega
 rcases aq with q | q | q | q | q | q | q | q | q | q | q | q | q<;>simp +contextual (disch:=omega) only [Kv,Ku,sV,ve,JX,JW,and_true,and_false,true_and,false_and,if_true,if_false,↓ak,au,simprocAttr]<;>trivial
def pP (k g:Int):Bool:=if g=8 then decide (k=1) else if g=9 then decide (k=27) else decide (e4 k=g)
set_option maxHeartbeats 1000000 in
theorem Wz (t:a') (g:Int) (ab:List V) (h:ae) (H:ct Any h t.enc ab):bF Tryz.prog 48 [.agg ab,.int .i64 g] h fun x aa=>x=.bool (pP t.k g)∧Ext h aa:=by
 obtain ⟨dI,rfl,L,_⟩:=a'.open H
 have ol:=L.one
 refine Qr rfl (db ?_)
 unfold BL pP
 obtain ⟨U,aj,aE,ee⟩:=iB h [.int .i64 t.k,.int .i64 t.n,.int .i64 t.a,.str t.s,dI]
 by_cases a:g=8
 · simp +contextual only [ol.1,ol.2.1,aj,ee.g,eq_true a,if_true,↓ak,au,simprocAttr]
   exact aE
 · by_cases b:g=9
   · simp +contextual only [ol.1,ol.2.1,aj,ee.g,eq_false a,eq_true b,if_true,if_false,↓ak,au,simprocAttr]
     exact aE
   · simp +contextual only [ol.1,ol.2.1,aj,ee.g,eq_false a,eq_false b,if_false,↓ak,au,simprocAttr]
     refine bT (IH t.k U) ?_
     rintro x ad ⟨rfl,rfl⟩
     simp +contextual only [↓ak,au,simprocAttr]
     exact aE
def ub (k:Int):List (Int × gm)→Option gm
 | []=>none
 | (n,r)::l=>if k=n then some r else ub k l
def lQ (k:Int):Option gm:=ub k oV
theorem Ip (k:Int):∀l:List (Int × gm),kt k (l.map fun x=>(x.1,x.2.enc))=(ub k l).map gm.enc
 | []=>rfl
 | (n,r)::l=>by
   simp only [List.map_cons,kt,ub]
   split
   · rfl
   · exact Ip k l
theorem Th (k:Int):kt k zY=(lQ k).map gm.enc:=Ip k oV
def opsL:List (List UInt8):=[[43],[45],[42],[47],[109,111,100],[61],[60],[60,61]]
section
variable (named:Int→List UInt8→Bool)
def uk (kV:Int) (s:List UInt8):Bool:=
 if kV=1 then named 3 s else if kV=2 then named 4 s else if kV=3 then named 5 s else if kV=4 then decide (s.length≤4096) else if kV=5 then opsL.contains s else decide (s=[])
def firstM (r:gm) (k n:Int):List Int:=if k=50 then List.replicate n.toNat 8 else r.first
def fk (r:gm) (k n:Int) (len:Nat):Int:=(len:Int) - (firstM r k n).length-r.last.length
def kN (r:gm) (k n:Int) (len:Nat):List Int:=firstM r k n++List.replicate (fk r k n len).toNat r.rest++r.last
def vm (r:gm) (k n a:Int) (s:List UInt8):Bool:=
 decide (r.bJ≤n)&&decide (n≤r.aB)&&decide (0≤a)&&decide (a≤65536)&&uk named r.s s
def ie (r:gm) (k n:Int) (len:Nat):Bool:=decide (r.least≤fk r k n len)&&decide (fk r k n len≤r.ig)
mutual
def a'.may:a'→Bool
 | .mk k n a s l=>match lQ k with
   | none=>false
   | some r=>vm named r k n a s&&ie r k n l.length&&ky (kN r k n l.length) l
def ky:List Int→List a'→Bool
 | _,[]=>true
 | [],_::_=>true
 | g::gs,t::l=>pP t.k g&&t.may&&ky gs l
end
def r1 (k:Int) (s:List UInt8):Bool:=
 if k=1 then named 5 s else if k=2∨k=11∨k=24∨k=46∨k=50 then named 3 s else if k=16∨k=25∨k=47∨k=51 then named 4 s else
 if k=21 then decide (s.length≤4096) else if k=38 then opsL.contains s else decide (s=[])
def gK (k n:Int) (len:Nat):Bool:=
 if k=12∨k=20 then decide (-1073741824≤n)&&decide (n≤1073741823) else if k=14∨k=23 then decide (n=0)||decide (n=1) else
 if k=50 then decide (0≤n)&&decide (n≤64)&&decide (n < (len:Int)) else decide (n=0)
def Cz:List a'→Bool
 | t::_=>decide (t.k=27)
 | []=>false
def cP (k n:Int) (l:List a'):List Int × Bool:=
 let len:=l.length
 if k=2 then (List.replicate len 1,decide (len≤64))
 else if k=3∨k=4 then (List.replicate 2 1,decide (len=2))
 else if k=15 then (List.replicate 2 2,decide (len=2))
 else if k=16 then (List.replicate len 2,decide (len≤1))
 else if k=25 then (List.replicate len 3,decide (len≤1))
 else if k=26∨k=28∨k=35∨k=37∨k=38 then (List.replicate 2 3,decide (len=2))
 else if k=34∨k=36∨k=39 then (List.replicate 1 3,decide (len=1))
 else if k=31 then (List.replicate 3 3,decide (len=3))
 else if k=27∨k=45∨k=52 then ([2,3],decide (len=2))
 else if k=29 then ([2,3,3],decide (len=3))
 else if k=30 then (List.replicate (len-1) 5++[3],decide (2≤len))
 else if k=32∨k=33 then ([3]++List.replicate (len-1) 4,decide (2≤len))
 else if k=46 then (List.replicate 1 3,decide (len=1)&&Cz l)
 else if k=47∨k=51 then (List.replicate len 1,decide (len≤1))
 else if k=50 then (List.replicate n.toNat 8++List.replicate (len-n.toNat) 6,true)
 else if k=53 then (List.replicate len 5,decide (1≤len))
 else ([],decide (len=0))
def qc (k g:Int):Bool:=if g=8 then decide (k=1) else decide (e4 k=g)
mutual
def a'.hN:a'→Bool
 | .mk k n a s l=>decide (e4 k≠0)&&r1 named k s&&gK k n l.length&&decide (0≤a)&&decide (a≤65536)&&(cP k n l).2&&kA (cP k n l).1 l
def kA:List Int→List a'→Bool
 | _,[]=>true
 | [],_::_=>true
 | g::gs,t::l=>qc t.k g&&t.hN&&kA gs l
end
end
theorem zX {k:Int} {r:gm}:∀{l:List (Int × gm)},ub k l=some r→(k,r) ∈ l
 | [],h=>by cases h
 | (n,q)::l,h=>by
   simp only [ub] at h
   split at h
   · cases h;rename_i e;subst e;simp
   · exact List.mem_cons_of_mem _ (zX h)
theorem Mb {k:Int} (h:lQ k=none):e4 k=0:=by
 by_cases aA:1≤k∧k≤53
 · obtain ⟨n,rfl⟩:=Int.eq_ofNat_of_zero_le (show 0≤k by omega)
   have key:∀n<54,(lQ ((n:Nat):Int)).isNone=true→e4 ((n:Nat):Int)=0:=by decide
   exact key n (by omega) (by rw [h];rfl)
 · unfold e4
   rw [if_neg (by omega),if_neg (by omega),if_neg (by omega),if_neg (by omega),if_neg (by omega),if_neg (by omega),if_neg (by omega)]
section
variable {named:Int→List UInt8→Bool}
theorem aa8 {k g:Int} (h:g≠9):qc k g=pP k g:=by
 unfold qc pP
 by_cases sY:g=8
 · rw [if_pos sY,if_pos sY]
 · rw [if_neg sY,if_neg sY,if_neg h]
theorem Lx:∀{gs:List Int} {l:List a'},(∀t ∈ l,t.hN named=t.may named)→(∀g ∈ gs,g≠9)→kA named gs l=ky named gs l
 | [],[],_,_=>by rw [kA,ky]
 | g::gs,[],_,_=>by rw [kA,ky]
 | [],t::l,_,_=>by rw [kA,ky]
 | g::gs,t::l,h,aD=>by
   rw [kA,ky,h t (by simp),aa8 (aD g (by simp)),Lx (fun t aC=>h t (by simp [aC])) (fun g h=>aD g (by simp [h]))]
theorem Zf {k n a:Int} {s:List UInt8} {l:List a'} {r:gm} (aA:e4 k≠0) (bb:∀t ∈ l,t.hN named=t.may named) (aG:lQ k=some r)
 (U:r1 named k s=uk named r.s s) (ad:(gK k n l.length&&(cP k n l).2)=(decide (r.bJ≤n)&&decide (n≤r.aB)&&ie r k n l.length))
 (aI:ie r k n l.length=true→r.bJ≤n→(cP k n l).1=kN r k n l.length) (CK:∀g ∈ kN r k n l.length,g≠9):(a'.mk k n a s l).hN named=(a'.mk k n a s l).may named:=by
 rw [a'.hN,a'.may,aG]
 simp only
 unfold vm
 rw [decide_eq_true aA,Bool.true_and,U]
 cases cy:ie r k n l.length with
 | false=>
   rw [cy,Bool.and_false] at ad
   simp only [Bool.and_false]
   have:(gK k n l.length&&(cP k n l).2)=false:=ad
   rw [Bool.and_eq_false_iff] at this
   rcases this with q | q<;>rw [q]<;>simp
 | true=>
   rw [cy,Bool.and_true] at ad
   by_cases dL:r.bJ≤n
   · rw [aI cy dL,Lx bb CK]
     have:∀x y z w u v:Bool,(x&&y&&z&&w&&u&&v)=(x&&(y&&u)&&z&&w&&v):=by decide
     rw [this,ad]
     simp only [Bool.and_true]
     have:∀x y z w u v:Bool,(x&&(y&&z)&&w&&u&&v)=(y&&z&&w&&u&&x&&v):=by decide
     rw [this]
   · rw [decide_eq_false dL,Bool.false_and] at ad
     rw [decide_eq_false dL]
     simp only [Bool.false_and]
     rw [Bool.and_eq_false_iff] at ad
     rcases ad with q | q<;>rw [q]<;>simp
set_option maxHeartbeats 4000000 in
theorem KT:∀(N:Nat) (t:a'),t.size≤N→N≤1000000000→t.hN named=t.may named
 | 0,t,aQ,_=>by have:=rV t;omega
 | N+1,.mk k n a s l,aQ,bw=>by
   have h':l.length≤1000000000:=by have:=wK l;simp only [a'.size] at aQ;omega
   have bb:∀t ∈ l,t.hN named=t.may named:=fun t aC=>KT N t (by have:=rU (t:=.mk k n a s l) (u:=t) aC;omega) (by omega)
   cases aG:lQ k with
   | none=>
     rw [a'.hN,a'.may,aG,Mb aG]
     simp
   | some r=>
     have hm:=zX (l:=oV) aG
     by_cases IP:k=46
     · subst IP
       have:r={s:=1,first:=[9]}:=by
        have:lQ 46=some {s:=1,first:=[9]}:=by rfl
        rw [aG] at this
        exact Option.some.inj this
       subst this
       rw [a'.hN,a'.may,aG]
       simp only
       have aE:r1 named 46 s=uk named 1 s:=by rfl
       have aM:gK 46 n l.length=(decide (0≤n)&&decide (n≤0)):=by
        rw [Bool.eq_iff_iff];simp [gK];omega
       unfold vm
       rw [aE,aM,decide_eq_true (show e4 46≠0 by decide)]
       match l,bb with
       | [],_=>simp [cP,ie,fk,firstM]
       | [t],bb=>
         have aD:kN {s:=1,first:=[9]} 46 n [t].length=[9]:=by simp [kN,firstM,fk]
         have q8:cP 46 n [t]=([3],decide (t.k=27)):=by simp [cP,Cz]
         rw [aD,q8,kA,ky,kA,ky,bb t (by simp)]
         have cy:ie {s:=1,first:=[9]} 46 n [t].length=true:=by simp [ie,fk,firstM]
         rw [cy]
         have aB:pP t.k 9=decide (t.k=27):=by simp [pP]
         rw [aB]
         by_cases CH:t.k=27
         · rw [decide_eq_true CH]
           have:qc t.k 3=true:=by rw [CH];decide
           rw [this]
           have:∀x y z w u v:Bool,(true&&x&&(y&&z)&&w&&u&&true&&(true&&v&&true))=(y&&z&&w&&u&&x&&true&&(true&&v&&true)):=by decide
           apply this
         · rw [decide_eq_false CH]
           simp
       | t::u::l,_=>
         have U:(cP 46 n (t::u::l)).2=false:=by simp [cP]
         have ad:ie {s:=1,first:=[9]} 46 n (t::u::l).length=false:=by
          simp [ie,fk,firstM]
         rw [U,ad]
         simp
     · simp only [oV,List.mem_cons,Prod.mk.injEq,List.not_mem_nil,or_false] at hm
       rcases hm with h | h | h | h | h | h | h | h | h | h | h | h | h | h | h | h | h | h | h | h | h | h | h | h | h | h | h | h | h | h | h | h | h | h | h | h | h | h<;>
       obtain ⟨rfl,rfl⟩:=h<;>first | (exact absurd rfl IP) | skip
       all_goals
        refine Zf (by decide) bb aG (by rfl) ?_ ?_ ?_
        · rw [Bool.eq_iff_iff]
          simp [gK,cP,ie,fk,firstM]
          try omega
        · intro cy dL
          simp [cP,ie,fk,firstM,kN] at cy dL ⊢
          try omega
        · simp [kN,firstM,fk]
          try (intro g aD;omega)
end
end Go.Proofs.YtkehcalakofigaaGreatDoor
namespace Go.Proofs.YtkehcalakofigaaGreatDoor
open Go a1
theorem a'.rI [Lay] {F:aO→Prop} {h:ae} {l:List a'} {v:V} (H:cF F h 5 (l.map a'.enc) v) {k:IntKind} {i:Nat} (aB:i<l.length):
 ∃b off dI,jS 5 v (.int k i)=some (.ptr b (off+i * 5))∧ct F h l[i].enc [.int .i64 l[i].k,.int .i64 l[i].n,.int .i64 l[i].a,.str l[i].s,dI]∧cF F h 5 (l[i].l.map a'.enc) dI∧
  (∀aa,Ext h aa→mA 5 (aa.get b) (off+i * 5)=some (.agg [.int .i64 l[i].k,.int .i64 l[i].n,.int .i64 l[i].a,.str l[i].s,dI]))∧
  (∀aa,Ext h aa→hc (aa.get b) (off+i * 5)=some (.int .i64 l[i].k))∧(∀aa,Ext h aa→hc (aa.get b) (off+i * 5+3)=some (.str l[i].s))∧(∀aa,Ext h aa→hc (aa.get b) (off+i * 5+4)=some dI):=by
 obtain ⟨b,off,u,aE,aM,b9,gD,kM⟩:=H.at (k:=k) (i:=i) (by rw [List.length_map];exact aB)
 rw [List.getElem_map] at aM
 obtain ⟨dI,rfl,L,_⟩:=a'.open aM
 exact ⟨b,off,dI,aE,aM,L,gD,fun aa e=>by simpa using kM aa e 0 (by omega),fun aa e=>by simpa using kM aa e 3 (by omega),fun aa e=>by simpa using kM aa e 4 (by omega)⟩
theorem LH {l:List a'} {i:Nat} (aB:i<l.length):ek l[i].l<ek l:=by
 have U:=nC (List.getElem_mem aB)
 have ad:=size_eq l[i]
 omega
set_option maxHeartbeats 1000000 in
theorem Lp:∀(N:Nat) (l:List a'),ek l<N→∀(m:Int) (v:V) (h:ae),cF Any h 5 (l.map a'.enc) v→bF Tryz.prog 33 [v,.int .i64 m] h fun x aa=>(∃n,x=.int .i64 n)∧aa=h
 | 0,l,aQ,_,_,_,_=>by omega
 | N+1,l,aQ,m,v,h,L=>by
   have ai:=L.len
   have hle:=L.le
   rw [List.length_map] at ai hle
   refine P2 rfl (db ?_)
   unfold BD
   simp +contextual only [↓ak,au,simprocAttr]
   refine gu (fun r g=>r 0=v∧r 1=.int .i64 m∧g=h∧∃(i:Nat) (n:Int),r 5=.int .i64 n∧r 6=.int .i64 i∧i≤l.length) (fun r g=>l.length - (r 6).toN) ?_ ?_
   · exact ⟨by simp only [↓ak,c1,simprocAttr],by simp only [↓ak,c1,simprocAttr],rfl,0,0,by simp only [↓ak,c1,simprocAttr],by simp only [↓ak,c1,simprocAttr]<;>rfl,by omega⟩
   rintro r g ⟨bp,bt,rfl,i,n,cL,gz,aB⟩
   unfold Hc
   by_cases aN:i<l.length
   · have g0:((i:Int) < (l.length:Int))=True:=eq_true (by omega)
     by_cases a7:n≤m
     · have vv:=eq_true a7
       obtain ⟨b,off,wl,c4,X,gB,ld,jn,Kr,Em⟩:=a'.rI L (k:=.i64) aN
       have d3:=Kr g (Ext.refl g)
       have d4:=Em g (Ext.refl g)
       have eG:=j1 aN (by unfold top at hle;omega)
       have fH:l[i].s.length≤top:=by obtain ⟨_,_,_,q⟩:=a'.open X;exact q
       have aaJ:=aaK (P:=Tryz.prog) (n:=l[i].s.length) (by unfold top at fH;omega)
       simp +contextual only [bp,bt,cL,gz,ai,g0,vv,c4,d3,d4,aaJ,↓ak,au,simprocAttr]
       refine bT (Lp N l[i].l (by have:=LH aN;omega) _ wl g gB) ?_
       rintro x g2 ⟨⟨y,rfl⟩,rfl⟩
       simp +contextual only [bp,bt,cL,gz,eG,↓ak,au,simprocAttr]
       exact ⟨⟨i+1,_,rfl,rfl,aN⟩,by omega⟩
     · have vv:=eq_false a7
       simp +contextual only [bp,bt,cL,gz,ai,g0,vv,↓ak,au,simprocAttr]
       exact ⟨_,rfl⟩
   · have g0:((i:Int) < (l.length:Int))=False:=eq_false (by omega)
     simp +contextual only [bp,bt,cL,gz,ai,g0,↓ak,au,simprocAttr]
     exact ⟨_,rfl⟩
theorem Yw (l:List a') (m:Int) (v:V) (h:ae) (L:cF Any h 5 (l.map a'.enc) v):bF Tryz.prog 8 [v,.int .i64 m] h fun x aa=>(∃b,x=.bool b)∧aa=h:=by
 refine Rl rfl (db ?_)
 unfold j_
 simp +contextual only [↓ak,au,simprocAttr]
 refine bT (Lp _ l (Nat.lt_succ_self _) m v h L) ?_
 rintro x g2 ⟨⟨y,rfl⟩,rfl⟩
 simp +contextual only [↓ak,au,simprocAttr]
 exact ⟨_,rfl⟩
set_option maxHeartbeats 1000000 in
theorem HD:∀(N:Nat) (l:List a'),ek l<N→N≤1000000000→∀(v:V) (h:ae),cF Any h 5 (l.map a'.enc) v→bF Tryz.prog 10 [v] h fun x aa=>cF (nR h) aa 5 (l.map a'.enc) x∧Ext h aa
 | 0,l,aQ,_,_,_,_=>by omega
 | N+1,l,aQ,bw,v,h,L=>by
   have ai:=L.len
   have hle:=L.le
   rw [List.length_map] at ai hle
   refine Pg rfl (db ?_)
   unfold Bh
   simp +contextual only [↓ak,au,simprocAttr]
   refine gu (fun r g=>r 0=v∧∃(i:Nat) (w:V),r 3=w∧r 4=.int .i64 i∧i≤l.length∧ja h.next (nR h) g 5 ((l.take i).map a'.enc) w∧Ext h g) (fun r g=>l.length - (r 4).toN) ?_ ?_
   · exact ⟨by simp only [↓ak,c1,simprocAttr],0,.cq,by simp only [↓ak,c1,simprocAttr],by simp only [↓ak,c1,simprocAttr]<;>rfl,by omega,ja.nil _ _ _ _,Ext.refl h⟩
   rintro r g ⟨bp,i,w,bQ,fW,aB,W,E⟩
   unfold G4
   have yN:=wK l
   by_cases aN:i<l.length
   · have g0:((i:Int) < (l.length:Int))=True:=eq_true (by omega)
     obtain ⟨b,off,wl,c4,X,gB,ld,jn,Kr,Em⟩:=a'.rI (L.ext E) (k:=.i64) aN
     have d0:=ld g (Ext.refl g)
     obtain ⟨g1,ed,bu,Z⟩:=j' g [.int .i64 0,.int .i64 0,.int .i64 0,.str [],.cq] [.int .i64 l[i].k,.int .i64 l[i].n,.int .i64 l[i].a,.str l[i].s,wl]
     have d4:=Em g1 bu
     have eG:=j1 aN (by unfold top at hle;omega)
     have ol:=gB.one
     simp +contextual only [bp,bQ,fW,ai,g0,c4,d0,d4,ed,ol.1,ol.2.1,↓ak,au,simprocAttr]
     refine bT (HD N l[i].l (by have:=LH aN;omega) (by omega) wl g1 (gB.ext bu)) ?_
     rintro y g2 ⟨Y,dE⟩
     have uL:=Z.ext dE
     have gh:=Y.one
     have ad5:=Z.lt
     have ac4:Ext g g2:=bu.trans dE
     have NS:=uL.put [.int .i64 l[i].k,.int .i64 l[i].n,.int .i64 l[i].a,.str l[i].s,y]
     have NQ:=Y.set (b:=aH g.next) (fun q=>by unfold nR at q;rw [dR] at q;omega) (.bk [.int .i64 l[i].k,.int .i64 l[i].n,.int .i64 l[i].a,.str l[i].s,y] 0 false)
     have M':Ext g (g2.set (aH g.next) (.bk [.int .i64 l[i].k,.int .i64 l[i].n,.int .i64 l[i].a,.str l[i].s,y] 0 false)):=ac4.set (Nat.le_refl _) _
     have hw:∀b,nR g1 b→nR h b∧¬w.bd b:=fun b q=>by
      have:=E.next
      unfold nR at q ⊢
      refine ⟨by omega,fun z=>?_⟩
      have:=W.ZS z
      unfold Old at this
      omega
     have ao:ct (fun b=>nR h b∧¬w.bd b) (g2.set (aH g.next) (.bk [.int .i64 l[i].k,.int .i64 l[i].n,.int .i64 l[i].a,.str l[i].s,y] 0 false)) l[i].enc [.int .i64 l[i].k,.int .i64 l[i].n,.int .i64 l[i].a,.str l[i].s,y]:=by
      rw [E3]
      have DW:l[i].s.length≤top:=by obtain ⟨_,_,_,q⟩:=a'.open X;exact q
      exact .i (.i (.i (.s DW ((NQ.k8 hw).cons .nil))))
     have xq:=W.ext M'
     have lX:=E.trans M'
     simp +contextual only [bp,bQ,fW,uL.g,gh.1,gh.2.1,↓ak,au,simprocAttr]
     have n3:(g2.set (aH g.next) (.bk [.int .i64 l[i].k,.int .i64 l[i].n,.int .i64 l[i].a,.str l[i].s,y] 0 false)).next=g2.next:=lL ..
     generalize g2.set (aH g.next) (.bk [.int .i64 l[i].k,.int .i64 l[i].n,.int .i64 l[i].a,.str l[i].s,y] 0 false)=g3 at *
     obtain ⟨al,g4,aj,ay,aK,bE,dh⟩:=xq.add ao (by omega) lX.next (by rw [List.length_map,List.length_take];unfold top;omega) rfl
     rw [n3] at aj
     simp +contextual only [bp,bQ,fW,NS.g,gh.1,gh.2.1,aj,eG,↓ak,au,simprocAttr]
     refine ⟨⟨i+1,rfl,aN,?_,lX.nz aK fun b af=>W.base af⟩,by omega⟩
     rw [take_one aN,List.map_append]
     exact ay
   · have g0:((i:Int) < (l.length:Int))=False:=eq_false (by omega)
     rw [List.take_of_length_le (by omega)] at W
     simp +contextual only [bp,bQ,fW,ai,g0,↓ak,au,simprocAttr]
     exact ⟨W.fH (by rw [List.length_map];exact hle) (fun _ q=>q) fun _ q=>q,E⟩
set_option maxHeartbeats 2000000 in
theorem Mi:∀(N:Nat),(∀(t:a'),2 * t.size<N→∀(ab ws:List V) (h:ae),ct Any h t.enc ab→ct Any h t.enc ws→bF Tryz.prog 20 [.agg ab,.agg ws] h fun x aa=>x=.bool true∧Ext h aa)∧
 (∀(l:List a'),2 * ek l+1<N→∀(v w:V) (h:ae),cF Any h 5 (l.map a'.enc) v→cF Any h 5 (l.map a'.enc) w→bF Tryz.prog 17 [v,w] h fun x aa=>x=.bool true∧Ext h aa)
 | 0=>⟨fun t q=>by omega,fun l q=>by omega⟩
 | N+1=>by
   obtain ⟨D8,D9⟩:=Mi N
   refine ⟨fun t aQ ab ws h H cN=>?_,fun l aQ v w h L qz=>?_⟩
   · obtain ⟨dI,rfl,L,_⟩:=a'.open H
     obtain ⟨wl,rfl,qz,_⟩:=a'.open cN
     have bZ:=size_eq t
     have ol:=L.one
     have gx:=qz.one
     refine PZ rfl (db ?_)
     unfold BC
     obtain ⟨U,aj,aE,ee⟩:=iB h [.int .i64 t.k,.int .i64 t.n,.int .i64 t.a,.str t.s,dI]
     obtain ⟨ad,ay,aM,gi⟩:=iB U [.int .i64 t.k,.int .i64 t.n,.int .i64 t.a,.str t.s,wl]
     have Nd:=ee.ext aM
     simp +contextual only [ol.1,ol.2.1,gx.1,gx.2.1,aj,ay,Nd.g,gi.g,decide_true,↓ak,au,simprocAttr]
     refine bT (D9 t.l (by omega) dI wl ad (L.ext (aE.trans aM)) (qz.ext (aE.trans aM))) ?_
     rintro x aI ⟨rfl,b9⟩
     simp +contextual only [↓ak,au,simprocAttr]
     exact (aE.trans aM).trans b9
   · have ai:=L.len
     have kj:=qz.len
     have hle:=L.le
     rw [List.length_map] at ai hle kj
     refine PW rfl (db ?_)
     unfold n_
     simp +contextual only [ai,kj,↓ak,au,simprocAttr]
     refine gu (fun r g=>r 0=v∧r 1=w∧∃i:Nat,r 5=.int .i64 i∧i≤l.length∧Ext h g) (fun r g=>l.length - (r 5).toN) ?_ ?_
     · exact ⟨by simp only [↓ak,c1,simprocAttr],by simp only [↓ak,c1,simprocAttr],0,by simp only [↓ak,c1,simprocAttr]<;>rfl,by omega,Ext.refl h⟩
     rintro r g ⟨bp,bt,i,cL,aB,E⟩
     unfold Hb
     by_cases aN:i<l.length
     · have g0:((i:Int) < (l.length:Int))=True:=eq_true (by omega)
       obtain ⟨b,off,ul,c4,X,gB,ld⟩:=a'.nu (L.ext E) (k:=.i64) aN
       obtain ⟨ca,zn,aex,iK,xr,NN,lG⟩:=a'.nu (qz.ext E) (k:=.i64) aN
       have d1:=ld g (Ext.refl g)
       have d2:=lG g (Ext.refl g)
       have eG:=j1 aN (by unfold top at hle;omega)
       have bZ:=nC (List.getElem_mem aN)
       simp +contextual only [bp,bt,cL,ai,g0,c4,iK,d1,d2,↓ak,au,simprocAttr]
       refine bT (D8 l[i] (by omega) _ _ g X xr) ?_
       rintro x g2 ⟨rfl,aM⟩
       have d3:=ld g2 aM
       have d4:=lG g2 aM
       simp +contextual only [bp,bt,cL,eG,d1,d2,d3,d4,↓ak,au,simprocAttr]
       exact ⟨⟨i+1,rfl,aN,E.trans aM⟩,by omega⟩
     · have g0:((i:Int) < (l.length:Int))=False:=eq_false (by omega)
       simp +contextual only [bp,bt,cL,ai,g0,↓ak,au,simprocAttr]
       exact E
theorem abu (l:List a') (v w:V) (h:ae) (L:cF Any h 5 (l.map a'.enc) v) (qz:cF Any h 5 (l.map a'.enc) w):bF Tryz.prog 17 [v,w] h fun x aa=>x=.bool true∧Ext h aa:=(Mi _).2 l (Nat.lt_succ_self _) v w h L qz
theorem Mx (k n a:Int) (t z:List UInt8) (h:ae) (aC:t.length≤100000):bF Tryz.prog 73 [.agg [.int .i64 k,.int .i64 n,.int .i64 a,.str t],.str z] h fun x aa=>x=.bool (decide (z=(if k=5 then 39::t else t)))∧Ext h aa:=by
 refine Q5 rfl (db ?_)
 unfold BX
 obtain ⟨U,aj,aE,ee⟩:=iB h [.int .i64 k,.int .i64 n,.int .i64 a,.str t]
 by_cases aA:k=5
 · have ai:(1+t.length≤17179869184)=True:=eq_true (by omega)
   simp +contextual only [aj,ee.g,eq_true aA,ai,if_true,List.cons_append,List.nil_append,↓ak,au,simprocAttr]
   exact aE
 · simp +contextual only [aj,ee.g,eq_false aA,if_false,↓ak,au,simprocAttr]
   exact aE
theorem KB:∀(f:Nat) (r:List UInt8) (p:Nat) (ws:List bS),kq f r p=.ok ws→∀w ∈ ws,w.kind=3∨w.kind=4∨w.kind=5→w.text.length≤64:=fun f r p ws h w hw aA=>by
 obtain ⟨_,g,_⟩:=EC (v_ f r p ws h w hw aA)
 exact g
set_option maxHeartbeats 2000000 in
theorem FY (k:Int) (aA:k=3∨k=4∨k=5) (s:List UInt8) (h:ae):bF Tryz.prog 62 [.int .i64 k,.str s] h fun x aa=>x=.bool (dm k s)∧Ext h aa:=by
 rw [←acS aA]
 refine QN rfl (db ?_)
 unfold BQ
 by_cases CJ:(64:Int) < (s.length:Int)
 · have hw:o7 k s=false:=by unfold o7;rw [decide_eq_false (show ¬s.length≤64 by omega)];simp
   simp +contextual only [eq_true CJ,hw,↓ak,au,simprocAttr]
   exact Ext.refl _
 by_cases ml:s=[]
 · have hw:o7 k s=false:=by unfold o7;rw [ml];simp
   simp +contextual only [eq_false CJ,eq_true ml,hw,↓ak,au,simprocAttr]
   exact Ext.refl _
 have f64:=eq_false CJ
 have Iw:=eq_false ml
 have hw:o7 k s=(match iP (if k=5 then 39::s else s) with
  | .ok [w]=>decide (w.kind=k)&&decide (w.pos=0)&&decide (w.text≠[])&&decide ((if k=5 then 39::s else s)=(if w.kind=5 then 39::w.text else w.text))
  | _=>false):=by
  unfold o7
  rw [decide_eq_true (show s.length≤64 by omega),decide_eq_true ml]
  rfl
 rw [hw]
 clear hw
 have Vc:(1+s.length≤17179869184)=True:=eq_true (by omega)
 generalize bq:(if k=5 then 39::s else s)=z
 have cp:(k=5∧z=39::s)∨(¬k=5∧z=s):=by
  by_cases cp:k=5
  · exact .inl ⟨cp,by rw [←bq,if_pos cp]⟩
  · exact .inr ⟨cp,by rw [←bq,if_neg cp]⟩
 clear bq
 rcases cp with ⟨cp,bq⟩ | ⟨cp,bq⟩
 · simp +contextual only [f64,Iw,eq_true cp,Vc,List.cons_append,List.nil_append,↓ak,au,simprocAttr]
   rw [←bq]
   clear bq
   refine bT (KD z h) ?_
   rintro x U ⟨aE,ao⟩
   cases cy:iP z with
   | error e=>
     rw [cy] at ao
     simp only at ao
     subst ao
     obtain ⟨ad,ay,aM,gi⟩:=j' U [.int .i64 0,.int .i64 0] [.int .i64 e.1,.int .i64 e.2]
     by_cases he:e.1=0
     · simp +contextual only [ay,gi.g,eq_true he,↓ak,au,simprocAttr]
       exact aE.trans aM
     · simp +contextual only [ay,gi.g,eq_false he,↓ak,au,simprocAttr]
       exact aE.trans aM
   | ok ws=>
     rw [cy] at ao
     simp only at ao
     obtain ⟨v,rfl,S⟩:=ao
     obtain ⟨ad,ay,aM,gi⟩:=j' U [.int .i64 0,.int .i64 0] [.int .i64 0,.int .i64 0]
     have jz:=(S.ext aM).v
     have ai:=jz.len
     have cG:=jz.one
     match ws,cy,jz,ai with
     | [],_,jz,ai=>
       have eu:iO v=some (.int .i64 0):=ai
       simp +contextual only [ay,gi.g,eu,cG.1,cG.2.1,↓ak,au,simprocAttr]
       exact aE.trans aM
     | [w],cy,jz,ai=>
       have eu:iO v=some (.int .i64 1):=ai
       obtain ⟨bL,cT,rA,l2⟩:=jz.c4 (k:=.i64) (i:=0) (by simp)
       have oD:jS 4 v (.int .i64 0)=some (.ptr bL cT):=by simpa using rA
       have d0:hc (ad.get bL) cT=some (.int .i64 w.kind):=by have:=l2.fS (i:=0) (by simp [gW,bS.enc]);simpa [gW,bS.enc] using this
       have d2:hc (ad.get bL) (cT+2)=some (.int .i64 w.pos):=by have:=l2.fS (i:=2) (by simp [gW,bS.enc]);simpa [gW,bS.enc] using this
       have d3:hc (ad.get bL) (cT+3)=some (.str w.text):=by have:=l2.fS (i:=3) (by simp [gW,bS.enc]);simpa [gW,bS.enc] using this
       have fo:mA 4 (ad.get bL) cT=some (.agg [.int .i64 w.kind,.int .i64 w.num,.int .i64 w.pos,.str w.text]):=by have:=l2.hY (i:=0) (n:=4) (by simp [gW,bS.enc]);simpa [gW,bS.enc] using this
       by_cases bC:w.kind=k
       · by_cases bY:(w.pos:Int)=0
         · by_cases c3:w.text=[]
           · have l4:((0:Int) < (w.text.length:Int))=False:=by rw [c3];simp
             simp +contextual only [ay,gi.g,eu,cG.1,cG.2.1,oD,d0,d2,d3,fo,eq_true bC,eq_true bY,l4,↓ak,au,simprocAttr]
             exact ⟨by rw [c3];simp,aE.trans aM⟩
           · have l4:((0:Int) < (w.text.length:Int))=True:=eq_true (by have:=List.length_pos_iff.2 c3;omega)
             have aC:w.text.length≤64:=by
              have hm:w.kind=3∨w.kind=4∨w.kind=5:=by rw [bC];exact aA
              unfold iP at cy
              split at cy
              · cases cy
              · split at cy
                · cases cy
                · exact KB _ _ _ _ cy w (by simp) hm
             simp +contextual only [ay,gi.g,eu,cG.1,cG.2.1,oD,d0,d2,d3,fo,eq_true bC,eq_true bY,l4,↓ak,au,simprocAttr]
             refine bT (Mx _ _ _ w.text z ad (by omega)) ?_
             rintro x aI ⟨rfl,b9⟩
             simp +contextual only [↓ak,au,simprocAttr]
             refine ⟨?_,(aE.trans aM).trans b9⟩
             have u1:w.pos=0:=by omega
             simp [bC,u1,c3]
         · simp +contextual only [ay,gi.g,eu,cG.1,cG.2.1,oD,d0,d2,d3,fo,eq_true bC,eq_false bY,↓ak,au,simprocAttr]
           exact ⟨by have:¬w.pos=0:=by omega
                     simp [this],aE.trans aM⟩
       · simp +contextual only [ay,gi.g,eu,cG.1,cG.2.1,oD,d0,d2,d3,fo,eq_false bC,↓ak,au,simprocAttr]
         first | exact aE.trans aM | exact ⟨by simp [bC],aE.trans aM⟩
     | w::bI::ws,_,jz,ai=>
       have eu:(((ws.length+2:Nat):Int)=1)=False:=eq_false (by omega)
       have Dm:iO v=some (.int .i64 ((ws.length+2:Nat):Int)):=ai
       simp +contextual only [ay,gi.g,Dm,eu,cG.1,cG.2.1,↓ak,au,simprocAttr]
       exact aE.trans aM
 · simp +contextual only [f64,Iw,eq_false cp,↓ak,au,simprocAttr]
   rw [←bq]
   clear bq
   refine bT (KD z h) ?_
   rintro x U ⟨aE,ao⟩
   cases cy:iP z with
   | error e=>
     rw [cy] at ao
     simp only at ao
     subst ao
     obtain ⟨ad,ay,aM,gi⟩:=j' U [.int .i64 0,.int .i64 0] [.int .i64 e.1,.int .i64 e.2]
     by_cases he:e.1=0
     · simp +contextual only [ay,gi.g,eq_true he,↓ak,au,simprocAttr]
       exact aE.trans aM
     · simp +contextual only [ay,gi.g,eq_false he,↓ak,au,simprocAttr]
       exact aE.trans aM
   | ok ws=>
     rw [cy] at ao
     simp only at ao
     obtain ⟨v,rfl,S⟩:=ao
     obtain ⟨ad,ay,aM,gi⟩:=j' U [.int .i64 0,.int .i64 0] [.int .i64 0,.int .i64 0]
     have jz:=(S.ext aM).v
     have ai:=jz.len
     have cG:=jz.one
     match ws,cy,jz,ai with
     | [],_,jz,ai=>
       have eu:iO v=some (.int .i64 0):=ai
       simp +contextual only [ay,gi.g,eu,cG.1,cG.2.1,↓ak,au,simprocAttr]
       exact aE.trans aM
     | [w],cy,jz,ai=>
       have eu:iO v=some (.int .i64 1):=ai
       obtain ⟨bL,cT,rA,l2⟩:=jz.c4 (k:=.i64) (i:=0) (by simp)
       have oD:jS 4 v (.int .i64 0)=some (.ptr bL cT):=by simpa using rA
       have d0:hc (ad.get bL) cT=some (.int .i64 w.kind):=by have:=l2.fS (i:=0) (by simp [gW,bS.enc]);simpa [gW,bS.enc] using this
       have d2:hc (ad.get bL) (cT+2)=some (.int .i64 w.pos):=by have:=l2.fS (i:=2) (by simp [gW,bS.enc]);simpa [gW,bS.enc] using this
       have d3:hc (ad.get bL) (cT+3)=some (.str w.text):=by have:=l2.fS (i:=3) (by simp [gW,bS.enc]);simpa [gW,bS.enc] using this
       have fo:mA 4 (ad.get bL) cT=some (.agg [.int .i64 w.kind,.int .i64 w.num,.int .i64 w.pos,.str w.text]):=by have:=l2.hY (i:=0) (n:=4) (by simp [gW,bS.enc]);simpa [gW,bS.enc] using this
       by_cases bC:w.kind=k
       · by_cases bY:(w.pos:Int)=0
         · by_cases c3:w.text=[]
           · have l4:((0:Int) < (w.text.length:Int))=False:=by rw [c3];simp
             simp +contextual only [ay,gi.g,eu,cG.1,cG.2.1,oD,d0,d2,d3,fo,eq_true bC,eq_true bY,l4,↓ak,au,simprocAttr]
             exact ⟨by rw [c3];simp,aE.trans aM⟩
           · have l4:((0:Int) < (w.text.length:Int))=True:=eq_true (by have:=List.length_pos_iff.2 c3;omega)
             have aC:w.text.length≤64:=by
              have hm:w.kind=3∨w.kind=4∨w.kind=5:=by rw [bC];exact aA
              unfold iP at cy
              split at cy
              · cases cy
              · split at cy
                · cases cy
                · exact KB _ _ _ _ cy w (by simp) hm
             simp +contextual only [ay,gi.g,eu,cG.1,cG.2.1,oD,d0,d2,d3,fo,eq_true bC,eq_true bY,l4,↓ak,au,simprocAttr]
             refine bT (Mx _ _ _ w.text z ad (by omega)) ?_
             rintro x aI ⟨rfl,b9⟩
             simp +contextual only [↓ak,au,simprocAttr]
             refine ⟨?_,(aE.trans aM).trans b9⟩
             have u1:w.pos=0:=by omega
             simp [bC,u1,c3]
         · simp +contextual only [ay,gi.g,eu,cG.1,cG.2.1,oD,d0,d2,d3,fo,eq_true bC,eq_false bY,↓ak,au,simprocAttr]
           exact ⟨by have:¬w.pos=0:=by omega
                     simp [this],aE.trans aM⟩
       · simp +contextual only [ay,gi.g,eu,cG.1,cG.2.1,oD,d0,d2,d3,fo,eq_false bC,↓ak,au,simprocAttr]
         first | exact aE.trans aM | exact ⟨by simp [bC],aE.trans aM⟩
     | w::bI::ws,_,jz,ai=>
       have eu:(((ws.length+2:Nat):Int)=1)=False:=eq_false (by omega)
       have Dm:iO v=some (.int .i64 ((ws.length+2:Nat):Int)):=ai
       simp +contextual only [ay,gi.g,Dm,eu,cG.1,cG.2.1,↓ak,au,simprocAttr]
       exact aE.trans aM
theorem y5 {k:Int} (h:e4 k≠0):k=1∨k=2∨k=3∨k=4∨k=10∨k=13∨k=11∨k=12∨k=14∨k=15∨k=16∨k=20∨k=21∨k=22∨k=23∨k=24∨k=25∨k=26∨k=28∨k=35∨k=37∨k=38∨k=34∨k=36∨k=39∨k=31∨k=27∨k=29∨k=30∨k=32∨k=33∨k=45∨k=46∨k=47∨k=51∨k=52∨k=53∨k=50:=by
 cases aG:lQ k with
 | none=>exact absurd (Mb aG) h
 | some r=>
   have hm:=zX (l:=oV) aG
   simp only [oV,List.mem_cons,Prod.mk.injEq,List.not_mem_nil,or_false] at hm
   omega
theorem aae (h:ae):bF Tryz.prog 66 [] h fun x aa=>x=.slice (aH h.next) 0 8 8∧aa=h.new (.bk (mL opsL) 0 false):=by
 refine QW rfl (db ?_)
 unfold BT
 simp +contextual only [↓ak,au,simprocAttr]
 rfl
set_option maxHeartbeats 4000000 in
theorem acg (t:a') (aA:e4 t.k≠0) (ab:List V) (h:ae) (H:ct Any h t.enc ab):bF Tryz.prog 49 [.agg ab] h fun x aa=>x=.bool (r1 dm t.k t.s)∧Ext h aa:=by
 obtain ⟨dI,rfl,L,aQ⟩:=a'.open H
 have ol:=L.one
 obtain ⟨k,n,a,s,l⟩:=t
 simp only [a'.k,a'.n,a'.a,a'.s,a'.l] at *
 refine Qu rfl (db ?_)
 unfold c49
 obtain ⟨U,aj,aE,ee⟩:=iB h [.int .i64 k,.int .i64 n,.int .i64 a,.str s,dI]
 have g1:=ee.g
 clear L H
 rcases y5 aA with rfl | rfl | rfl | rfl | rfl | rfl | rfl | rfl | rfl | rfl | rfl | rfl | rfl | rfl | rfl | rfl | rfl | rfl | rfl | rfl | rfl | rfl | rfl | rfl | rfl | rfl | rfl | rfl | rfl | rfl | rfl | rfl | rfl | rfl | rfl | rfl | rfl | rfl
 · simp +contextual only [ol.1,ol.2.1,aj,g1,↓ak,au,simprocAttr]
   refine bT (nD 5 s aQ (by simp) U) ?_
   rintro x ad ⟨rfl,aM⟩
   simp +contextual only [↓ak,au,simprocAttr]
   exact ⟨by rfl,aE.trans aM⟩
 · simp +contextual only [ol.1,ol.2.1,aj,g1,↓ak,au,simprocAttr]
   refine bT (nD 3 s aQ (by simp) U) ?_
   rintro x ad ⟨rfl,aM⟩
   simp +contextual only [↓ak,au,simprocAttr]
   exact ⟨by rfl,aE.trans aM⟩
 · simp +contextual only [ol.1,ol.2.1,aj,g1,↓ak,au,simprocAttr]
   exact ⟨by rfl,aE⟩
 · simp +contextual only [ol.1,ol.2.1,aj,g1,↓ak,au,simprocAttr]
   exact ⟨by rfl,aE⟩
 · simp +contextual only [ol.1,ol.2.1,aj,g1,↓ak,au,simprocAttr]
   exact ⟨by rfl,aE⟩
 · simp +contextual only [ol.1,ol.2.1,aj,g1,↓ak,au,simprocAttr]
   exact ⟨by rfl,aE⟩
 · simp +contextual only [ol.1,ol.2.1,aj,g1,↓ak,au,simprocAttr]
   refine bT (nD 3 s aQ (by simp) U) ?_
   rintro x ad ⟨rfl,aM⟩
   simp +contextual only [↓ak,au,simprocAttr]
   exact ⟨by rfl,aE.trans aM⟩
 · simp +contextual only [ol.1,ol.2.1,aj,g1,↓ak,au,simprocAttr]
   exact ⟨by rfl,aE⟩
 · simp +contextual only [ol.1,ol.2.1,aj,g1,↓ak,au,simprocAttr]
   exact ⟨by rfl,aE⟩
 · simp +contextual only [ol.1,ol.2.1,aj,g1,↓ak,au,simprocAttr]
   exact ⟨by rfl,aE⟩
 · simp +contextual only [ol.1,ol.2.1,aj,g1,↓ak,au,simprocAttr]
   refine bT (nD 4 s aQ (by simp) U) ?_
   rintro x ad ⟨rfl,aM⟩
   simp +contextual only [↓ak,au,simprocAttr]
   exact ⟨by rfl,aE.trans aM⟩
 · simp +contextual only [ol.1,ol.2.1,aj,g1,↓ak,au,simprocAttr]
   exact ⟨by rfl,aE⟩
 · simp +contextual only [ol.1,ol.2.1,aj,g1,↓ak,au,simprocAttr]
   have a6:r1 dm 21 s=decide ((s.length:Int)≤4096):=by
    show decide (s.length≤4096)=_
    exact decide_eq_decide.2 ⟨fun q=>by omega,fun q=>by omega⟩
   exact ⟨by rw [a6],aE⟩
 · simp +contextual only [ol.1,ol.2.1,aj,g1,↓ak,au,simprocAttr]
   exact ⟨by rfl,aE⟩
 · simp +contextual only [ol.1,ol.2.1,aj,g1,↓ak,au,simprocAttr]
   exact ⟨by rfl,aE⟩
 · simp +contextual only [ol.1,ol.2.1,aj,g1,↓ak,au,simprocAttr]
   refine bT (nD 3 s aQ (by simp) U) ?_
   rintro x ad ⟨rfl,aM⟩
   simp +contextual only [↓ak,au,simprocAttr]
   exact ⟨by rfl,aE.trans aM⟩
 · simp +contextual only [ol.1,ol.2.1,aj,g1,↓ak,au,simprocAttr]
   refine bT (nD 4 s aQ (by simp) U) ?_
   rintro x ad ⟨rfl,aM⟩
   simp +contextual only [↓ak,au,simprocAttr]
   exact ⟨by rfl,aE.trans aM⟩
 · simp +contextual only [ol.1,ol.2.1,aj,g1,↓ak,au,simprocAttr]
   exact ⟨by rfl,aE⟩
 · simp +contextual only [ol.1,ol.2.1,aj,g1,↓ak,au,simprocAttr]
   exact ⟨by rfl,aE⟩
 · simp +contextual only [ol.1,ol.2.1,aj,g1,↓ak,au,simprocAttr]
   exact ⟨by rfl,aE⟩
 · simp +contextual only [ol.1,ol.2.1,aj,g1,↓ak,au,simprocAttr]
   exact ⟨by rfl,aE⟩
 · simp +contextual only [ol.1,ol.2.1,aj,g1,↓ak,au,simprocAttr]
   refine bT (aae U) ?_
   rintro x ad ⟨rfl,rfl⟩
   have aM:Ext U (U.new (.bk (mL opsL) 0 false)):=(Ext.refl U).new _
   have g2:=(ee.ext aM).g
   simp +contextual only [g1,g2,↓ak,au,simprocAttr]
   refine eR (D' s opsL _ 8 _ (by decide) (by rw [l9])) ?_
   simp +contextual only [g1,g2,↓ak,au,simprocAttr]
   exact ⟨by rfl,aE.trans aM⟩
 · simp +contextual only [ol.1,ol.2.1,aj,g1,↓ak,au,simprocAttr]
   exact ⟨by rfl,aE⟩
 · simp +contextual only [ol.1,ol.2.1,aj,g1,↓ak,au,simprocAttr]
   exact ⟨by rfl,aE⟩
 · simp +contextual only [ol.1,ol.2.1,aj,g1,↓ak,au,simprocAttr]
   exact ⟨by rfl,aE⟩
 · simp +contextual only [ol.1,ol.2.1,aj,g1,↓ak,au,simprocAttr]
   exact ⟨by rfl,aE⟩
 · simp +contextual only [ol.1,ol.2.1,aj,g1,↓ak,au,simprocAttr]
   exact ⟨by rfl,aE⟩
 · simp +contextual only [ol.1,ol.2.1,aj,g1,↓ak,au,simprocAttr]
   exact ⟨by rfl,aE⟩
 · simp +contextual only [ol.1,ol.2.1,aj,g1,↓ak,au,simprocAttr]
   exact ⟨by rfl,aE⟩
 · simp +contextual only [ol.1,ol.2.1,aj,g1,↓ak,au,simprocAttr]
   exact ⟨by rfl,aE⟩
 · simp +contextual only [ol.1,ol.2.1,aj,g1,↓ak,au,simprocAttr]
   exact ⟨by rfl,aE⟩
 · simp +contextual only [ol.1,ol.2.1,aj,g1,↓ak,au,simprocAttr]
   exact ⟨by rfl,aE⟩
 · simp +contextual only [ol.1,ol.2.1,aj,g1,↓ak,au,simprocAttr]
   refine bT (nD 3 s aQ (by simp) U) ?_
   rintro x ad ⟨rfl,aM⟩
   simp +contextual only [↓ak,au,simprocAttr]
   exact ⟨by rfl,aE.trans aM⟩
 · simp +contextual only [ol.1,ol.2.1,aj,g1,↓ak,au,simprocAttr]
   refine bT (nD 4 s aQ (by simp) U) ?_
   rintro x ad ⟨rfl,aM⟩
   simp +contextual only [↓ak,au,simprocAttr]
   exact ⟨by rfl,aE.trans aM⟩
 · simp +contextual only [ol.1,ol.2.1,aj,g1,↓ak,au,simprocAttr]
   refine bT (nD 4 s aQ (by simp) U) ?_
   rintro x ad ⟨rfl,aM⟩
   simp +contextual only [↓ak,au,simprocAttr]
   exact ⟨by rfl,aE.trans aM⟩
 · simp +contextual only [ol.1,ol.2.1,aj,g1,↓ak,au,simprocAttr]
   exact ⟨by rfl,aE⟩
 · simp +contextual only [ol.1,ol.2.1,aj,g1,↓ak,au,simprocAttr]
   exact ⟨by rfl,aE⟩
 · simp +contextual only [ol.1,ol.2.1,aj,g1,↓ak,au,simprocAttr]
   refine bT (nD 3 s aQ (by simp) U) ?_
   rintro x ad ⟨rfl,aM⟩
   simp +contextual only [↓ak,au,simprocAttr]
   exact ⟨by rfl,aE.trans aM⟩
set_option maxHeartbeats 4000000 in
theorem ZD (t:a') (aA:e4 t.k≠0) (ab:List V) (h:ae) (H:ct Any h t.enc ab):bF Tryz.prog 50 [.agg ab] h fun x aa=>x=.bool (gK t.k t.n t.l.length)∧Ext h aa:=by
 obtain ⟨dI,rfl,L,aQ⟩:=a'.open H
 have ol:=L.one
 have ai:=L.len
 rw [List.length_map] at ai
 obtain ⟨k,n,a,s,l⟩:=t
 simp only [a'.k,a'.n,a'.a,a'.s,a'.l] at *
 refine Qy rfl (db ?_)
 unfold BM
 obtain ⟨U,aj,aE,ee⟩:=iB h [.int .i64 k,.int .i64 n,.int .i64 a,.str s,dI]
 have g1:=ee.g
 clear L H
 rcases y5 aA with rfl | rfl | rfl | rfl | rfl | rfl | rfl | rfl | rfl | rfl | rfl | rfl | rfl | rfl | rfl | rfl | rfl | rfl | rfl | rfl | rfl | rfl | rfl | rfl | rfl | rfl | rfl | rfl | rfl | rfl | rfl | rfl | rfl | rfl | rfl | rfl | rfl | rfl
 · simp +contextual only [ol.1,ol.2.1,aj,g1,↓ak,au,simprocAttr]
   exact ⟨by rfl,aE⟩
 · simp +contextual only [ol.1,ol.2.1,aj,g1,↓ak,au,simprocAttr]
   exact ⟨by rfl,aE⟩
 · simp +contextual only [ol.1,ol.2.1,aj,g1,↓ak,au,simprocAttr]
   exact ⟨by rfl,aE⟩
 · simp +contextual only [ol.1,ol.2.1,aj,g1,↓ak,au,simprocAttr]
   exact ⟨by rfl,aE⟩
 · simp +contextual only [ol.1,ol.2.1,aj,g1,↓ak,au,simprocAttr]
   exact ⟨by rfl,aE⟩
 · simp +contextual only [ol.1,ol.2.1,aj,g1,↓ak,au,simprocAttr]
   exact ⟨by rfl,aE⟩
 · simp +contextual only [ol.1,ol.2.1,aj,g1,↓ak,au,simprocAttr]
   exact ⟨by rfl,aE⟩
 · by_cases bL:-1073741824≤n
   · simp +contextual only [ol.1,ol.2.1,aj,g1,sV bL,↓ak,au,simprocAttr]
     exact ⟨by simp [gK,bL],aE⟩
   · simp +contextual only [ol.1,ol.2.1,aj,g1,ve (Int.not_le.1 bL),eq_false bL,↓ak,au,simprocAttr]
     exact ⟨by simp [gK,bL],aE⟩
 · by_cases bL:n=0
   · simp +contextual only [ol.1,ol.2.1,aj,g1,eq_true bL,↓ak,au,simprocAttr]
     exact ⟨by simp [gK,bL],aE⟩
   · simp +contextual only [ol.1,ol.2.1,aj,g1,eq_false bL,↓ak,au,simprocAttr]
     exact ⟨by simp [gK,bL],aE⟩
 · simp +contextual only [ol.1,ol.2.1,aj,g1,↓ak,au,simprocAttr]
   exact ⟨by rfl,aE⟩
 · simp +contextual only [ol.1,ol.2.1,aj,g1,↓ak,au,simprocAttr]
   exact ⟨by rfl,aE⟩
 · by_cases bL:-1073741824≤n
   · simp +contextual only [ol.1,ol.2.1,aj,g1,sV bL,↓ak,au,simprocAttr]
     exact ⟨by simp [gK,bL],aE⟩
   · simp +contextual only [ol.1,ol.2.1,aj,g1,ve (Int.not_le.1 bL),eq_false bL,↓ak,au,simprocAttr]
     exact ⟨by simp [gK,bL],aE⟩
 · simp +contextual only [ol.1,ol.2.1,aj,g1,↓ak,au,simprocAttr]
   exact ⟨by rfl,aE⟩
 · simp +contextual only [ol.1,ol.2.1,aj,g1,↓ak,au,simprocAttr]
   exact ⟨by rfl,aE⟩
 · by_cases bL:n=0
   · simp +contextual only [ol.1,ol.2.1,aj,g1,eq_true bL,↓ak,au,simprocAttr]
     exact ⟨by simp [gK,bL],aE⟩
   · simp +contextual only [ol.1,ol.2.1,aj,g1,eq_false bL,↓ak,au,simprocAttr]
     exact ⟨by simp [gK,bL],aE⟩
 · simp +contextual only [ol.1,ol.2.1,aj,g1,↓ak,au,simprocAttr]
   exact ⟨by rfl,aE⟩
 · simp +contextual only [ol.1,ol.2.1,aj,g1,↓ak,au,simprocAttr]
   exact ⟨by rfl,aE⟩
 · simp +contextual only [ol.1,ol.2.1,aj,g1,↓ak,au,simprocAttr]
   exact ⟨by rfl,aE⟩
 · simp +contextual only [ol.1,ol.2.1,aj,g1,↓ak,au,simprocAttr]
   exact ⟨by rfl,aE⟩
 · simp +contextual only [ol.1,ol.2.1,aj,g1,↓ak,au,simprocAttr]
   exact ⟨by rfl,aE⟩
 · simp +contextual only [ol.1,ol.2.1,aj,g1,↓ak,au,simprocAttr]
   exact ⟨by rfl,aE⟩
 · simp +contextual only [ol.1,ol.2.1,aj,g1,↓ak,au,simprocAttr]
   exact ⟨by rfl,aE⟩
 · simp +contextual only [ol.1,ol.2.1,aj,g1,↓ak,au,simprocAttr]
   exact ⟨by rfl,aE⟩
 · simp +contextual only [ol.1,ol.2.1,aj,g1,↓ak,au,simprocAttr]
   exact ⟨by rfl,aE⟩
 · simp +contextual only [ol.1,ol.2.1,aj,g1,↓ak,au,simprocAttr]
   exact ⟨by rfl,aE⟩
 · simp +contextual only [ol.1,ol.2.1,aj,g1,↓ak,au,simprocAttr]
   exact ⟨by rfl,aE⟩
 · simp +contextual only [ol.1,ol.2.1,aj,g1,↓ak,au,simprocAttr]
   exact ⟨by rfl,aE⟩
 · simp +contextual only [ol.1,ol.2.1,aj,g1,↓ak,au,simprocAttr]
   exact ⟨by rfl,aE⟩
 · simp +contextual only [ol.1,ol.2.1,aj,g1,↓ak,au,simprocAttr]
   exact ⟨by rfl,aE⟩
 · simp +contextual only [ol.1,ol.2.1,aj,g1,↓ak,au,simprocAttr]
   exact ⟨by rfl,aE⟩
 · simp +contextual only [ol.1,ol.2.1,aj,g1,↓ak,au,simprocAttr]
   exact ⟨by rfl,aE⟩
 · simp +contextual only [ol.1,ol.2.1,aj,g1,↓ak,au,simprocAttr]
   exact ⟨by rfl,aE⟩
 · simp +contextual only [ol.1,ol.2.1,aj,g1,↓ak,au,simprocAttr]
   exact ⟨by rfl,aE⟩
 · simp +contextual only [ol.1,ol.2.1,aj,g1,↓ak,au,simprocAttr]
   exact ⟨by rfl,aE⟩
 · simp +contextual only [ol.1,ol.2.1,aj,g1,↓ak,au,simprocAttr]
   exact ⟨by rfl,aE⟩
 · simp +contextual only [ol.1,ol.2.1,aj,g1,↓ak,au,simprocAttr]
   exact ⟨by rfl,aE⟩
 · simp +contextual only [ol.1,ol.2.1,aj,g1,↓ak,au,simprocAttr]
   exact ⟨by rfl,aE⟩
 · by_cases bL:0≤n
   · by_cases ca:n≤64
     · simp +contextual only [ol.1,ol.2.1,aj,g1,ai,sV bL,eq_true ca,↓ak,au,simprocAttr]
       exact ⟨by simp [gK,bL,ca],aE⟩
     · simp +contextual only [ol.1,ol.2.1,aj,g1,sV bL,eq_false ca,↓ak,au,simprocAttr]
       exact ⟨by simp [gK,bL,ca],aE⟩
   · simp +contextual only [ol.1,ol.2.1,aj,g1,ve (Int.not_le.1 bL),eq_false bL,↓ak,au,simprocAttr]
     exact ⟨by simp [gK,bL],aE⟩
set_option maxHeartbeats 1000000 in
theorem gv (x m:Int) (hm:m≤2000000000) (h:ae):bF Tryz.prog 67 [.int .i64 x,.int .i64 m] h fun y aa=>dy h.next aa 1 y (List.replicate m.toNat x).length (jl (List.replicate m.toNat x))∧Ext h aa:=by
 refine QZ rfl (db ?_)
 unfold BU
 simp +contextual only [↓ak,au,simprocAttr]
 refine gu (fun r g=>r 0=.int .i64 x∧r 1=.int .i64 m∧∃(i:Nat) (w:V),r 5=w∧r 6=.int .i64 i∧i≤m.toNat∧dy h.next g 1 w i (jl (List.replicate i x))∧Ext h g) (fun r g=>m.toNat - (r 6).toN) ?_ ?_
 · exact ⟨by simp only [↓ak,c1,simprocAttr],by simp only [↓ak,c1,simprocAttr],0,.cq,by simp only [↓ak,c1,simprocAttr],by simp only [↓ak,c1,simprocAttr]<;>rfl,by omega,⟨rfl,rfl⟩,Ext.refl h⟩
 rintro r g ⟨bp,bt,i,w,cL,gz,aB,W,E⟩
 unfold Hk
 by_cases aN:i<m.toNat
 · have g0:((i:Int)<m)=True:=eq_true (by omega)
   have eG:=j1 aN (by omega)
   obtain ⟨al,g4,aj,ay,aK,bE,dh⟩:=uN (cs:=[.int .i64 x]) (by omega) W E.next (by unfold top;omega) rfl rfl
   simp +contextual only [bp,bt,cL,gz,g0,aj,eG,↓ak,au,simprocAttr]
   refine ⟨⟨i+1,rfl,aN,?_,E.nz aK fun b af=>W.base af⟩,by omega⟩
   rw [List.replicate_succ',Ed]
   exact ay
 · have g0:((i:Int)<m)=False:=eq_false (by omega)
   have:i=m.toNat:=by omega
   subst this
   simp +contextual only [bp,bt,cL,gz,g0,↓ak,au,simprocAttr]
   exact ⟨by rw [List.length_replicate];exact W,E⟩
theorem eF {k n:Int} {l:List a'} {gs:List Int} {p q:Prop} [Decidable p] [Decidable q] (h:cP k n l=(gs,decide p)) (e:p↔q):cP k n l=(gs,decide q):=h.trans (by rw [decide_eq_decide.2 e])
set_option maxHeartbeats 4000000 in
theorem T2 (t:a') (aA:e4 t.k≠0) (a7:gK t.k t.n t.l.length=true) (h':t.l.length≤1000000000) (ab:List V) (h:ae) (H:ct Any h t.enc ab):
 bF Tryz.prog 51 [.agg ab] h fun x aa=>∃v,x=.tuple [v,.bool (cP t.k t.n t.l).2]∧cF Any aa 1 ((cP t.k t.n t.l).1.map a1.encI) v∧Ext h aa:=by
 obtain ⟨dI,rfl,L,aQ⟩:=a'.open H
 have ol:=L.one
 have ai:=L.len
 rw [List.length_map] at ai
 obtain ⟨k,n,a,s,l⟩:=t
 simp only [a'.k,a'.n,a'.a,a'.s,a'.l] at *
 refine QB rfl (db ?_)
 unfold c51
 obtain ⟨U,aj,aE,ee⟩:=iB h [.int .i64 k,.int .i64 n,.int .i64 a,.str s,dI]
 have g1:=ee.g
 have AR:=L.ext aE
 clear L H
 rcases y5 aA with rfl | rfl | rfl | rfl | rfl | rfl | rfl | rfl | rfl | rfl | rfl | rfl | rfl | rfl | rfl | rfl | rfl | rfl | rfl | rfl | rfl | rfl | rfl | rfl | rfl | rfl | rfl | rfl | rfl | rfl | rfl | rfl | rfl | rfl | rfl | rfl | rfl | rfl
 · rw [eF (q:=(l.length:Int)=0) (show cP 1 n l=([],decide (l.length=0)) from rfl) ⟨fun q=>by omega,fun q=>by omega⟩]
   simp +contextual only [ol.1,ol.2.1,aj,g1,ai,↓ak,au,simprocAttr]
   exact ⟨_,rfl,cF.nil _ _ _,aE⟩
 · rw [eF (q:=(l.length:Int)≤64) (show cP 2 n l=(List.replicate (l.length:Int).toNat 1,decide (l.length≤64)) from rfl) ⟨fun q=>by omega,fun q=>by omega⟩]
   simp +contextual only [ol.1,ol.2.1,aj,g1,ai,↓ak,au,simprocAttr]
   refine bT (gv 1 (l.length:Int) (by omega) U) ?_
   rintro y ad ⟨Y,aM⟩
   simp +contextual only [↓ak,au,simprocAttr]
   exact ⟨_,rfl,Y.fe (by rw [List.length_replicate];unfold top;omega),aE.trans aM⟩
 · rw [eF (q:=(l.length:Int)=2) (show cP 3 n l=(List.replicate (2:Int).toNat 1,decide (l.length=2)) from rfl) ⟨fun q=>by omega,fun q=>by omega⟩]
   simp +contextual only [ol.1,ol.2.1,aj,g1,ai,↓ak,au,simprocAttr]
   refine bT (gv 1 (2:Int) (by omega) U) ?_
   rintro y ad ⟨Y,aM⟩
   simp +contextual only [↓ak,au,simprocAttr]
   exact ⟨_,rfl,Y.fe (by rw [List.length_replicate];unfold top;omega),aE.trans aM⟩
 · rw [eF (q:=(l.length:Int)=2) (show cP 4 n l=(List.replicate (2:Int).toNat 1,decide (l.length=2)) from rfl) ⟨fun q=>by omega,fun q=>by omega⟩]
   simp +contextual only [ol.1,ol.2.1,aj,g1,ai,↓ak,au,simprocAttr]
   refine bT (gv 1 (2:Int) (by omega) U) ?_
   rintro y ad ⟨Y,aM⟩
   simp +contextual only [↓ak,au,simprocAttr]
   exact ⟨_,rfl,Y.fe (by rw [List.length_replicate];unfold top;omega),aE.trans aM⟩
 · rw [eF (q:=(l.length:Int)=0) (show cP 10 n l=([],decide (l.length=0)) from rfl) ⟨fun q=>by omega,fun q=>by omega⟩]
   simp +contextual only [ol.1,ol.2.1,aj,g1,ai,↓ak,au,simprocAttr]
   exact ⟨_,rfl,cF.nil _ _ _,aE⟩
 · rw [eF (q:=(l.length:Int)=0) (show cP 13 n l=([],decide (l.length=0)) from rfl) ⟨fun q=>by omega,fun q=>by omega⟩]
   simp +contextual only [ol.1,ol.2.1,aj,g1,ai,↓ak,au,simprocAttr]
   exact ⟨_,rfl,cF.nil _ _ _,aE⟩
 · rw [eF (q:=(l.length:Int)=0) (show cP 11 n l=([],decide (l.length=0)) from rfl) ⟨fun q=>by omega,fun q=>by omega⟩]
   simp +contextual only [ol.1,ol.2.1,aj,g1,ai,↓ak,au,simprocAttr]
   exact ⟨_,rfl,cF.nil _ _ _,aE⟩
 · rw [eF (q:=(l.length:Int)=0) (show cP 12 n l=([],decide (l.length=0)) from rfl) ⟨fun q=>by omega,fun q=>by omega⟩]
   simp +contextual only [ol.1,ol.2.1,aj,g1,ai,↓ak,au,simprocAttr]
   exact ⟨_,rfl,cF.nil _ _ _,aE⟩
 · rw [eF (q:=(l.length:Int)=0) (show cP 14 n l=([],decide (l.length=0)) from rfl) ⟨fun q=>by omega,fun q=>by omega⟩]
   simp +contextual only [ol.1,ol.2.1,aj,g1,ai,↓ak,au,simprocAttr]
   exact ⟨_,rfl,cF.nil _ _ _,aE⟩
 · rw [eF (q:=(l.length:Int)=2) (show cP 15 n l=(List.replicate (2:Int).toNat 2,decide (l.length=2)) from rfl) ⟨fun q=>by omega,fun q=>by omega⟩]
   simp +contextual only [ol.1,ol.2.1,aj,g1,ai,↓ak,au,simprocAttr]
   refine bT (gv 2 (2:Int) (by omega) U) ?_
   rintro y ad ⟨Y,aM⟩
   simp +contextual only [↓ak,au,simprocAttr]
   exact ⟨_,rfl,Y.fe (by rw [List.length_replicate];unfold top;omega),aE.trans aM⟩
 · rw [eF (q:=(l.length:Int)≤1) (show cP 16 n l=(List.replicate (l.length:Int).toNat 2,decide (l.length≤1)) from rfl) ⟨fun q=>by omega,fun q=>by omega⟩]
   simp +contextual only [ol.1,ol.2.1,aj,g1,ai,↓ak,au,simprocAttr]
   refine bT (gv 2 (l.length:Int) (by omega) U) ?_
   rintro y ad ⟨Y,aM⟩
   simp +contextual only [↓ak,au,simprocAttr]
   exact ⟨_,rfl,Y.fe (by rw [List.length_replicate];unfold top;omega),aE.trans aM⟩
 · rw [eF (q:=(l.length:Int)=0) (show cP 20 n l=([],decide (l.length=0)) from rfl) ⟨fun q=>by omega,fun q=>by omega⟩]
   simp +contextual only [ol.1,ol.2.1,aj,g1,ai,↓ak,au,simprocAttr]
   exact ⟨_,rfl,cF.nil _ _ _,aE⟩
 · rw [eF (q:=(l.length:Int)=0) (show cP 21 n l=([],decide (l.length=0)) from rfl) ⟨fun q=>by omega,fun q=>by omega⟩]
   simp +contextual only [ol.1,ol.2.1,aj,g1,ai,↓ak,au,simprocAttr]
   exact ⟨_,rfl,cF.nil _ _ _,aE⟩
 · rw [eF (q:=(l.length:Int)=0) (show cP 22 n l=([],decide (l.length=0)) from rfl) ⟨fun q=>by omega,fun q=>by omega⟩]
   simp +contextual only [ol.1,ol.2.1,aj,g1,ai,↓ak,au,simprocAttr]
   exact ⟨_,rfl,cF.nil _ _ _,aE⟩
 · rw [eF (q:=(l.length:Int)=0) (show cP 23 n l=([],decide (l.length=0)) from rfl) ⟨fun q=>by omega,fun q=>by omega⟩]
   simp +contextual only [ol.1,ol.2.1,aj,g1,ai,↓ak,au,simprocAttr]
   exact ⟨_,rfl,cF.nil _ _ _,aE⟩
 · rw [eF (q:=(l.length:Int)=0) (show cP 24 n l=([],decide (l.length=0)) from rfl) ⟨fun q=>by omega,fun q=>by omega⟩]
   simp +contextual only [ol.1,ol.2.1,aj,g1,ai,↓ak,au,simprocAttr]
   exact ⟨_,rfl,cF.nil _ _ _,aE⟩
 · rw [eF (q:=(l.length:Int)≤1) (show cP 25 n l=(List.replicate (l.length:Int).toNat 3,decide (l.length≤1)) from rfl) ⟨fun q=>by omega,fun q=>by omega⟩]
   simp +contextual only [ol.1,ol.2.1,aj,g1,ai,↓ak,au,simprocAttr]
   refine bT (gv 3 (l.length:Int) (by omega) U) ?_
   rintro y ad ⟨Y,aM⟩
   simp +contextual only [↓ak,au,simprocAttr]
   exact ⟨_,rfl,Y.fe (by rw [List.length_replicate];unfold top;omega),aE.trans aM⟩
 · rw [eF (q:=(l.length:Int)=2) (show cP 26 n l=(List.replicate (2:Int).toNat 3,decide (l.length=2)) from rfl) ⟨fun q=>by omega,fun q=>by omega⟩]
   simp +contextual only [ol.1,ol.2.1,aj,g1,ai,↓ak,au,simprocAttr]
   refine bT (gv 3 (2:Int) (by omega) U) ?_
   rintro y ad ⟨Y,aM⟩
   simp +contextual only [↓ak,au,simprocAttr]
   exact ⟨_,rfl,Y.fe (by rw [List.length_replicate];unfold top;omega),aE.trans aM⟩
 · rw [eF (q:=(l.length:Int)=2) (show cP 28 n l=(List.replicate (2:Int).toNat 3,decide (l.length=2)) from rfl) ⟨fun q=>by omega,fun q=>by omega⟩]
   simp +contextual only [ol.1,ol.2.1,aj,g1,ai,↓ak,au,simprocAttr]
   refine bT (gv 3 (2:Int) (by omega) U) ?_
   rintro y ad ⟨Y,aM⟩
   simp +contextual only [↓ak,au,simprocAttr]
   exact ⟨_,rfl,Y.fe (by rw [List.length_replicate];unfold top;omega),aE.trans aM⟩
 · rw [eF (q:=(l.length:Int)=2) (show cP 35 n l=(List.replicate (2:Int).toNat 3,decide (l.length=2)) from rfl) ⟨fun q=>by omega,fun q=>by omega⟩]
   simp +contextual only [ol.1,ol.2.1,aj,g1,ai,↓ak,au,simprocAttr]
   refine bT (gv 3 (2:Int) (by omega) U) ?_
   rintro y ad ⟨Y,aM⟩
   simp +contextual only [↓ak,au,simprocAttr]
   exact ⟨_,rfl,Y.fe (by rw [List.length_replicate];unfold top;omega),aE.trans aM⟩
 · rw [eF (q:=(l.length:Int)=2) (show cP 37 n l=(List.replicate (2:Int).toNat 3,decide (l.length=2)) from rfl) ⟨fun q=>by omega,fun q=>by omega⟩]
   simp +contextual only [ol.1,ol.2.1,aj,g1,ai,↓ak,au,simprocAttr]
   refine bT (gv 3 (2:Int) (by omega) U) ?_
   rintro y ad ⟨Y,aM⟩
   simp +contextual only [↓ak,au,simprocAttr]
   exact ⟨_,rfl,Y.fe (by rw [List.length_replicate];unfold top;omega),aE.trans aM⟩
 · rw [eF (q:=(l.length:Int)=2) (show cP 38 n l=(List.replicate (2:Int).toNat 3,decide (l.length=2)) from rfl) ⟨fun q=>by omega,fun q=>by omega⟩]
   simp +contextual only [ol.1,ol.2.1,aj,g1,ai,↓ak,au,simprocAttr]
   refine bT (gv 3 (2:Int) (by omega) U) ?_
   rintro y ad ⟨Y,aM⟩
   simp +contextual only [↓ak,au,simprocAttr]
   exact ⟨_,rfl,Y.fe (by rw [List.length_replicate];unfold top;omega),aE.trans aM⟩
 · rw [eF (q:=(l.length:Int)=1) (show cP 34 n l=(List.replicate (1:Int).toNat 3,decide (l.length=1)) from rfl) ⟨fun q=>by omega,fun q=>by omega⟩]
   simp +contextual only [ol.1,ol.2.1,aj,g1,ai,↓ak,au,simprocAttr]
   refine bT (gv 3 (1:Int) (by omega) U) ?_
   rintro y ad ⟨Y,aM⟩
   simp +contextual only [↓ak,au,simprocAttr]
   exact ⟨_,rfl,Y.fe (by rw [List.length_replicate];unfold top;omega),aE.trans aM⟩
 · rw [eF (q:=(l.length:Int)=1) (show cP 36 n l=(List.replicate (1:Int).toNat 3,decide (l.length=1)) from rfl) ⟨fun q=>by omega,fun q=>by omega⟩]
   simp +contextual only [ol.1,ol.2.1,aj,g1,ai,↓ak,au,simprocAttr]
   refine bT (gv 3 (1:Int) (by omega) U) ?_
   rintro y ad ⟨Y,aM⟩
   simp +contextual only [↓ak,au,simprocAttr]
   exact ⟨_,rfl,Y.fe (by rw [List.length_replicate];unfold top;omega),aE.trans aM⟩
 · rw [eF (q:=(l.length:Int)=1) (show cP 39 n l=(List.replicate (1:Int).toNat 3,decide (l.length=1)) from rfl) ⟨fun q=>by omega,fun q=>by omega⟩]
   simp +contextual only [ol.1,ol.2.1,aj,g1,ai,↓ak,au,simprocAttr]
   refine bT (gv 3 (1:Int) (by omega) U) ?_
   rintro y ad ⟨Y,aM⟩
   simp +contextual only [↓ak,au,simprocAttr]
   exact ⟨_,rfl,Y.fe (by rw [List.length_replicate];unfold top;omega),aE.trans aM⟩
 · rw [eF (q:=(l.length:Int)=3) (show cP 31 n l=(List.replicate (3:Int).toNat 3,decide (l.length=3)) from rfl) ⟨fun q=>by omega,fun q=>by omega⟩]
   simp +contextual only [ol.1,ol.2.1,aj,g1,ai,↓ak,au,simprocAttr]
   refine bT (gv 3 (3:Int) (by omega) U) ?_
   rintro y ad ⟨Y,aM⟩
   simp +contextual only [↓ak,au,simprocAttr]
   exact ⟨_,rfl,Y.fe (by rw [List.length_replicate];unfold top;omega),aE.trans aM⟩
 · rw [eF (q:=(l.length:Int)=2) (show cP 27 n l=([2,3],decide (l.length=2)) from rfl) ⟨fun q=>by omega,fun q=>by omega⟩]
   obtain ⟨ad,ay,aM,Y⟩:=pY U 1 2 [.int .i64 2,.int .i64 3] rfl (by unfold top;omega)
   simp +contextual only [ol.1,ol.2.1,aj,ay,g1,ai,↓ak,au,simprocAttr]
   exact ⟨_,rfl,dy.fe (l:=[2,3]) Y (by simp [top]),aE.trans aM⟩
 · rw [eF (q:=(l.length:Int)=3) (show cP 29 n l=([2,3,3],decide (l.length=3)) from rfl) ⟨fun q=>by omega,fun q=>by omega⟩]
   obtain ⟨ad,ay,aM,Y⟩:=pY U 1 3 [.int .i64 2,.int .i64 3,.int .i64 3] rfl (by unfold top;omega)
   simp +contextual only [ol.1,ol.2.1,aj,ay,g1,ai,↓ak,au,simprocAttr]
   exact ⟨_,rfl,dy.fe (l:=[2,3,3]) Y (by simp [top]),aE.trans aM⟩
 · rw [eF (q:=(l.length:Int)≥2) (show cP 30 n l=(List.replicate (l.length-1) (5:Int)++[3],decide (2≤l.length)) from rfl) ⟨fun q=>by omega,fun q=>by omega⟩]
   have bM:IntKind.i64.wrap ((l.length:Int)-1)=(l.length:Int)-1:=wrap_i64 (by omega) (by omega)
   simp +contextual only [ol.1,ol.2.1,aj,g1,ai,bM,↓ak,au,simprocAttr]
   refine bT (gv 5 ((l.length:Int)-1) (by omega) U) ?_
   rintro y ad ⟨Y,aM⟩
   rw [show ((l.length:Int)-1).toNat=l.length-1 from by omega] at Y
   obtain ⟨al,aI,ay,aK,bE,dh,eW⟩:=uN (cs:=[.int .i64 3]) (by omega) Y aM.next (by rw [List.length_replicate];unfold top;omega) rfl rfl
   simp +contextual only [ay,↓ak,au,simprocAttr]
   have Z:dy U.next aI 1 al (List.replicate (l.length-1) (5:Int)++[3]).length (jl (List.replicate (l.length-1) (5:Int)++[3])):=by
    rw [List.length_append,Ed];exact aK
   exact ⟨_,rfl,Z.fe (by rw [List.length_append,List.length_replicate];simp only [List.length_singleton];unfold top;omega),(aE.trans aM).nz bE fun b af=>Nat.le_trans aE.next (Y.base af)⟩
 · rw [eF (q:=(l.length:Int)≥2) (show cP 32 n l=(3::List.replicate (l.length-1) (4:Int),decide (2≤l.length)) from rfl) ⟨fun q=>by omega,fun q=>by omega⟩]
   have bM:IntKind.i64.wrap ((l.length:Int)-1)=(l.length:Int)-1:=wrap_i64 (by omega) (by omega)
   obtain ⟨ad,ay,aM,Y⟩:=pY U 1 1 [.int .i64 3] rfl (by unfold top;omega)
   simp +contextual only [ol.1,ol.2.1,aj,ay,g1,ai,bM,↓ak,au,simprocAttr]
   refine bT (gv 4 ((l.length:Int)-1) (by omega) ad) ?_
   rintro y aI ⟨Z,b9⟩
   rw [show ((l.length:Int)-1).toNat=l.length-1 from by omega] at Z
   obtain ⟨al,br,b',d',hL,mE⟩:=xA (by omega) (Y.ext b9) Z.v (Nat.le_trans aM.next b9.next) (by rw [List.length_replicate];unfold top;omega) (zs _)
   simp +contextual only [b',↓ak,au,simprocAttr]
   have W:dy U.next br 1 al (3::List.replicate (l.length-1) (4:Int)).length (jl (3::List.replicate (l.length-1) (4:Int))):=by
    rw [List.length_cons,Nat.add_comm];exact d'
   exact ⟨_,rfl,W.fe (by rw [List.length_cons,List.length_replicate];unfold top;omega),((aE.trans aM).trans b9).nz hL fun b af=>Nat.le_trans aE.next (Y.base af)⟩
 · rw [eF (q:=(l.length:Int)≥2) (show cP 33 n l=(3::List.replicate (l.length-1) (4:Int),decide (2≤l.length)) from rfl) ⟨fun q=>by omega,fun q=>by omega⟩]
   have bM:IntKind.i64.wrap ((l.length:Int)-1)=(l.length:Int)-1:=wrap_i64 (by omega) (by omega)
   obtain ⟨ad,ay,aM,Y⟩:=pY U 1 1 [.int .i64 3] rfl (by unfold top;omega)
   simp +contextual only [ol.1,ol.2.1,aj,ay,g1,ai,bM,↓ak,au,simprocAttr]
   refine bT (gv 4 ((l.length:Int)-1) (by omega) ad) ?_
   rintro y aI ⟨Z,b9⟩
   rw [show ((l.length:Int)-1).toNat=l.length-1 from by omega] at Z
   obtain ⟨al,br,b',d',hL,mE⟩:=xA (by omega) (Y.ext b9) Z.v (Nat.le_trans aM.next b9.next) (by rw [List.length_replicate];unfold top;omega) (zs _)
   simp +contextual only [b',↓ak,au,simprocAttr]
   have W:dy U.next br 1 al (3::List.replicate (l.length-1) (4:Int)).length (jl (3::List.replicate (l.length-1) (4:Int))):=by
    rw [List.length_cons,Nat.add_comm];exact d'
   exact ⟨_,rfl,W.fe (by rw [List.length_cons,List.length_replicate];unfold top;omega),((aE.trans aM).trans b9).nz hL fun b af=>Nat.le_trans aE.next (Y.base af)⟩
 · rw [eF (q:=(l.length:Int)=2) (show cP 45 n l=([2,3],decide (l.length=2)) from rfl) ⟨fun q=>by omega,fun q=>by omega⟩]
   obtain ⟨ad,ay,aM,Y⟩:=pY U 1 2 [.int .i64 2,.int .i64 3] rfl (by unfold top;omega)
   simp +contextual only [ol.1,ol.2.1,aj,ay,g1,ai,↓ak,au,simprocAttr]
   exact ⟨_,rfl,dy.fe (l:=[2,3]) Y (by simp [top]),aE.trans aM⟩
 · by_cases IK:l.length=1
   · obtain ⟨u,rfl⟩:∃u,l=[u]:=by
      match l,IK with
      | [u],_=>exact ⟨u,rfl⟩
     rw [show cP 46 n [u]=(List.replicate (1:Int).toNat 3,decide (u.k=27)) from by simp [cP,Cz]]
     obtain ⟨b,off,wl,c4,X,gB,ld,jn,_,_⟩:=a'.rI AR (k:=.i64) (i:=0) (by simp)
     have JY:jS 5 dI (.int .i64 0)=some (.ptr b off):=by simpa using c4
     have d0:∀aa,Ext U aa→hc (aa.get b) off=some (.int .i64 u.k):=fun aa e=>by simpa using jn aa e
     have d1:=d0 U (Ext.refl _)
     simp +contextual only [ol.1,ol.2.1,aj,g1,ai,JY,d1,List.length_cons,List.length_nil,↓ak,au,simprocAttr]
     refine bT (gv 3 1 (by omega) U) ?_
     rintro y ad ⟨Y,aM⟩
     have d2:=d0 ad aM
     have g2:=(ee.ext aM).g
     simp +contextual only [g1,g2,JY,d1,d2,↓ak,au,simprocAttr]
     exact ⟨_,rfl,Y.fe (by simp [top]),aE.trans aM⟩
   · rw [show cP 46 n l=(List.replicate (1:Int).toNat 3,false) from by simp [cP,IK]]
     have f1:((l.length:Int)=1)=False:=eq_false (by omega)
     simp +contextual only [ol.1,ol.2.1,aj,g1,ai,f1,↓ak,au,simprocAttr]
     refine bT (gv 3 1 (by omega) U) ?_
     rintro y ad ⟨Y,aM⟩
     have g2:=(ee.ext aM).g
     simp +contextual only [g1,g2,f1,↓ak,au,simprocAttr]
     exact ⟨_,rfl,Y.fe (by simp [top]),aE.trans aM⟩
 · rw [eF (q:=(l.length:Int)≤1) (show cP 47 n l=(List.replicate (l.length:Int).toNat 1,decide (l.length≤1)) from rfl) ⟨fun q=>by omega,fun q=>by omega⟩]
   simp +contextual only [ol.1,ol.2.1,aj,g1,ai,↓ak,au,simprocAttr]
   refine bT (gv 1 (l.length:Int) (by omega) U) ?_
   rintro y ad ⟨Y,aM⟩
   simp +contextual only [↓ak,au,simprocAttr]
   exact ⟨_,rfl,Y.fe (by rw [List.length_replicate];unfold top;omega),aE.trans aM⟩
 · rw [eF (q:=(l.length:Int)≤1) (show cP 51 n l=(List.replicate (l.length:Int).toNat 1,decide (l.length≤1)) from rfl) ⟨fun q=>by omega,fun q=>by omega⟩]
   simp +contextual only [ol.1,ol.2.1,aj,g1,ai,↓ak,au,simprocAttr]
   refine bT (gv 1 (l.length:Int) (by omega) U) ?_
   rintro y ad ⟨Y,aM⟩
   simp +contextual only [↓ak,au,simprocAttr]
   exact ⟨_,rfl,Y.fe (by rw [List.length_replicate];unfold top;omega),aE.trans aM⟩
 · rw [eF (q:=(l.length:Int)=2) (show cP 52 n l=([2,3],decide (l.length=2)) from rfl) ⟨fun q=>by omega,fun q=>by omega⟩]
   obtain ⟨ad,ay,aM,Y⟩:=pY U 1 2 [.int .i64 2,.int .i64 3] rfl (by unfold top;omega)
   simp +contextual only [ol.1,ol.2.1,aj,ay,g1,ai,↓ak,au,simprocAttr]
   exact ⟨_,rfl,dy.fe (l:=[2,3]) Y (by simp [top]),aE.trans aM⟩
 · rw [eF (q:=(l.length:Int)≥1) (show cP 53 n l=(List.replicate (l.length:Int).toNat 5,decide (1≤l.length)) from rfl) ⟨fun q=>by omega,fun q=>by omega⟩]
   simp +contextual only [ol.1,ol.2.1,aj,g1,ai,↓ak,au,simprocAttr]
   refine bT (gv 5 (l.length:Int) (by omega) U) ?_
   rintro y ad ⟨Y,aM⟩
   simp +contextual only [↓ak,au,simprocAttr]
   exact ⟨_,rfl,Y.fe (by rw [List.length_replicate];unfold top;omega),aE.trans aM⟩
 · have vv:0≤n∧n≤64∧n<l.length:=by simpa [gK,and_assoc] using a7
   obtain ⟨da,jX,n3⟩:=vv
   rw [show cP 50 n l=(List.replicate n.toNat (8:Int)++List.replicate (l.length-n.toNat) (6:Int),true) from rfl]
   have bM:IntKind.i64.wrap ((l.length:Int)-n)=(l.length:Int)-n:=wrap_i64 (by omega) (by omega)
   simp +contextual only [ol.1,ol.2.1,aj,g1,ai,bM,↓ak,au,simprocAttr]
   refine bT (gv 8 n (by omega) U) ?_
   rintro y ad ⟨Y,aM⟩
   have g2:=(ee.ext aM).g
   simp +contextual only [g1,g2,ai,bM,↓ak,au,simprocAttr]
   refine bT (gv 6 ((l.length:Int)-n) (by omega) ad) ?_
   rintro z aI ⟨Z,b9⟩
   have g3:=((ee.ext aM).ext b9).g
   rw [show ((l.length:Int)-n).toNat=l.length-n.toNat from by omega] at Z
   obtain ⟨al,br,b',d',hL,mE⟩:=xA (by omega) (Y.ext b9) Z.v (Nat.le_trans aM.next b9.next) (by rw [List.length_replicate,List.length_replicate];unfold top;omega) (zs _)
   simp +contextual only [b',g1,g2,g3,ai,bM,↓ak,au,simprocAttr]
   have W:dy U.next br 1 al (List.replicate n.toNat (8:Int)++List.replicate (l.length-n.toNat) (6:Int)).length (jl (List.replicate n.toNat (8:Int)++List.replicate (l.length-n.toNat) (6:Int))):=by
    rw [List.length_append,Ed];exact d'
   exact ⟨_,rfl,W.fe (by rw [List.length_append,List.length_replicate,List.length_replicate];unfold top;omega),((aE.trans aM).trans b9).nz hL fun b af=>Nat.le_trans aE.next (Y.base af)⟩
theorem aa5 {k n:Int} {l:List a'} (aA:e4 k≠0) (a7:gK k n l.length=true) (h:(cP k n l).2=true):(cP k n l).1.length=l.length:=by
 rcases y5 aA with rfl | rfl | rfl | rfl | rfl | rfl | rfl | rfl | rfl | rfl | rfl | rfl | rfl | rfl | rfl | rfl | rfl | rfl | rfl | rfl | rfl | rfl | rfl | rfl | rfl | rfl | rfl | rfl | rfl | rfl | rfl | rfl | rfl | rfl | rfl | rfl | rfl | rfl<;>
 simp [cP,gK] at h a7 ⊢<;>first | omega | simp_all
theorem aa' (t:a'):t.hN dm=(decide (e4 t.k≠0)&&r1 dm t.k t.s&&gK t.k t.n t.l.length&&decide (0≤t.a)&&decide (t.a≤65536)&&(cP t.k t.n t.l).2&&kA dm (cP t.k t.n t.l).1 t.l):=by
 cases t;rw [a'.hN];rfl
set_option maxHeartbeats 4000000 in
theorem Ft:∀(N:Nat) (t:a'),t.size≤N→N≤1000000000→∀(ab:List V) (h:ae),ct Any h t.enc ab→bF Tryz.prog 39 [.agg ab] h fun x aa=>x=.bool (t.hN dm)∧Ext h aa
 | 0,t,aQ,_,_,_,_=>by have:=rV t;omega
 | N+1,t,aQ,yp,ab,h,H=>by
   have se:=H
   obtain ⟨dI,rfl,L,_⟩:=a'.open H
   have bw:N≤1000000000:=by omega
   have ol:=L.one
   have ai:=L.len
   have hle:=L.le
   rw [List.length_map] at ai hle
   have bZ:=size_eq t
   have ib:=wK t.l
   refine Qc rfl (db ?_)
   unfold BH
   obtain ⟨U,aj,aE,ee⟩:=iB h [.int .i64 t.k,.int .i64 t.n,.int .i64 t.a,.str t.s,dI]
   simp +contextual only [ol.1,ol.2.1,aj,ee.g,↓ak,au,simprocAttr]
   refine bT (Fq t.k U) ?_
   rintro x ad ⟨rfl,rfl⟩
   rw [aa']
   by_cases aD:e4 t.k=0
   · simp +contextual only [eq_true aD,↓ak,au,simprocAttr]
     exact ⟨by simp [aD],aE⟩
   have qU:=eq_false aD
   simp +contextual only [qU,ee.g,↓ak,au,simprocAttr]
   refine bT (acg t aD _ ad (se.ext aE)) ?_
   rintro x aI ⟨rfl,b9⟩
   have w1:=ee.ext b9
   cases bC:r1 dm t.k t.s with
   | false=>
     simp +contextual only [qU,w1.g,↓ak,au,simprocAttr]
     exact aE.trans b9
   | true=>
   simp +contextual only [qU,w1.g,↓ak,au,simprocAttr]
   refine bT (ZD t aD _ aI (se.ext (aE.trans b9))) ?_
   rintro x br ⟨rfl,gD⟩
   have uv:=w1.ext gD
   have qu:=(aE.trans b9).trans gD
   cases bY:gK t.k t.n t.l.length with
   | false=>
     simp +contextual only [qU,uv.g,↓ak,au,simprocAttr]
     exact qu
   | true=>
   by_cases c3:t.a<0
   · simp +contextual only [qU,uv.g,eq_true c3,↓ak,au,simprocAttr]
     exact ⟨by rw [decide_eq_false (show ¬0≤t.a by omega)];simp,qu⟩
   by_cases fZ:65536<t.a
   · simp +contextual only [qU,uv.g,eq_false c3,eq_true fZ,↓ak,au,simprocAttr]
     exact ⟨by rw [decide_eq_false (show ¬t.a≤65536 by omega)];simp,qu⟩
   simp +contextual only [qU,uv.g,eq_false c3,eq_false fZ,↓ak,au,simprocAttr]
   refine bT (T2 t aD bY (by omega) _ br (se.ext qu)) ?_
   rintro x cp ⟨T5,rfl,Gd,kM⟩
   have Ao:=uv.ext kM
   have k_:=qu.trans kM
   rw [decide_eq_true (show e4 t.k≠0 from aD),decide_eq_true (show 0≤t.a by omega),decide_eq_true (show t.a≤65536 by omega)]
   cases c5:(cP t.k t.n t.l).2 with
   | false=>
     simp +contextual only [Ao.g,↓ak,au,simprocAttr]
     exact k_
   | true=>
   have ou:=aa5 aD bY c5
   generalize (cP t.k t.n t.l).1=gs at Gd ou ⊢
   simp +contextual only [Ao.g,↓ak,au,simprocAttr]
   refine gu (fun r g=>r 1=.ptr (aH h.next) 0∧r 3=T5∧∃i:Nat,r 5=.int .i64 i∧i≤t.l.length∧Ext cp g∧kA dm gs t.l=kA dm (gs.drop i) (t.l.drop i)) (fun r g=>t.l.length - (r 5).toN) ?_ ?_
   · exact ⟨by simp only [↓ak,c1,simprocAttr],by simp only [↓ak,c1,simprocAttr],0,by simp only [↓ak,c1,simprocAttr]<;>rfl,by omega,Ext.refl cp,rfl⟩
   rintro r g ⟨bt,bQ,i,cL,aB,E,bg⟩
   unfold He
   have A:=Ao.ext E
   have gX:=L.ext (k_.trans E)
   by_cases aN:i<t.l.length
   · have g0:((i:Int) < (t.l.length:Int))=True:=eq_true (by omega)
     obtain ⟨b,off,wl,c4,X,gB,ld,jn,_,_⟩:=a'.rI gX (k:=.i64) aN
     obtain ⟨ca,zn,iK,YK⟩:=(Gd.ext E).Ec (k:=.i64) (i:=i) (by omega)
     have fo:=ld g (Ext.refl g)
     have d0:=jn g (Ext.refl g)
     have dg:=YK g (Ext.refl g)
     have eG:=j1 aN (by unfold top at hle;omega)
     have U':=rU (t:=t) (List.getElem_mem aN)
     rw [List.drop_eq_getElem_cons aN,List.drop_eq_getElem_cons (show i<gs.length by omega),kA] at bg
     have fin:∀(aJ:List gl) (R:aS),True:=fun _ _=>trivial
     by_cases j_:gs[i]=8
     · have eM:qc t.l[i].k gs[i]=decide (t.l[i].k=1):=by unfold qc;rw [if_pos j_]
       by_cases od:t.l[i].k=1
       · simp +contextual only [bt,bQ,cL,A.g,ai,g0,c4,iK,fo,d0,dg,eq_true j_,eq_true od,↓ak,au,simprocAttr]
         refine bT (Ft N t.l[i] (by omega) bw _ g X) ?_
         rintro x g2 ⟨rfl,dE⟩
         rw [eM,decide_eq_true od,Bool.true_and] at bg
         cases u4:t.l[i].hN dm with
         | true=>
           rw [u4,Bool.true_and] at bg
           simp +contextual only [bt,bQ,cL,eG,↓ak,au,simprocAttr]
           exact ⟨⟨i+1,rfl,aN,E.trans dE,bg⟩,by omega⟩
         | false=>
           rw [u4,Bool.false_and] at bg
           simp +contextual only [bt,bQ,cL,eG,↓ak,au,simprocAttr]
           exact ⟨by rw [bg],k_.trans (E.trans dE)⟩
       · rw [eM,decide_eq_false od,Bool.false_and,Bool.false_and] at bg
         simp +contextual only [bt,bQ,cL,A.g,ai,g0,c4,iK,fo,d0,dg,eq_true j_,eq_false od,↓ak,au,simprocAttr]
         exact ⟨by rw [bg],k_.trans E⟩
     · have eM:qc t.l[i].k gs[i]=decide (e4 t.l[i].k=gs[i]):=by unfold qc;rw [if_neg j_]
       simp +contextual only [bt,bQ,cL,A.g,ai,g0,c4,iK,fo,d0,dg,eq_false j_,↓ak,au,simprocAttr]
       refine bT (Fq t.l[i].k g) ?_
       rintro x g2 ⟨rfl,rfl⟩
       by_cases od:e4 t.l[i].k=gs[i]
       · simp +contextual only [bt,bQ,cL,A.g,ai,g0,c4,iK,fo,d0,dg,eq_false j_,eq_true od,↓ak,au,simprocAttr]
         refine bT (Ft N t.l[i] (by omega) bw _ g2 X) ?_
         rintro x g3 ⟨rfl,dE⟩
         rw [eM,decide_eq_true od,Bool.true_and] at bg
         cases u4:t.l[i].hN dm with
         | true=>
           rw [u4,Bool.true_and] at bg
           simp +contextual only [bt,bQ,cL,eG,↓ak,au,simprocAttr]
           exact ⟨⟨i+1,rfl,aN,E.trans dE,bg⟩,by omega⟩
         | false=>
           rw [u4,Bool.false_and] at bg
           simp +contextual only [bt,bQ,cL,eG,↓ak,au,simprocAttr]
           exact ⟨by rw [bg],k_.trans (E.trans dE)⟩
       · rw [eM,decide_eq_false od,Bool.false_and,Bool.false_and] at bg
         simp +contextual only [bt,bQ,cL,A.g,ai,g0,c4,iK,fo,d0,dg,eq_false j_,eq_false od,↓ak,au,simprocAttr]
         exact ⟨by rw [bg],k_.trans E⟩
   · have g0:((i:Int) < (t.l.length:Int))=False:=eq_false (by omega)
     rw [List.drop_eq_nil_of_le (show t.l.length≤i by omega),kA] at bg
     simp +contextual only [bt,bQ,cL,A.g,ai,g0,↓ak,au,simprocAttr]
     exact ⟨by rw [bg],k_.trans E⟩
def rW (l:List a'):Int:=if l.all (fun t=>decide (e4 t.k=7)&&t.hN dm) then (if l.all (fun t=>decide (t.deep≤200)) then 0 else 260) else 2
set_option maxHeartbeats 2000000 in
theorem aaW (l:List a') (aQ:ek l≤1000000000) (v:V) (h:ae) (L:cF Any h 5 (l.map a'.enc) v):bF Tryz.prog 12 [v] h fun x aa=>x=.int .i64 (rW l)∧Ext h aa:=by
 have ai:=L.len
 have hle:=L.le
 rw [List.length_map] at ai hle
 refine PG rfl (db ?_)
 unfold Bv
 simp +contextual only [↓ak,au,simprocAttr]
 refine gu (fun r g=>r 0=v∧∃i:Nat,r 3=.int .i64 i∧i≤l.length∧Ext h g∧(l.take i).all (fun t=>decide (e4 t.k=7)&&t.hN dm)=true) (fun r g=>l.length - (r 3).toN) ?_ ?_
 · exact ⟨by simp only [↓ak,c1,simprocAttr],0,by simp only [↓ak,c1,simprocAttr]<;>rfl,by omega,Ext.refl h,rfl⟩
 rintro r g ⟨bp,i,bQ,aB,E,cU⟩
 unfold G8
 have gX:=L.ext E
 by_cases aN:i<l.length
 · have g0:((i:Int) < (l.length:Int))=True:=eq_true (by omega)
   obtain ⟨b,off,wl,c4,X,gB,ld,jn,_,_⟩:=a'.rI gX (k:=.i64) aN
   have fo:=ld g (Ext.refl g)
   have d0:=jn g (Ext.refl g)
   have eG:=j1 aN (by unfold top at hle;omega)
   have bq:=nC (List.getElem_mem aN)
   simp +contextual only [bp,bQ,ai,g0,c4,d0,fo,↓ak,au,simprocAttr]
   refine bT (Fq l[i].k g) ?_
   rintro x g2 ⟨rfl,rfl⟩
   have bad:(decide (e4 l[i].k=7)&&l[i].hN dm)=false→rW l=2:=fun q=>by
    unfold rW
    rw [if_neg]
    intro z
    have:=List.all_eq_true.1 z _ (List.getElem_mem aN)
    rw [q] at this;cases this
   by_cases bC:e4 l[i].k=7
   · simp +contextual only [bp,bQ,c4,fo,eq_true bC,↓ak,au,simprocAttr]
     refine bT (Ft _ l[i] (Nat.le_refl _) (by omega) _ g2 X) ?_
     rintro x g3 ⟨rfl,b9⟩
     cases bY:l[i].hN dm with
     | true=>
       simp +contextual only [bp,bQ,eG,↓ak,au,simprocAttr]
       refine ⟨⟨i+1,rfl,aN,E.trans b9,?_⟩,by omega⟩
       rw [take_one aN,List.all_append,cU]
       simp [bC,bY]
     | false=>
       simp +contextual only [bp,bQ,eG,↓ak,au,simprocAttr]
       exact ⟨by rw [bad (by rw [bY,Bool.and_false])],E.trans b9⟩
   · simp +contextual only [bp,bQ,c4,fo,eq_false bC,↓ak,au,simprocAttr]
     exact ⟨by rw [bad (by rw [decide_eq_false bC,Bool.false_and])],E⟩
 · have g0:((i:Int) < (l.length:Int))=False:=eq_false (by omega)
   rw [List.take_of_length_le (by omega)] at cU
   have ar:rW l=if l.all (fun t=>decide (t.deep≤200)) then 0 else 260:=by unfold rW;rw [if_pos cU]
   rw [ar]
   simp +contextual only [bp,bQ,ai,g0,↓ak,au,simprocAttr]
   refine gu (fun r g=>r 0=v∧∃i:Nat,r 4=.int .i64 i∧i≤l.length∧Ext h g∧(l.take i).all (fun t=>decide (t.deep≤200))=true) (fun r g=>l.length - (r 4).toN) ?_ ?_
   · exact ⟨by simp only [bp,↓ak,c1,simprocAttr],0,by simp only [↓ak,c1,simprocAttr]<;>rfl,by omega,E,rfl⟩
   clear aB bp bQ gX E g0 aN
   rintro r g ⟨bp,i,fW,aB,E,cU⟩
   unfold G9
   have gX:=L.ext E
   by_cases aN:i<l.length
   · have g0:((i:Int) < (l.length:Int))=True:=eq_true (by omega)
     obtain ⟨b,off,wl,c4,X,gB,ld,jn,_,_⟩:=a'.rI gX (k:=.i64) aN
     have fo:=ld g (Ext.refl g)
     have eG:=j1 aN (by unfold top at hle;omega)
     have bq:=nC (List.getElem_mem aN)
     simp +contextual only [bp,fW,ai,g0,c4,fo,↓ak,au,simprocAttr]
     refine bT (Ff _ l[i] (Nat.le_refl _) (by omega) _ g X) ?_
     rintro x g2 ⟨rfl,aM⟩
     by_cases bC:(200:Int) < (l[i].deep:Int)
     · simp +contextual only [bp,fW,eq_true bC,↓ak,au,simprocAttr]
       refine ⟨?_,E.trans aM⟩
       rw [if_neg]
       intro z
       have:=List.all_eq_true.1 z _ (List.getElem_mem aN)
       simp only [decide_eq_true_eq] at this
       omega
     · simp +contextual only [bp,fW,eG,eq_false bC,↓ak,au,simprocAttr]
       refine ⟨⟨i+1,rfl,aN,E.trans aM,?_⟩,by omega⟩
       rw [take_one aN,List.all_append,cU]
       simp;omega
   · have g0:((i:Int) < (l.length:Int))=False:=eq_false (by omega)
     rw [List.take_of_length_le (by omega)] at cU
     simp +contextual only [bp,fW,ai,g0,↓ak,au,simprocAttr]
     exact ⟨by rw [if_pos cU],E⟩
end Go.Proofs.YtkehcalakofigaaGreatDoor
