/- The chapter's functions, walked by the abstract machine: plain lemmas, no condition. Printed by a program from longer texts: names made short. -/
import Derived.Test.YtkehcalakofigaaGreatDoorM8
import Derived.Test.YtkehcalakofigaaGreatDoorM9
set_option linter.unusedSectionVars false
set_option linter.unusedSimpArgs false
set_option linter.unusedVariables false
namespace Go.Proofs.YtkehcalakofigaaGreatDoor
open Go aY
theorem acH {P:Program} {bZ:List V} {b:aN} {d:Option Nat} {os:List br} {D:Option gF} {aJ:List gh} {r:aS} {h:ae} {Q:cY→aS→ae→Prop} {K:V→ae→Prop}
 (c:xn P bZ b h K) (H:∀v aa,K v aa→bj P (.os (gX D r h v) os::aJ) .normal (r.set d v) aa Q):Ai P (bZ++[.ptr b 0]) d D os aJ r h Q:=by
 obtain ⟨v,aa,q,k⟩:=c
 exact ⟨bZ,b,rfl,v,aa,q,H v aa k⟩
structure An (jV:Nat) (oD:aN) (M:aN→Prop) (I:List bc→ae→Prop):Prop where
 ext:∀{d:List bc} {h aa:ae},I d h→Ext h aa→I d aa
 HH:∀{d:List bc} {h:ae} (p:bc) {ab:List V},I d h→cl (fun b=>cB b<jV) h p.enc ab→xn Tryz.prog [.agg ab] oD h fun x aa=>x=.bool true∧I (d++[p]) aa∧Mod M h aa
 b2:∀{d:List bc} {h:ae},I d h→∀b,M b→Old h b
 bI:∀b,M b→jV≤cB b
set_option maxHeartbeats 1000000 in
theorem JJ {jV:Nat} {oD:aN} {M:aN→Prop} {I:List bc→ae→Prop} (E:An jV oD M I) {r_ rz:Nat} (a1:¬M (aG r_)) (aC:¬M (aG rz)):∀(N:Nat) (p:bc),p.size≤N→∀(d:List bc) (ab:List V) (h:ae),cl (fun b=>cB b<jV) h p.enc ab→
 Has h r_ [.func 4294967296 [.ptr oD 0]]→Has h rz [.func 53 [.ptr (aG r_) 0,.ptr (aG rz) 0]]→I d h→bK Tryz.prog 53 [.agg ab,.ptr (aG r_) 0,.ptr (aG rz) 0] h fun x aa=>x=.bool true∧I (d++p.pre) aa∧Mod M h aa
 | 0,p,aR,_,_,_,_,_,_,_=>by have:=tU p;omega
 | N+1,p,aR,d,ab,h,H,Y,B,J=>by
   obtain ⟨dA,rfl,L,_⟩:=bc.open H
   have ol:=L.one
   have aj:=L.len
   have hle:=L.le
   rw [List.length_map] at aj hle
   refine Qb rfl (dn ?_)
   unfold BI
   obtain ⟨U,ai,aF,eA⟩:=jv h [.int .i64 p.k,.int .i64 p.n,.int .i64 p.a,.str p.s,dA]
   have rk:¬M (aG h.next):=fun q=>EE (Nat.le_refl _) (E.b2 J _ q)
   have xm:=Y.ext aF
   simp +contextual only [ol.1,ol.2.1,ai,eA.g,xm.g,xK,List.cons_append,List.nil_append,if_true,↓al,aw,simprocAttr]
   refine acH (bZ:=[_]) (E.HH p (E.ext J aF) (H.ext aF)) ?_
   rintro x ad ⟨rfl,c6,m2⟩
   have gE:=eA.mod m2 rk
   have Nu:=xm.mod m2 a1
   have hs:=(B.ext aF).mod m2 aC
   have YF:Mod M h ad:=(aF.mod M).trans m2
   simp +contextual only [gE.g,aj,↓al,aw,simprocAttr]
   refine hj (fun r g=>r 1=.ptr (aG r_) 0∧r 2=.ptr (aG rz) 0∧r 12=dA∧r 13=.int .i64 p.l.length∧∃i:Nat,r 14=.int .i64 i∧i≤p.l.length∧Has g r_ [.func 4294967296 [.ptr oD 0]]∧Has g rz [.func 53 [.ptr (aG r_) 0,.ptr (aG rz) 0]]∧
    I (d++[p]++kt (p.l.take i)) g∧Mod M h g) (fun r g=>p.l.length - (r 14).toN) ?_ ?_
   · exact ⟨by simp only [↓al,dB,simprocAttr],by simp only [↓al,dB,simprocAttr],by simp only [↓al,dB,simprocAttr],by simp only [↓al,dB,simprocAttr],0,by simp only [↓al,dB,simprocAttr]<;>rfl,by omega,Nu,hs,by rw [List.take_zero,kt,List.append_nil];exact c6,YF⟩
   rintro r g ⟨bs,cV,EZ,E0,i,E1,adm,Nv,MW,AL,Ep⟩
   unfold G2
   have ht:=L.mod (de:=fun b=>cB b<jV) Ep fun b q _=>⟨fun z=>by have:=E.bI b z;omega,q⟩
   by_cases aO:i<p.l.length
   · have g0:((i:Int) < (p.l.length:Int))=True:=eq_true (by omega)
     obtain ⟨b,off,wl,dy,X,iw,ld⟩:=bc.tx ht (k:=.i64) aO
     have lA:=ld g (Ext.refl g)
     have hn:=iw.one
     have fc:=nH aO (by unfold top at hle;omega)
     have b4:=tT (t:=p) (List.getElem_mem aO)
     obtain ⟨g1,dp,bu,Z⟩:=j6 g [.int .i64 0,.int .i64 0,.int .i64 0,.str [],.cq] [.int .i64 p.l[i].k,.int .i64 p.l[i].n,.int .i64 p.l[i].a,.str p.l[i].s,wl]
     have Am:=MW.ext bu
     have Ge:=Nv.ext bu
     simp +contextual only [bs,cV,EZ,E0,E1,g0,dy,lA,dp,Z.g,Am.g,hn.1,hn.2.1,xK,List.cons_append,List.nil_append,show (53=4294967296)=False from by simp,if_false,↓al,aw,simprocAttr]
     refine bV (JJ E a1 aC N p.l[i] (by omega) _ _ g1 (X.ext bu) Ge Am (E.ext AL bu)) ?_
     rintro x g2 ⟨rfl,da,m3⟩
     simp +contextual only [bs,cV,EZ,E0,E1,fc,↓al,aw,simprocAttr]
     exact ⟨⟨i+1,rfl,aO,Ge.mod m3 a1,Am.mod m3 aC,by rw [take_one aO,Ll,kt,kt,List.append_nil,←List.append_assoc];exact da,Ep.trans ((bu.mod M).trans m3)⟩,by omega⟩
   · have g0:((i:Int) < (p.l.length:Int))=False:=eq_false (by omega)
     rw [List.take_of_length_le (by omega)] at AL
     simp +contextual only [bs,cV,EZ,E0,E1,g0,↓al,aw,simprocAttr]
     exact ⟨by rw [Z5,←List.singleton_append,←List.append_assoc];exact AL,Ep⟩
theorem ace (ab:List V) (h:ae) (aP:ef ab=true) (aj:ab.length≤top):bK Tryz.prog 40 [.agg ab] h fun x aa=>∃n,x=.func 52 [.ptr (aG n) 0]∧Has aa n ab∧Ext h aa:=by
 refine PL rfl (dn ?_)
 unfold BC
 obtain ⟨U,ai,aF,eA⟩:=jv h ab
 have en:(ab.length≤17179869184)=True:=eq_true aj
 simp +contextual only [ai,aP,en,↓al,aw,simprocAttr]
 exact ⟨_,rfl,eA,aF⟩
set_option maxHeartbeats 1000000 in
theorem acd {jV:Nat} {oD:aN} {M:aN→Prop} {I:List bc→ae→Prop} (E:An jV oD M I) {tQ:Nat} (p:bc) (ab:List V) (h:ae) (H:cl (fun b=>cB b<jV) h p.enc ab) (MX:Has h tQ ab) (J:I [] h):
 bK Tryz.prog 52 [.func 4294967296 [.ptr oD 0],.ptr (aG tQ) 0] h fun x aa=>I p.pre aa∧Mod M h aa:=by
 obtain ⟨dA,rfl,L,_⟩:=bc.open H
 refine P' rfl (dn ?_)
 unfold BH
 obtain ⟨U,ai,aF,xm⟩:=jv h [.func 4294967296 [.ptr oD 0]]
 obtain ⟨ad,ay,aM,hs⟩:=j6 U [.iJ] [.func 53 [.ptr (aG h.next) 0,.ptr (aG U.next) 0]]
 have sF:=aF.trans aM
 have pf:=MX.ext sF
 have c8:¬M (aG h.next):=fun q=>EE (Nat.le_refl _) (E.b2 J _ q)
 have kX:¬M (aG U.next):=fun q=>EE (Nat.le_refl _) (E.b2 (E.ext J aF) _ q)
 have ol:=L.one
 simp +contextual only [ai,ay,hs.g,pf.g,ol.1,ol.2.1,xK,List.cons_append,List.nil_append,show (53=4294967296)=False from by simp,if_false,↓al,aw,simprocAttr]
 refine bV (JJ E c8 kX p.size p (Nat.le_refl _) [] _ ad (H.ext sF) (xm.ext aM) hs (E.ext J sF)) ?_
 rintro x aI ⟨rfl,da,m3⟩
 simp +contextual only [↓al,aw,simprocAttr]
 exact ⟨da,(sF.mod M).trans m3⟩
structure FR (ck qK m:Nat) (l:lS) (d:List bc) (h:ae):Prop where
 n:Has h ck [.int .i64 (IntKind.i64.wrap d.length)]
 bI:m<h.next
 l:h.get (aG m)=.dq l
 Ca:qK<h.next
 d:h.get (aG qK)=.eX
theorem aaF (v:V) (r:aS):p9 [6] [v] r 3=r 3:=by simp [p9,aS.tP,aS.set,d']
theorem acu (n:Nat):IntKind.i64.wrap (IntKind.i64.wrap (n:Int)+1)=IntKind.i64.wrap ((n+1:Nat):Int):=by
 rw [IntKind.wrap_i64,IntKind.wrap_i64,IntKind.wrap_i64];omega
set_option maxHeartbeats 1000000 in
theorem RA {jV ck qK m:Nat} {l:lS} {r:aS} (cS:jV≤ck) (qX:jV≤m) (c2:m≠ck) (CV:qK≠ck) (IJ:qK≠m) (F:xk Tryz.prog l 10 r [6] Bv Bw) (a6:l.st=0) (ag:l.ep=none) (aH:r 3=.ptr (aG ck) 0):
 An jV (aG m) (fun b=>b=aG ck∨b=aG m) (fun d h=>FR ck qK m l d h) where
 ext:=fun {d h aa} J e=>⟨J.n.ext e,Nat.lt_of_lt_of_le J.bI e.next,(e.get _ (gL J.bI)).trans J.l,Nat.lt_of_lt_of_le J.Ca e.next,(e.get _ (gL J.Ca)).trans J.d⟩
 b2:=fun {d h} J b af=>by
  rcases af with rfl | rfl
  · exact gL J.n.lt
  · exact gL J.bI
 bI:=fun b af=>by
  rcases af with rfl | rfl
  · rw [dV];exact cS
  · rw [dV];exact qX
 HH:=fun {d h} p ab J H=>by
  refine acI (by decide) follows c_ F J.l a6 rfl ?_
  have F':=J.n.set (m:=m) (fun q=>c2 q.symm) (.dq (l.go 1 l.ep))
  unfold Bv
  refine ⟨rfl,J.l,dn ?_⟩
  unfold Bw
  have dR:l.go 0 none=l:=by obtain ⟨st,ep,_,_,_,_,_,_⟩:=l;simp only at a6 ag;subst a6 ag;rfl
  simp +contextual only [aaF,aH,F'.g,acu,↓al,aw,simprocAttr]
  refine ⟨if_neg (fun q=>c2 q.symm),⟨?_,?_,?_,?_,?_⟩,?_⟩
  · refine Has.set ?_ (fun q=>c2 q.symm) _
    rw [List.length_append,List.length_singleton]
    exact F'.put _
  · exact J.bI
  · rw [dH,if_pos rfl,dR]
  · exact J.Ca
  · rw [dH,if_neg (fun q=>IJ (gB q).symm),dH,if_neg (fun q=>CV (gB q).symm),dH,if_neg (fun q=>IJ (gB q).symm)]
    exact J.d
  · exact (((Mod.refl _ h).set (fun _=>.inr rfl) _).set (fun _=>.inl rfl) _).set (fun _=>.inr rfl) _
set_option maxHeartbeats 1000000 in
theorem aa' (p:bc) (aR:p.size≤1000000000) (ab:List V) (h:ae) (H:cl Any h p.enc ab):bK Tryz.prog 15 [.agg ab] h fun x aa=>x=.int .i64 (p.size:Nat)∧Ext h aa:=by
 have sb:=H.Zm
 have aP:=H.ef
 obtain ⟨dA,cE,L,_⟩:=bc.open H
 have ov:ab.length≤top:=by rw [cE];simp [top]
 have ct:ab.length=5:=by rw [cE];rfl
 have Vs:(ab.length≤17179869184)=True:=eq_true ov
 refine Pq rfl (dn ?_)
 unfold Bu
 obtain ⟨U,ai,aF,eA⟩:=jv h ab
 obtain ⟨ad,ay,aM,F_⟩:=j6 U [.int .i64 0] [.int .i64 0]
 have gE:=eA.ext aM
 have g5:lB 5 (bS.bk ab 0 false) 0=some (.agg ab):=by rw [Ee,if_pos (by omega),List.drop_zero,List.take_of_length_le (by omega)]
 simp +contextual only [ai,ay,aP,Vs,gE.g,g5,↓al,aw,simprocAttr]
 refine bV (ace ab ad aP ov) ?_
 rintro x aI ⟨n,rfl,uE,cm⟩
 simp +contextual only [↓al,aw,simprocAttr]
 refine aam (g:=52) (cs:=[.ptr (aG n) 0]) (by simp only [↓al,dB,simprocAttr]) (by decide) ⟨_,Tryz.func52,by kernel_rfl⟩ ?_
 intro l F a6 ag
 have R_:Ext h aI:=aF.trans (aM.trans cm)
 have ha:Ext aI ((aI.new .eX).new (.dq l)):=((Ext.refl aI).new _).new _
 have HE:=R_.trans ha
 have e3:=aF.next
 have hi:=aM.next
 have yZ:=cm.next
 have X0:=F_.lt
 have Ni:Has ((aI.new .eX).new (.dq l)) U.next [.int .i64 0]:=(F_.ext cm).ext ha
 have E:=RA (jV:=h.next) (ck:=U.next) (qK:=aI.next) (m:=aI.next+1) (by omega) (by omega) (by omega) (by omega) (by omega) F a6 ag (by simp only [↓al,dB,simprocAttr])
 have ah:FR U.next aI.next (aI.next+1) l [] ((aI.new .eX).new (.dq l)):=by
  refine ⟨Ni,by rw [gn,gn];omega,l7 _,by rw [gn,gn];omega,?_⟩
  rw [gv,if_neg (fun q=>by have:=gB q;rw [gn] at this;omega),l7]
 refine (acd E p ab _ (sb.ext HE) (uE.ext ha) ah).mono ?_
 rintro x ct ⟨dC,m5⟩
 refine ⟨l,dC.l,by rw [a6];decide,?_⟩
 rw [ag]
 have Ga:=dC.n.set (m:=aI.next+1) (by omega) .dead
 have hw:IntKind.i64.wrap (p.pre.length:Int)=((p.size:Nat):Int):=by rw [Lj,wrap_i64 (by omega) (by omega)]
 rw [hw] at Ga
 have Cx:(ct.set (aG (aI.next+1)) .dead).get (aG aI.next)=.eX:=by rw [dH,if_neg (fun q=>by have:=gB q;omega)];exact dC.d
 have Sb:Ext h (ct.set (aG (aI.next+1)) .dead):=by
  refine (HE.oJ m5 fun b af=>?_).set (by omega) _
  rcases af with rfl | rfl
  · rw [dV];omega
  · rw [dV];omega
 simp +contextual only [Option.getD_none,Ga.g,d',V.list,aS.bk,pR,Cx,↓al,aw,simprocAttr]
 exact Sb.set (by omega) _
structure gi where
 first:List Int:=[]
 rest:Int:=0
 least:Int:=0
 ib:Int:=0
 last:List Int:=[]
 bI:Int:=0
 aC:Int:=0
 s:Int:=0
def gi.enc (r:gi):List D:=[.l 1 (r.first.map aY.encI),.i .i64 r.rest,.i .i64 r.least,.i .i64 r.ib,.l 1 (r.last.map aY.encI),.i .i64 r.bI,.i .i64 r.aC,.i .i64 r.s]
def oR:List (Int × gi):=
 [(1,{s:=3}),(2,{s:=1,rest:=1,ib:=64}),(3,{first:=[1,1]}),(4,{first:=[1,1]}),
  (10,{}),(13,{}),(11,{s:=1}),(12,{bI:=-1073741824,aC:=1073741823}),(14,{aC:=1}),(15,{first:=[2,2]}),(16,{s:=2,rest:=2,ib:=1}),
  (20,{bI:=-1073741824,aC:=1073741823}),(21,{s:=4}),(22,{}),(23,{aC:=1}),(24,{s:=1}),(25,{s:=2,rest:=3,ib:=1}),(26,{first:=[3,3]}),(28,{first:=[3,3]}),(35,{first:=[3,3]}),(37,{first:=[3,3]}),
  (38,{s:=5,first:=[3,3]}),(34,{first:=[3]}),(36,{first:=[3]}),(39,{first:=[3]}),(31,{first:=[3,3,3]}),(27,{first:=[2,3]}),(29,{first:=[2,3,3]}),
  (30,{rest:=5,least:=1,ib:=1073741824,last:=[3]}),(32,{first:=[3],rest:=4,least:=1,ib:=1073741824}),(33,{first:=[3],rest:=4,least:=1,ib:=1073741824}),
  (45,{first:=[2,3]}),(46,{s:=1,first:=[9]}),(47,{s:=2,rest:=1,ib:=1}),(51,{s:=2,rest:=1,ib:=1}),(52,{first:=[2,3]}),(53,{rest:=5,least:=1,ib:=1073741824}),
  (50,{s:=1,aC:=64,rest:=6,least:=1,ib:=1073741824})]
def zT:List (Int × List D):=oR.map fun x=>(x.1,x.2.enc)
set_option maxRecDepth 100000 in
theorem aaL:zl ctx 100000 35 (fun aq v=>zk aq 1000 zT v)=true:=by kernel_rfl
theorem aaK (h:ae):bK Tryz.prog 35 [] h fun x aa=>Ext h aa∧k8 (Gb h) aa zT x:=
 Rw (C:=ctx) follows c_ EY (by kernel_rfl) (by kernel_rfl) ⟨_,Tryz.func35,by kernel_rfl⟩ aaL h
def e1 (k:Int):Int:=if 1≤k∧k≤4 then 1 else if 10≤k∧k≤16 then 2 else if 20≤k∧k≤39 then 3 else if k=45 then 4 else if k=46 then 5 else if k=47 then 6 else if 50≤k∧k≤53 then 7 else 0
theorem Kb {a b:Int} (h:a≤b):(a≤b)=True:=eq_true h
theorem Ka {a b:Int} (h:b<a):(a≤b)=False:=eq_false (by omega)
theorem sR {a b:Int} (h:b≤a):(a≥b)=True:=eq_true h
theorem u_ {a b:Int} (h:a<b):(a≥b)=False:=eq_false (by omega)
theorem JE {a b:Int} (h:a=b):(a=b)=True:=eq_true h
theorem JD {a b:Int} (h:a<b∨b<a):(a=b)=False:=eq_false (by omega)
set_option maxHeartbeats 4000000 in
theorem Io (k:Int) (h:ae):bK Tryz.prog 36 [.int .i64 k] h fun x aa=>x=.int .i64 (e1 k)∧aa=h:=by
 refine Py rfl (dn ?_)
 unfold By e1
 have av:k<1∨(1≤k∧k≤4)∨(5≤k∧k≤9)∨(10≤k∧k≤16)∨(17≤k∧k≤19)∨(20≤k∧k≤39)∨(40≤k∧k≤44)∨k=45∨k=46∨k=47∨(48≤k∧k≤49)∨(50≤k∧k≤53)∨54≤k:=by omega
 rcases av with q | q | q | q | q | q | q | q | q | q | q | q | q<;>simp +contextual (disch:=omega) only [Kb,Ka,sR,u_,JE,JD,and_true,and_false,true_and,false_and,if_true,if_false,↓al,aw,simprocAttr]<;>trivial
set_option maxHeartbeats 4000000 in
theorem Fb (k:Int) (h:ae):bK Tryz.prog 38 [.int .i64 k] h fun x aa=>x=.int .i64 (e1 k)∧aa=h:=by
 refine PE rfl (dn ?_)
 unfold BA e1
 have av:k<1∨(1≤k∧k≤4)∨(5≤k∧k≤9)∨(10≤k∧k≤16)∨(17≤k∧k≤19)∨(20≤k∧k≤39)∨(40≤k∧k≤44)∨k=45∨k=46∨k=47∨(48≤k∧k≤49)∨(50≤k∧k≤53)∨54≤k:=by omega
 rcases av with q | q | q | q | q | q | q | q | q | q | q | q | q<;>simp +contextual (disch:=omega) only [Kb,Ka,sR,u_,JE,JD,and_true,and_false,true_and,false_and,if_true,if_false,↓al,aw,simprocAttr]<;>trivial
def pL (k g:Int):Bool:=if g=8 then decide (k=1) else if g=9 then decide (k=27) else decide (e1 k=g)
set_option maxHeartbeats 1000000 in
theorem V5 (t:bc) (g:Int) (ab:List V) (h:ae) (H:cl Any h t.enc ab):bK Tryz.prog 48 [.agg ab,.int .i64 g] h fun x aa=>x=.bool (pL t.k g)∧Ext h aa:=by
 obtain ⟨dA,rfl,L,_⟩:=bc.open H
 have ol:=L.one
 refine PV rfl (dn ?_)
 unfold BF pL
 obtain ⟨U,ai,aF,eA⟩:=jv h [.int .i64 t.k,.int .i64 t.n,.int .i64 t.a,.str t.s,dA]
 by_cases a:g=8
 · simp +contextual only [ol.1,ol.2.1,ai,eA.g,eq_true a,if_true,↓al,aw,simprocAttr]
   exact aF
 · by_cases b:g=9
   · simp +contextual only [ol.1,ol.2.1,ai,eA.g,eq_false a,eq_true b,if_true,if_false,↓al,aw,simprocAttr]
     exact aF
   · simp +contextual only [ol.1,ol.2.1,ai,eA.g,eq_false a,eq_false b,if_false,↓al,aw,simprocAttr]
     refine bV (Io t.k U) ?_
     rintro x ad ⟨rfl,rfl⟩
     simp +contextual only [↓al,aw,simprocAttr]
     exact aF
def t_ (k:Int):List (Int × gi)→Option gi
 | []=>none
 | (n,r)::l=>if k=n then some r else t_ k l
def lK (k:Int):Option gi:=t_ k oR
theorem H5 (k:Int):∀l:List (Int × gi),ko k (l.map fun x=>(x.1,x.2.enc))=(t_ k l).map gi.enc
 | []=>rfl
 | (n,r)::l=>by
   simp only [List.map_cons,ko,t_]
   split
   · rfl
   · exact H5 k l
theorem SH (k:Int):ko k zT=(lK k).map gi.enc:=H5 k oR
def opsL:List (List UInt8):=[[43],[45],[42],[47],[109,111,100],[61],[60],[60,61]]
section
variable (named:Int→List UInt8→Bool)
def ui (kO:Int) (s:List UInt8):Bool:=
 if kO=1 then named 3 s else if kO=2 then named 4 s else if kO=3 then named 5 s else if kO=4 then decide (s.length≤4096) else if kO=5 then opsL.contains s else decide (s=[])
def firstM (r:gi) (k n:Int):List Int:=if k=50 then List.replicate n.toNat 8 else r.first
def fm (r:gi) (k n:Int) (len:Nat):Int:=(len:Int) - (firstM r k n).length-r.last.length
def kH (r:gi) (k n:Int) (len:Nat):List Int:=firstM r k n++List.replicate (fm r k n len).toNat r.rest++r.last
def vh (r:gi) (k n a:Int) (s:List UInt8):Bool:=
 decide (r.bI≤n)&&decide (n≤r.aC)&&decide (0≤a)&&decide (a≤65536)&&ui named r.s s
def ia (r:gi) (k n:Int) (len:Nat):Bool:=decide (r.least≤fm r k n len)&&decide (fm r k n len≤r.ib)
mutual
def bc.may:bc→Bool
 | .mk k n a s l=>match lK k with
   | none=>false
   | some r=>vh named r k n a s&&ia r k n l.length&&ks (kH r k n l.length) l
def ks:List Int→List bc→Bool
 | _,[]=>true
 | [],_::_=>true
 | g::gs,t::l=>pL t.k g&&t.may&&ks gs l
end
def rY (k:Int) (s:List UInt8):Bool:=
 if k=1 then named 5 s else if k=2∨k=11∨k=24∨k=46∨k=50 then named 3 s else if k=16∨k=25∨k=47∨k=51 then named 4 s else
 if k=21 then decide (s.length≤4096) else if k=38 then opsL.contains s else decide (s=[])
def gC (k n:Int) (len:Nat):Bool:=
 if k=12∨k=20 then decide (-1073741824≤n)&&decide (n≤1073741823) else if k=14∨k=23 then decide (n=0)||decide (n=1) else
 if k=50 then decide (0≤n)&&decide (n≤64)&&decide (n < (len:Int)) else decide (n=0)
def Ct:List bc→Bool
 | t::_=>decide (t.k=27)
 | []=>false
def cL (k n:Int) (l:List bc):List Int × Bool:=
 let len:=l.length
 if k=2 then (List.replicate len 1,decide (len≤64))
 else if k=3∨k=4 then (List.replicate 2 1,decide (len=2))
 else if k=15 then (List.replicate 2 2,decide (len=2))
 else if k=16 then (List.replicate len 2,decide (len≤1))
 else if k=25 then (List.replicate len 3,decide (len≤1))
 else if k=26∨k=28∨k=35∨k=37∨k=38 then (List.replicate 2 3,decide (len=2))
 else if k=34∨k=36∨k=39 then (List.replicate 1 3,decide (len=1))
 else if k=31 then (List.replicate 3 3,decide (len=3))
 else if k=27∨k=45∨k=52 then ([2,3],decide (len=2))
 else if k=29 then ([2,3,3],decide (len=3))
 else if k=30 then (List.replicate (len-1) 5++[3],decide (2≤len))
 else if k=32∨k=33 then ([3]++List.replicate (len-1) 4,decide (2≤len))
 else if k=46 then (List.replicate 1 3,decide (len=1)&&Ct l)
 else if k=47∨k=51 then (List.replicate len 1,decide (len≤1))
 else if k=50 then (List.replicate n.toNat 8++List.replicate (len-n.toNat) 6,true)
 else if k=53 then (List.replicate len 5,decide (1≤len))
 else ([],decide (len=0))
def p8 (k g:Int):Bool:=if g=8 then decide (k=1) else decide (e1 k=g)
mutual
def bc.hI:bc→Bool
 | .mk k n a s l=>decide (e1 k≠0)&&rY named k s&&gC k n l.length&&decide (0≤a)&&decide (a≤65536)&&(cL k n l).2&&ku (cL k n l).1 l
def ku:List Int→List bc→Bool
 | _,[]=>true
 | [],_::_=>true
 | g::gs,t::l=>p8 t.k g&&t.hI&&ku gs l
end
end
theorem zS {k:Int} {r:gi}:∀{l:List (Int × gi)},t_ k l=some r→(k,r) ∈ l
 | [],h=>by cases h
 | (n,q)::l,h=>by
   simp only [t_] at h
   split at h
   · cases h;rename_i e;subst e;simp
   · exact List.mem_cons_of_mem _ (zS h)
theorem LV {k:Int} (h:lK k=none):e1 k=0:=by
 by_cases az:1≤k∧k≤53
 · obtain ⟨n,rfl⟩:=Int.eq_ofNat_of_zero_le (show 0≤k by omega)
   have key:∀n<54,(lK ((n:Nat):Int)).isNone=true→e1 ((n:Nat):Int)=0:=by decide
   exact key n (by omega) (by rw [h];rfl)
 · unfold e1
   rw [if_neg (by omega),if_neg (by omega),if_neg (by omega),if_neg (by omega),if_neg (by omega),if_neg (by omega),if_neg (by omega)]
section
variable {named:Int→List UInt8→Bool}
theorem aaB {k g:Int} (h:g≠9):p8 k g=pL k g:=by
 unfold p8 pL
 by_cases sU:g=8
 · rw [if_pos sU,if_pos sU]
 · rw [if_neg sU,if_neg sU,if_neg h]
theorem Le:∀{gs:List Int} {l:List bc},(∀t ∈ l,t.hI named=t.may named)→(∀g ∈ gs,g≠9)→ku named gs l=ks named gs l
 | [],[],_,_=>by rw [ku,ks]
 | g::gs,[],_,_=>by rw [ku,ks]
 | [],t::l,_,_=>by rw [ku,ks]
 | g::gs,t::l,h,aD=>by
   rw [ku,ks,h t (by simp),aaB (aD g (by simp)),Le (fun t aB=>h t (by simp [aB])) (fun g h=>aD g (by simp [h]))]
theorem YL {k n a:Int} {s:List UInt8} {l:List bc} {r:gi} (az:e1 k≠0) (a6:∀t ∈ l,t.hI named=t.may named) (aH:lK k=some r)
 (U:rY named k s=ui named r.s s) (ad:(gC k n l.length&&(cL k n l).2)=(decide (r.bI≤n)&&decide (n≤r.aC)&&ia r k n l.length))
 (aI:ia r k n l.length=true→r.bI≤n→(cL k n l).1=kH r k n l.length) (CD:∀g ∈ kH r k n l.length,g≠9):(bc.mk k n a s l).hI named=(bc.mk k n a s l).may named:=by
 rw [bc.hI,bc.may,aH]
 simp only
 unfold vh
 rw [decide_eq_true az,Bool.true_and,U]
 cases cy:ia r k n l.length with
 | false=>
   rw [cy,Bool.and_false] at ad
   simp only [Bool.and_false]
   have:(gC k n l.length&&(cL k n l).2)=false:=ad
   rw [Bool.and_eq_false_iff] at this
   rcases this with q | q<;>rw [q]<;>simp
 | true=>
   rw [cy,Bool.and_true] at ad
   by_cases dL:r.bI≤n
   · rw [aI cy dL,Le a6 CD]
     have:∀x y z w u v:Bool,(x&&y&&z&&w&&u&&v)=(x&&(y&&u)&&z&&w&&v):=by decide
     rw [this,ad]
     simp only [Bool.and_true]
     have:∀x y z w u v:Bool,(x&&(y&&z)&&w&&u&&v)=(y&&z&&w&&u&&x&&v):=by decide
     rw [this]
   · rw [decide_eq_false dL,Bool.false_and] at ad
     rw [decide_eq_false dL]
     simp only [Bool.false_and]
     rw [Bool.and_eq_false_iff] at ad
     rcases ad with q | q<;>rw [q]<;>simp
set_option maxHeartbeats 4000000 in
theorem KB:∀(N:Nat) (t:bc),t.size≤N→N≤1000000000→t.hI named=t.may named
 | 0,t,aR,_=>by have:=tU t;omega
 | N+1,.mk k n a s l,aR,bt=>by
   have h7:l.length≤1000000000:=by have:=zA l;simp only [bc.size] at aR;omega
   have a6:∀t ∈ l,t.hI named=t.may named:=fun t aB=>KB N t (by have:=tT (t:=.mk k n a s l) (u:=t) aB;omega) (by omega)
   cases aH:lK k with
   | none=>
     rw [bc.hI,bc.may,aH,LV aH]
     simp
   | some r=>
     have hm:=zS (l:=oR) aH
     by_cases Iv:k=46
     · subst Iv
       have:r={s:=1,first:=[9]}:=by
        have:lK 46=some {s:=1,first:=[9]}:=by rfl
        rw [aH] at this
        exact Option.some.inj this
       subst this
       rw [bc.hI,bc.may,aH]
       simp only
       have aF:rY named 46 s=ui named 1 s:=by rfl
       have aM:gC 46 n l.length=(decide (0≤n)&&decide (n≤0)):=by
        rw [Bool.eq_iff_iff];simp [gC];omega
       unfold vh
       rw [aF,aM,decide_eq_true (show e1 46≠0 by decide)]
       match l,a6 with
       | [],_=>simp [cL,ia,fm,firstM]
       | [t],a6=>
         have aD:kH {s:=1,first:=[9]} 46 n [t].length=[9]:=by simp [kH,firstM,fm]
         have q7:cL 46 n [t]=([3],decide (t.k=27)):=by simp [cL,Ct]
         rw [aD,q7,ku,ks,ku,ks,a6 t (by simp)]
         have cy:ia {s:=1,first:=[9]} 46 n [t].length=true:=by simp [ia,fm,firstM]
         rw [cy]
         have aC:pL t.k 9=decide (t.k=27):=by simp [pL]
         rw [aC]
         by_cases CA:t.k=27
         · rw [decide_eq_true CA]
           have:p8 t.k 3=true:=by rw [CA];decide
           rw [this]
           have:∀x y z w u v:Bool,(true&&x&&(y&&z)&&w&&u&&true&&(true&&v&&true))=(y&&z&&w&&u&&x&&true&&(true&&v&&true)):=by decide
           apply this
         · rw [decide_eq_false CA]
           simp
       | t::u::l,_=>
         have U:(cL 46 n (t::u::l)).2=false:=by simp [cL]
         have ad:ia {s:=1,first:=[9]} 46 n (t::u::l).length=false:=by
          simp [ia,fm,firstM]
         rw [U,ad]
         simp
     · simp only [oR,List.mem_cons,Prod.mk.injEq,List.not_mem_nil,or_false] at hm
       rcases hm with h | h | h | h | h | h | h | h | h | h | h | h | h | h | h | h | h | h | h | h | h | h | h | h | h | h | h | h | h | h | h | h | h | h | h | h | h | h<;>
       obtain ⟨rfl,rfl⟩:=h<;>first | (exact absurd rfl Iv) | skip
       all_goals
        refine YL (by decide) a6 aH (by rfl) ?_ ?_ ?_
        · rw [Bool.eq_iff_iff]
          simp [gC,cL,ia,fm,firstM]
          try omega
        · intro cy dL
          simp [cL,ia,fm,firstM,kH] at cy dL ⊢
          try omega
        · simp [kH,firstM,fm]
          try (intro g aD;omega)
end
end Go.Proofs.YtkehcalakofigaaGreatDoor
namespace Go.Proofs.YtkehcalakofigaaGreatDoor
open Go aY
theorem bc.vT [Lay] {F:aN→Prop} {h:ae} {l:List bc} {v:V} (H:cM F h 5 (l.map bc.enc) v) {k:IntKind} {i:Nat} (aC:i<l.length):
 ∃b off dA,jd 5 v (.int k i)=some (.ptr b (off+i * 5))∧cl F h l[i].enc [.int .i64 l[i].k,.int .i64 l[i].n,.int .i64 l[i].a,.str l[i].s,dA]∧cM F h 5 (l[i].l.map bc.enc) dA∧
  (∀aa,Ext h aa→lB 5 (aa.get b) (off+i * 5)=some (.agg [.int .i64 l[i].k,.int .i64 l[i].n,.int .i64 l[i].a,.str l[i].s,dA]))∧
  (∀aa,Ext h aa→gV (aa.get b) (off+i * 5)=some (.int .i64 l[i].k))∧(∀aa,Ext h aa→gV (aa.get b) (off+i * 5+3)=some (.str l[i].s))∧(∀aa,Ext h aa→gV (aa.get b) (off+i * 5+4)=some dA):=by
 obtain ⟨b,off,u,aF,aM,cm,gH,iV⟩:=H.at (k:=k) (i:=i) (by rw [List.length_map];exact aC)
 rw [List.getElem_map] at aM
 obtain ⟨dA,rfl,L,_⟩:=bc.open aM
 exact ⟨b,off,dA,aF,aM,L,gH,fun aa e=>by simpa using iV aa e 0 (by omega),fun aa e=>by simpa using iV aa e 3 (by omega),fun aa e=>by simpa using iV aa e 4 (by omega)⟩
theorem Me (k n a:Int) (t z:List UInt8) (h:ae) (aB:t.length≤100000):bK Tryz.prog 73 [.agg [.int .i64 k,.int .i64 n,.int .i64 a,.str t],.str z] h fun x aa=>x=.bool (decide (z=(if k=5 then 39::t else t)))∧Ext h aa:=by
 refine Qz rfl (dn ?_)
 unfold BR
 obtain ⟨U,ai,aF,eA⟩:=jv h [.int .i64 k,.int .i64 n,.int .i64 a,.str t]
 by_cases az:k=5
 · have aj:(1+t.length≤17179869184)=True:=eq_true (by omega)
   simp +contextual only [ai,eA.g,eq_true az,aj,if_true,List.cons_append,List.nil_append,↓al,aw,simprocAttr]
   exact aF
 · simp +contextual only [ai,eA.g,eq_false az,if_false,↓al,aw,simprocAttr]
   exact aF
theorem Kh:∀(f:Nat) (r:List UInt8) (p:Nat) (ws:List bQ),kl f r p=.ok ws→∀w ∈ ws,w.kind=3∨w.kind=4∨w.kind=5→w.text.length≤64:=fun f r p ws h w hw az=>by
 obtain ⟨_,g,_⟩:=Et (vZ f r p ws h w hw az)
 exact g
set_option maxHeartbeats 2000000 in
theorem FK (k:Int) (az:k=3∨k=4∨k=5) (s:List UInt8) (h:ae):bK Tryz.prog 62 [.int .i64 k,.str s] h fun x aa=>x=.bool (dd k s)∧Ext h aa:=by
 rw [←aci az]
 refine Qh rfl (dn ?_)
 unfold BK
 by_cases CC:(64:Int) < (s.length:Int)
 · have hw:o3 k s=false:=by unfold o3;rw [decide_eq_false (show ¬s.length≤64 by omega)];simp
   simp +contextual only [eq_true CC,hw,↓al,aw,simprocAttr]
   exact Ext.refl _
 by_cases ml:s=[]
 · have hw:o3 k s=false:=by unfold o3;rw [ml];simp
   simp +contextual only [eq_false CC,eq_true ml,hw,↓al,aw,simprocAttr]
   exact Ext.refl _
 have f64:=eq_false CC
 have H_:=eq_false ml
 have hw:o3 k s=(match iI (if k=5 then 39::s else s) with
  | .ok [w]=>decide (w.kind=k)&&decide (w.pos=0)&&decide (w.text≠[])&&decide ((if k=5 then 39::s else s)=(if w.kind=5 then 39::w.text else w.text))
  | _=>false):=by
  unfold o3
  rw [decide_eq_true (show s.length≤64 by omega),decide_eq_true ml]
  rfl
 rw [hw]
 clear hw
 have UD:(1+s.length≤17179869184)=True:=eq_true (by omega)
 generalize bn:(if k=5 then 39::s else s)=z
 have ct:(k=5∧z=39::s)∨(¬k=5∧z=s):=by
  by_cases ct:k=5
  · exact .inl ⟨ct,by rw [←bn,if_pos ct]⟩
  · exact .inr ⟨ct,by rw [←bn,if_neg ct]⟩
 clear bn
 rcases ct with ⟨ct,bn⟩ | ⟨ct,bn⟩
 · simp +contextual only [f64,H_,eq_true ct,UD,List.cons_append,List.nil_append,↓al,aw,simprocAttr]
   rw [←bn]
   clear bn
   refine bV (Kj z h) ?_
   rintro x U ⟨aF,ao⟩
   cases cy:iI z with
   | error e=>
     rw [cy] at ao
     simp only at ao
     subst ao
     obtain ⟨ad,ay,aM,gE⟩:=j6 U [.int .i64 0,.int .i64 0] [.int .i64 e.1,.int .i64 e.2]
     by_cases he:e.1=0
     · simp +contextual only [ay,gE.g,eq_true he,↓al,aw,simprocAttr]
       exact aF.trans aM
     · simp +contextual only [ay,gE.g,eq_false he,↓al,aw,simprocAttr]
       exact aF.trans aM
   | ok ws=>
     rw [cy] at ao
     simp only at ao
     obtain ⟨v,rfl,S⟩:=ao
     obtain ⟨ad,ay,aM,gE⟩:=j6 U [.int .i64 0,.int .i64 0] [.int .i64 0,.int .i64 0]
     have ju:=(S.ext aM).v
     have aj:=ju.len
     have cD:=ju.one
     match ws,cy,ju,aj with
     | [],_,ju,aj=>
       have en:iH v=some (.int .i64 0):=aj
       simp +contextual only [ay,gE.g,en,cD.1,cD.2.1,↓al,aw,simprocAttr]
       exact aF.trans aM
     | [w],cy,ju,aj=>
       have en:iH v=some (.int .i64 1):=aj
       obtain ⟨bJ,cQ,ry,lW⟩:=ju.dy (k:=.i64) (i:=0) (by simp)
       have ow:jd 4 v (.int .i64 0)=some (.ptr bJ cQ):=by simpa using ry
       have d0:gV (ad.get bJ) cQ=some (.int .i64 w.kind):=by have:=lW.fU (i:=0) (by simp [gN,bQ.enc]);simpa [gN,bQ.enc] using this
       have d2:gV (ad.get bJ) (cQ+2)=some (.int .i64 w.pos):=by have:=lW.fU (i:=2) (by simp [gN,bQ.enc]);simpa [gN,bQ.enc] using this
       have d3:gV (ad.get bJ) (cQ+3)=some (.str w.text):=by have:=lW.fU (i:=3) (by simp [gN,bQ.enc]);simpa [gN,bQ.enc] using this
       have eY:lB 4 (ad.get bJ) cQ=some (.agg [.int .i64 w.kind,.int .i64 w.num,.int .i64 w.pos,.str w.text]):=by have:=lW.hT (i:=0) (n:=4) (by simp [gN,bQ.enc]);simpa [gN,bQ.enc] using this
       by_cases bB:w.kind=k
       · by_cases bX:(w.pos:Int)=0
         · by_cases c3:w.text=[]
           · have lY:((0:Int) < (w.text.length:Int))=False:=by rw [c3];simp
             simp +contextual only [ay,gE.g,en,cD.1,cD.2.1,ow,d0,d2,d3,eY,eq_true bB,eq_true bX,lY,↓al,aw,simprocAttr]
             exact ⟨by rw [c3];simp,aF.trans aM⟩
           · have lY:((0:Int) < (w.text.length:Int))=True:=eq_true (by have:=List.length_pos_iff.2 c3;omega)
             have aB:w.text.length≤64:=by
              have hm:w.kind=3∨w.kind=4∨w.kind=5:=by rw [bB];exact az
              unfold iI at cy
              split at cy
              · cases cy
              · split at cy
                · cases cy
                · exact Kh _ _ _ _ cy w (by simp) hm
             simp +contextual only [ay,gE.g,en,cD.1,cD.2.1,ow,d0,d2,d3,eY,eq_true bB,eq_true bX,lY,↓al,aw,simprocAttr]
             refine bV (Me _ _ _ w.text z ad (by omega)) ?_
             rintro x aI ⟨rfl,cm⟩
             simp +contextual only [↓al,aw,simprocAttr]
             refine ⟨?_,(aF.trans aM).trans cm⟩
             have uW:w.pos=0:=by omega
             simp [bB,uW,c3]
         · simp +contextual only [ay,gE.g,en,cD.1,cD.2.1,ow,d0,d2,d3,eY,eq_true bB,eq_false bX,↓al,aw,simprocAttr]
           exact ⟨by have:¬w.pos=0:=by omega
                     simp [this],aF.trans aM⟩
       · simp +contextual only [ay,gE.g,en,cD.1,cD.2.1,ow,d0,d2,d3,eY,eq_false bB,↓al,aw,simprocAttr]
         first | exact aF.trans aM | exact ⟨by simp [bB],aF.trans aM⟩
     | w::bH::ws,_,ju,aj=>
       have en:(((ws.length+2:Nat):Int)=1)=False:=eq_false (by omega)
       have Dh:iH v=some (.int .i64 ((ws.length+2:Nat):Int)):=aj
       simp +contextual only [ay,gE.g,Dh,en,cD.1,cD.2.1,↓al,aw,simprocAttr]
       exact aF.trans aM
 · simp +contextual only [f64,H_,eq_false ct,↓al,aw,simprocAttr]
   rw [←bn]
   clear bn
   refine bV (Kj z h) ?_
   rintro x U ⟨aF,ao⟩
   cases cy:iI z with
   | error e=>
     rw [cy] at ao
     simp only at ao
     subst ao
     obtain ⟨ad,ay,aM,gE⟩:=j6 U [.int .i64 0,.int .i64 0] [.int .i64 e.1,.int .i64 e.2]
     by_cases he:e.1=0
     · simp +contextual only [ay,gE.g,eq_true he,↓al,aw,simprocAttr]
       exact aF.trans aM
     · simp +contextual only [ay,gE.g,eq_false he,↓al,aw,simprocAttr]
       exact aF.trans aM
   | ok ws=>
     rw [cy] at ao
     simp only at ao
     obtain ⟨v,rfl,S⟩:=ao
     obtain ⟨ad,ay,aM,gE⟩:=j6 U [.int .i64 0,.int .i64 0] [.int .i64 0,.int .i64 0]
     have ju:=(S.ext aM).v
     have aj:=ju.len
     have cD:=ju.one
     match ws,cy,ju,aj with
     | [],_,ju,aj=>
       have en:iH v=some (.int .i64 0):=aj
       simp +contextual only [ay,gE.g,en,cD.1,cD.2.1,↓al,aw,simprocAttr]
       exact aF.trans aM
     | [w],cy,ju,aj=>
       have en:iH v=some (.int .i64 1):=aj
       obtain ⟨bJ,cQ,ry,lW⟩:=ju.dy (k:=.i64) (i:=0) (by simp)
       have ow:jd 4 v (.int .i64 0)=some (.ptr bJ cQ):=by simpa using ry
       have d0:gV (ad.get bJ) cQ=some (.int .i64 w.kind):=by have:=lW.fU (i:=0) (by simp [gN,bQ.enc]);simpa [gN,bQ.enc] using this
       have d2:gV (ad.get bJ) (cQ+2)=some (.int .i64 w.pos):=by have:=lW.fU (i:=2) (by simp [gN,bQ.enc]);simpa [gN,bQ.enc] using this
       have d3:gV (ad.get bJ) (cQ+3)=some (.str w.text):=by have:=lW.fU (i:=3) (by simp [gN,bQ.enc]);simpa [gN,bQ.enc] using this
       have eY:lB 4 (ad.get bJ) cQ=some (.agg [.int .i64 w.kind,.int .i64 w.num,.int .i64 w.pos,.str w.text]):=by have:=lW.hT (i:=0) (n:=4) (by simp [gN,bQ.enc]);simpa [gN,bQ.enc] using this
       by_cases bB:w.kind=k
       · by_cases bX:(w.pos:Int)=0
         · by_cases c3:w.text=[]
           · have lY:((0:Int) < (w.text.length:Int))=False:=by rw [c3];simp
             simp +contextual only [ay,gE.g,en,cD.1,cD.2.1,ow,d0,d2,d3,eY,eq_true bB,eq_true bX,lY,↓al,aw,simprocAttr]
             exact ⟨by rw [c3];simp,aF.trans aM⟩
           · have lY:((0:Int) < (w.text.length:Int))=True:=eq_true (by have:=List.length_pos_iff.2 c3;omega)
             have aB:w.text.length≤64:=by
              have hm:w.kind=3∨w.kind=4∨w.kind=5:=by rw [bB];exact az
              unfold iI at cy
              split at cy
              · cases cy
              · split at cy
                · cases cy
                · exact Kh _ _ _ _ cy w (by simp) hm
             simp +contextual only [ay,gE.g,en,cD.1,cD.2.1,ow,d0,d2,d3,eY,eq_true bB,eq_true bX,lY,↓al,aw,simprocAttr]
             refine bV (Me _ _ _ w.text z ad (by omega)) ?_
             rintro x aI ⟨rfl,cm⟩
             simp +contextual only [↓al,aw,simprocAttr]
             refine ⟨?_,(aF.trans aM).trans cm⟩
             have uW:w.pos=0:=by omega
             simp [bB,uW,c3]
         · simp +contextual only [ay,gE.g,en,cD.1,cD.2.1,ow,d0,d2,d3,eY,eq_true bB,eq_false bX,↓al,aw,simprocAttr]
           exact ⟨by have:¬w.pos=0:=by omega
                     simp [this],aF.trans aM⟩
       · simp +contextual only [ay,gE.g,en,cD.1,cD.2.1,ow,d0,d2,d3,eY,eq_false bB,↓al,aw,simprocAttr]
         first | exact aF.trans aM | exact ⟨by simp [bB],aF.trans aM⟩
     | w::bH::ws,_,ju,aj=>
       have en:(((ws.length+2:Nat):Int)=1)=False:=eq_false (by omega)
       have Dh:iH v=some (.int .i64 ((ws.length+2:Nat):Int)):=aj
       simp +contextual only [ay,gE.g,Dh,en,cD.1,cD.2.1,↓al,aw,simprocAttr]
       exact aF.trans aM
theorem yY {k:Int} (h:e1 k≠0):k=1∨k=2∨k=3∨k=4∨k=10∨k=13∨k=11∨k=12∨k=14∨k=15∨k=16∨k=20∨k=21∨k=22∨k=23∨k=24∨k=25∨k=26∨k=28∨k=35∨k=37∨k=38∨k=34∨k=36∨k=39∨k=31∨k=27∨k=29∨k=30∨k=32∨k=33∨k=45∨k=46∨k=47∨k=51∨k=52∨k=53∨k=50:=by
 cases aH:lK k with
 | none=>exact absurd (LV aH) h
 | some r=>
   have hm:=zS (l:=oR) aH
   simp only [oR,List.mem_cons,Prod.mk.injEq,List.not_mem_nil,or_false] at hm
   omega
theorem ZM (h:ae):bK Tryz.prog 66 [] h fun x aa=>x=.slice (aG h.next) 0 8 8∧aa=h.new (.bk (mI opsL) 0 false):=by
 refine Qq rfl (dn ?_)
 unfold BN
 simp +contextual only [↓al,aw,simprocAttr]
 rfl
set_option maxHeartbeats 4000000 in
theorem abJ (t:bc) (az:e1 t.k≠0) (ab:List V) (h:ae) (H:cl Any h t.enc ab):bK Tryz.prog 49 [.agg ab] h fun x aa=>x=.bool (rY dd t.k t.s)∧Ext h aa:=by
 obtain ⟨dA,rfl,L,aR⟩:=bc.open H
 have ol:=L.one
 obtain ⟨k,n,a,s,l⟩:=t
 simp only [bc.k,bc.n,bc.a,bc.s,bc.l] at *
 refine PY rfl (dn ?_)
 unfold c49
 obtain ⟨U,ai,aF,eA⟩:=jv h [.int .i64 k,.int .i64 n,.int .i64 a,.str s,dA]
 have g1:=eA.g
 clear L H
 rcases yY az with rfl | rfl | rfl | rfl | rfl | rfl | rfl | rfl | rfl | rfl | rfl | rfl | rfl | rfl | rfl | rfl | rfl | rfl | rfl | rfl | rfl | rfl | rfl | rfl | rfl | rfl | rfl | rfl | rfl | rfl | rfl | rfl | rfl | rfl | rfl | rfl | rfl | rfl
 · simp +contextual only [ol.1,ol.2.1,ai,g1,↓al,aw,simprocAttr]
   refine bV (ny 5 s aR (by simp) U) ?_
   rintro x ad ⟨rfl,aM⟩
   simp +contextual only [↓al,aw,simprocAttr]
   exact ⟨by rfl,aF.trans aM⟩
 · simp +contextual only [ol.1,ol.2.1,ai,g1,↓al,aw,simprocAttr]
   refine bV (ny 3 s aR (by simp) U) ?_
   rintro x ad ⟨rfl,aM⟩
   simp +contextual only [↓al,aw,simprocAttr]
   exact ⟨by rfl,aF.trans aM⟩
 · simp +contextual only [ol.1,ol.2.1,ai,g1,↓al,aw,simprocAttr]
   exact ⟨by rfl,aF⟩
 · simp +contextual only [ol.1,ol.2.1,ai,g1,↓al,aw,simprocAttr]
   exact ⟨by rfl,aF⟩
 · simp +contextual only [ol.1,ol.2.1,ai,g1,↓al,aw,simprocAttr]
   exact ⟨by rfl,aF⟩
 · simp +contextual only [ol.1,ol.2.1,ai,g1,↓al,aw,simprocAttr]
   exact ⟨by rfl,aF⟩
 · simp +contextual only [ol.1,ol.2.1,ai,g1,↓al,aw,simprocAttr]
   refine bV (ny 3 s aR (by simp) U) ?_
   rintro x ad ⟨rfl,aM⟩
   simp +contextual only [↓al,aw,simprocAttr]
   exact ⟨by rfl,aF.trans aM⟩
 · simp +contextual only [ol.1,ol.2.1,ai,g1,↓al,aw,simprocAttr]
   exact ⟨by rfl,aF⟩
 · simp +contextual only [ol.1,ol.2.1,ai,g1,↓al,aw,simprocAttr]
   exact ⟨by rfl,aF⟩
 · simp +contextual only [ol.1,ol.2.1,ai,g1,↓al,aw,simprocAttr]
   exact ⟨by rfl,aF⟩
 · simp +contextual only [ol.1,ol.2.1,ai,g1,↓al,aw,simprocAttr]
   refine bV (ny 4 s aR (by simp) U) ?_
   rintro x ad ⟨rfl,aM⟩
   simp +contextual only [↓al,aw,simprocAttr]
   exact ⟨by rfl,aF.trans aM⟩
 · simp +contextual only [ol.1,ol.2.1,ai,g1,↓al,aw,simprocAttr]
   exact ⟨by rfl,aF⟩
 · simp +contextual only [ol.1,ol.2.1,ai,g1,↓al,aw,simprocAttr]
   have a8:rY dd 21 s=decide ((s.length:Int)≤4096):=by
    show decide (s.length≤4096)=_
    exact decide_eq_decide.2 ⟨fun q=>by omega,fun q=>by omega⟩
   exact ⟨by rw [a8],aF⟩
 · simp +contextual only [ol.1,ol.2.1,ai,g1,↓al,aw,simprocAttr]
   exact ⟨by rfl,aF⟩
 · simp +contextual only [ol.1,ol.2.1,ai,g1,↓al,aw,simprocAttr]
   exact ⟨by rfl,aF⟩
 · simp +contextual only [ol.1,ol.2.1,ai,g1,↓al,aw,simprocAttr]
   refine bV (ny 3 s aR (by simp) U) ?_
   rintro x ad ⟨rfl,aM⟩
   simp +contextual only [↓al,aw,simprocAttr]
   exact ⟨by rfl,aF.trans aM⟩
 · simp +contextual only [ol.1,ol.2.1,ai,g1,↓al,aw,simprocAttr]
   refine bV (ny 4 s aR (by simp) U) ?_
   rintro x ad ⟨rfl,aM⟩
   simp +contextual only [↓al,aw,simprocAttr]
   exact ⟨by rfl,aF.trans aM⟩
 · simp +contextual only [ol.1,ol.2.1,ai,g1,↓al,aw,simprocAttr]
   exact ⟨by rfl,aF⟩
 · simp +contextual only [ol.1,ol.2.1,ai,g1,↓al,aw,simprocAttr]
   exact ⟨by rfl,aF⟩
 · simp +contextual only [ol.1,ol.2.1,ai,g1,↓al,aw,simprocAttr]
   exact ⟨by rfl,aF⟩
 · simp +contextual only [ol.1,ol.2.1,ai,g1,↓al,aw,simprocAttr]
   exact ⟨by rfl,aF⟩
 · simp +contextual only [ol.1,ol.2.1,ai,g1,↓al,aw,simprocAttr]
   refine bV (ZM U) ?_
   rintro x ad ⟨rfl,rfl⟩
   have aM:Ext U (U.new (.bk (mI opsL) 0 false)):=(Ext.refl U).new _
   have g2:=(eA.ext aM).g
   simp +contextual only [g1,g2,↓al,aw,simprocAttr]
   refine eO (D2 s opsL _ 8 _ (by decide) (by rw [l7])) ?_
   simp +contextual only [g1,g2,↓al,aw,simprocAttr]
   exact ⟨by rfl,aF.trans aM⟩
 · simp +contextual only [ol.1,ol.2.1,ai,g1,↓al,aw,simprocAttr]
   exact ⟨by rfl,aF⟩
 · simp +contextual only [ol.1,ol.2.1,ai,g1,↓al,aw,simprocAttr]
   exact ⟨by rfl,aF⟩
 · simp +contextual only [ol.1,ol.2.1,ai,g1,↓al,aw,simprocAttr]
   exact ⟨by rfl,aF⟩
 · simp +contextual only [ol.1,ol.2.1,ai,g1,↓al,aw,simprocAttr]
   exact ⟨by rfl,aF⟩
 · simp +contextual only [ol.1,ol.2.1,ai,g1,↓al,aw,simprocAttr]
   exact ⟨by rfl,aF⟩
 · simp +contextual only [ol.1,ol.2.1,ai,g1,↓al,aw,simprocAttr]
   exact ⟨by rfl,aF⟩
 · simp +contextual only [ol.1,ol.2.1,ai,g1,↓al,aw,simprocAttr]
   exact ⟨by rfl,aF⟩
 · simp +contextual only [ol.1,ol.2.1,ai,g1,↓al,aw,simprocAttr]
   exact ⟨by rfl,aF⟩
 · simp +contextual only [ol.1,ol.2.1,ai,g1,↓al,aw,simprocAttr]
   exact ⟨by rfl,aF⟩
 · simp +contextual only [ol.1,ol.2.1,ai,g1,↓al,aw,simprocAttr]
   exact ⟨by rfl,aF⟩
 · simp +contextual only [ol.1,ol.2.1,ai,g1,↓al,aw,simprocAttr]
   refine bV (ny 3 s aR (by simp) U) ?_
   rintro x ad ⟨rfl,aM⟩
   simp +contextual only [↓al,aw,simprocAttr]
   exact ⟨by rfl,aF.trans aM⟩
 · simp +contextual only [ol.1,ol.2.1,ai,g1,↓al,aw,simprocAttr]
   refine bV (ny 4 s aR (by simp) U) ?_
   rintro x ad ⟨rfl,aM⟩
   simp +contextual only [↓al,aw,simprocAttr]
   exact ⟨by rfl,aF.trans aM⟩
 · simp +contextual only [ol.1,ol.2.1,ai,g1,↓al,aw,simprocAttr]
   refine bV (ny 4 s aR (by simp) U) ?_
   rintro x ad ⟨rfl,aM⟩
   simp +contextual only [↓al,aw,simprocAttr]
   exact ⟨by rfl,aF.trans aM⟩
 · simp +contextual only [ol.1,ol.2.1,ai,g1,↓al,aw,simprocAttr]
   exact ⟨by rfl,aF⟩
 · simp +contextual only [ol.1,ol.2.1,ai,g1,↓al,aw,simprocAttr]
   exact ⟨by rfl,aF⟩
 · simp +contextual only [ol.1,ol.2.1,ai,g1,↓al,aw,simprocAttr]
   refine bV (ny 3 s aR (by simp) U) ?_
   rintro x ad ⟨rfl,aM⟩
   simp +contextual only [↓al,aw,simprocAttr]
   exact ⟨by rfl,aF.trans aM⟩
set_option maxHeartbeats 4000000 in
theorem Y9 (t:bc) (az:e1 t.k≠0) (ab:List V) (h:ae) (H:cl Any h t.enc ab):bK Tryz.prog 50 [.agg ab] h fun x aa=>x=.bool (gC t.k t.n t.l.length)∧Ext h aa:=by
 obtain ⟨dA,rfl,L,aR⟩:=bc.open H
 have ol:=L.one
 have aj:=L.len
 rw [List.length_map] at aj
 obtain ⟨k,n,a,s,l⟩:=t
 simp only [bc.k,bc.n,bc.a,bc.s,bc.l] at *
 refine P4 rfl (dn ?_)
 unfold BG
 obtain ⟨U,ai,aF,eA⟩:=jv h [.int .i64 k,.int .i64 n,.int .i64 a,.str s,dA]
 have g1:=eA.g
 clear L H
 rcases yY az with rfl | rfl | rfl | rfl | rfl | rfl | rfl | rfl | rfl | rfl | rfl | rfl | rfl | rfl | rfl | rfl | rfl | rfl | rfl | rfl | rfl | rfl | rfl | rfl | rfl | rfl | rfl | rfl | rfl | rfl | rfl | rfl | rfl | rfl | rfl | rfl | rfl | rfl
 · simp +contextual only [ol.1,ol.2.1,ai,g1,↓al,aw,simprocAttr]
   exact ⟨by rfl,aF⟩
 · simp +contextual only [ol.1,ol.2.1,ai,g1,↓al,aw,simprocAttr]
   exact ⟨by rfl,aF⟩
 · simp +contextual only [ol.1,ol.2.1,ai,g1,↓al,aw,simprocAttr]
   exact ⟨by rfl,aF⟩
 · simp +contextual only [ol.1,ol.2.1,ai,g1,↓al,aw,simprocAttr]
   exact ⟨by rfl,aF⟩
 · simp +contextual only [ol.1,ol.2.1,ai,g1,↓al,aw,simprocAttr]
   exact ⟨by rfl,aF⟩
 · simp +contextual only [ol.1,ol.2.1,ai,g1,↓al,aw,simprocAttr]
   exact ⟨by rfl,aF⟩
 · simp +contextual only [ol.1,ol.2.1,ai,g1,↓al,aw,simprocAttr]
   exact ⟨by rfl,aF⟩
 · by_cases bJ:-1073741824≤n
   · simp +contextual only [ol.1,ol.2.1,ai,g1,sR bJ,↓al,aw,simprocAttr]
     exact ⟨by simp [gC,bJ],aF⟩
   · simp +contextual only [ol.1,ol.2.1,ai,g1,u_ (Int.not_le.1 bJ),eq_false bJ,↓al,aw,simprocAttr]
     exact ⟨by simp [gC,bJ],aF⟩
 · by_cases bJ:n=0
   · simp +contextual only [ol.1,ol.2.1,ai,g1,eq_true bJ,↓al,aw,simprocAttr]
     exact ⟨by simp [gC,bJ],aF⟩
   · simp +contextual only [ol.1,ol.2.1,ai,g1,eq_false bJ,↓al,aw,simprocAttr]
     exact ⟨by simp [gC,bJ],aF⟩
 · simp +contextual only [ol.1,ol.2.1,ai,g1,↓al,aw,simprocAttr]
   exact ⟨by rfl,aF⟩
 · simp +contextual only [ol.1,ol.2.1,ai,g1,↓al,aw,simprocAttr]
   exact ⟨by rfl,aF⟩
 · by_cases bJ:-1073741824≤n
   · simp +contextual only [ol.1,ol.2.1,ai,g1,sR bJ,↓al,aw,simprocAttr]
     exact ⟨by simp [gC,bJ],aF⟩
   · simp +contextual only [ol.1,ol.2.1,ai,g1,u_ (Int.not_le.1 bJ),eq_false bJ,↓al,aw,simprocAttr]
     exact ⟨by simp [gC,bJ],aF⟩
 · simp +contextual only [ol.1,ol.2.1,ai,g1,↓al,aw,simprocAttr]
   exact ⟨by rfl,aF⟩
 · simp +contextual only [ol.1,ol.2.1,ai,g1,↓al,aw,simprocAttr]
   exact ⟨by rfl,aF⟩
 · by_cases bJ:n=0
   · simp +contextual only [ol.1,ol.2.1,ai,g1,eq_true bJ,↓al,aw,simprocAttr]
     exact ⟨by simp [gC,bJ],aF⟩
   · simp +contextual only [ol.1,ol.2.1,ai,g1,eq_false bJ,↓al,aw,simprocAttr]
     exact ⟨by simp [gC,bJ],aF⟩
 · simp +contextual only [ol.1,ol.2.1,ai,g1,↓al,aw,simprocAttr]
   exact ⟨by rfl,aF⟩
 · simp +contextual only [ol.1,ol.2.1,ai,g1,↓al,aw,simprocAttr]
   exact ⟨by rfl,aF⟩
 · simp +contextual only [ol.1,ol.2.1,ai,g1,↓al,aw,simprocAttr]
   exact ⟨by rfl,aF⟩
 · simp +contextual only [ol.1,ol.2.1,ai,g1,↓al,aw,simprocAttr]
   exact ⟨by rfl,aF⟩
 · simp +contextual only [ol.1,ol.2.1,ai,g1,↓al,aw,simprocAttr]
   exact ⟨by rfl,aF⟩
 · simp +contextual only [ol.1,ol.2.1,ai,g1,↓al,aw,simprocAttr]
   exact ⟨by rfl,aF⟩
 · simp +contextual only [ol.1,ol.2.1,ai,g1,↓al,aw,simprocAttr]
   exact ⟨by rfl,aF⟩
 · simp +contextual only [ol.1,ol.2.1,ai,g1,↓al,aw,simprocAttr]
   exact ⟨by rfl,aF⟩
 · simp +contextual only [ol.1,ol.2.1,ai,g1,↓al,aw,simprocAttr]
   exact ⟨by rfl,aF⟩
 · simp +contextual only [ol.1,ol.2.1,ai,g1,↓al,aw,simprocAttr]
   exact ⟨by rfl,aF⟩
 · simp +contextual only [ol.1,ol.2.1,ai,g1,↓al,aw,simprocAttr]
   exact ⟨by rfl,aF⟩
 · simp +contextual only [ol.1,ol.2.1,ai,g1,↓al,aw,simprocAttr]
   exact ⟨by rfl,aF⟩
 · simp +contextual only [ol.1,ol.2.1,ai,g1,↓al,aw,simprocAttr]
   exact ⟨by rfl,aF⟩
 · simp +contextual only [ol.1,ol.2.1,ai,g1,↓al,aw,simprocAttr]
   exact ⟨by rfl,aF⟩
 · simp +contextual only [ol.1,ol.2.1,ai,g1,↓al,aw,simprocAttr]
   exact ⟨by rfl,aF⟩
 · simp +contextual only [ol.1,ol.2.1,ai,g1,↓al,aw,simprocAttr]
   exact ⟨by rfl,aF⟩
 · simp +contextual only [ol.1,ol.2.1,ai,g1,↓al,aw,simprocAttr]
   exact ⟨by rfl,aF⟩
 · simp +contextual only [ol.1,ol.2.1,ai,g1,↓al,aw,simprocAttr]
   exact ⟨by rfl,aF⟩
 · simp +contextual only [ol.1,ol.2.1,ai,g1,↓al,aw,simprocAttr]
   exact ⟨by rfl,aF⟩
 · simp +contextual only [ol.1,ol.2.1,ai,g1,↓al,aw,simprocAttr]
   exact ⟨by rfl,aF⟩
 · simp +contextual only [ol.1,ol.2.1,ai,g1,↓al,aw,simprocAttr]
   exact ⟨by rfl,aF⟩
 · simp +contextual only [ol.1,ol.2.1,ai,g1,↓al,aw,simprocAttr]
   exact ⟨by rfl,aF⟩
 · by_cases bJ:0≤n
   · by_cases cg:n≤64
     · simp +contextual only [ol.1,ol.2.1,ai,g1,aj,sR bJ,eq_true cg,↓al,aw,simprocAttr]
       exact ⟨by simp [gC,bJ,cg],aF⟩
     · simp +contextual only [ol.1,ol.2.1,ai,g1,sR bJ,eq_false cg,↓al,aw,simprocAttr]
       exact ⟨by simp [gC,bJ,cg],aF⟩
   · simp +contextual only [ol.1,ol.2.1,ai,g1,u_ (Int.not_le.1 bJ),eq_false bJ,↓al,aw,simprocAttr]
     exact ⟨by simp [gC,bJ],aF⟩
set_option maxHeartbeats 1000000 in
theorem gm (x m:Int) (hm:m≤2000000000) (h:ae):bK Tryz.prog 67 [.int .i64 x,.int .i64 m] h fun y aa=>du h.next aa 1 y (List.replicate m.toNat x).length (jg (List.replicate m.toNat x))∧Ext h aa:=by
 refine Qt rfl (dn ?_)
 unfold BO
 simp +contextual only [↓al,aw,simprocAttr]
 refine hj (fun r g=>r 0=.int .i64 x∧r 1=.int .i64 m∧∃(i:Nat) (w:V),r 5=w∧r 6=.int .i64 i∧i≤m.toNat∧du h.next g 1 w i (jg (List.replicate i x))∧Ext h g) (fun r g=>m.toNat - (r 6).toN) ?_ ?_
 · exact ⟨by simp only [↓al,dB,simprocAttr],by simp only [↓al,dB,simprocAttr],0,.cq,by simp only [↓al,dB,simprocAttr],by simp only [↓al,dB,simprocAttr]<;>rfl,by omega,⟨rfl,rfl⟩,Ext.refl h⟩
 rintro r g ⟨bx,bs,i,w,cF,fk,aC,W,E⟩
 unfold G5
 by_cases aO:i<m.toNat
 · have g0:((i:Int)<m)=True:=eq_true (by omega)
   have fc:=nH aO (by omega)
   obtain ⟨ak,g4,ai,ay,aK,bE,dr⟩:=xt (cs:=[.int .i64 x]) (by omega) W E.next (by unfold top;omega) rfl rfl
   simp +contextual only [bx,bs,cF,fk,g0,ai,fc,↓al,aw,simprocAttr]
   refine ⟨⟨i+1,rfl,aO,?_,E.oJ aK fun b af=>W.base af⟩,by omega⟩
   rw [List.replicate_succ',D6]
   exact ay
 · have g0:((i:Int)<m)=False:=eq_false (by omega)
   have:i=m.toNat:=by omega
   subst this
   simp +contextual only [bx,bs,cF,fk,g0,↓al,aw,simprocAttr]
   exact ⟨by rw [List.length_replicate];exact W,E⟩
theorem eE {k n:Int} {l:List bc} {gs:List Int} {p q:Prop} [Decidable p] [Decidable q] (h:cL k n l=(gs,decide p)) (e:p↔q):cL k n l=(gs,decide q):=h.trans (by rw [decide_eq_decide.2 e])
set_option maxHeartbeats 4000000 in
theorem Tq (t:bc) (az:e1 t.k≠0) (a7:gC t.k t.n t.l.length=true) (h7:t.l.length≤1000000000) (ab:List V) (h:ae) (H:cl Any h t.enc ab):
 bK Tryz.prog 51 [.agg ab] h fun x aa=>∃v,x=.tuple [v,.bool (cL t.k t.n t.l).2]∧cM Any aa 1 ((cL t.k t.n t.l).1.map aY.encI) v∧Ext h aa:=by
 obtain ⟨dA,rfl,L,aR⟩:=bc.open H
 have ol:=L.one
 have aj:=L.len
 rw [List.length_map] at aj
 obtain ⟨k,n,a,s,l⟩:=t
 simp only [bc.k,bc.n,bc.a,bc.s,bc.l] at *
 refine P7 rfl (dn ?_)
 unfold c51
 obtain ⟨U,ai,aF,eA⟩:=jv h [.int .i64 k,.int .i64 n,.int .i64 a,.str s,dA]
 have g1:=eA.g
 have AM:=L.ext aF
 clear L H
 rcases yY az with rfl | rfl | rfl | rfl | rfl | rfl | rfl | rfl | rfl | rfl | rfl | rfl | rfl | rfl | rfl | rfl | rfl | rfl | rfl | rfl | rfl | rfl | rfl | rfl | rfl | rfl | rfl | rfl | rfl | rfl | rfl | rfl | rfl | rfl | rfl | rfl | rfl | rfl
 · rw [eE (q:=(l.length:Int)=0) (show cL 1 n l=([],decide (l.length=0)) from rfl) ⟨fun q=>by omega,fun q=>by omega⟩]
   simp +contextual only [ol.1,ol.2.1,ai,g1,aj,↓al,aw,simprocAttr]
   exact ⟨_,rfl,cM.nil _ _ _,aF⟩
 · rw [eE (q:=(l.length:Int)≤64) (show cL 2 n l=(List.replicate (l.length:Int).toNat 1,decide (l.length≤64)) from rfl) ⟨fun q=>by omega,fun q=>by omega⟩]
   simp +contextual only [ol.1,ol.2.1,ai,g1,aj,↓al,aw,simprocAttr]
   refine bV (gm 1 (l.length:Int) (by omega) U) ?_
   rintro y ad ⟨Y,aM⟩
   simp +contextual only [↓al,aw,simprocAttr]
   exact ⟨_,rfl,Y.fb (by rw [List.length_replicate];unfold top;omega),aF.trans aM⟩
 · rw [eE (q:=(l.length:Int)=2) (show cL 3 n l=(List.replicate (2:Int).toNat 1,decide (l.length=2)) from rfl) ⟨fun q=>by omega,fun q=>by omega⟩]
   simp +contextual only [ol.1,ol.2.1,ai,g1,aj,↓al,aw,simprocAttr]
   refine bV (gm 1 (2:Int) (by omega) U) ?_
   rintro y ad ⟨Y,aM⟩
   simp +contextual only [↓al,aw,simprocAttr]
   exact ⟨_,rfl,Y.fb (by rw [List.length_replicate];unfold top;omega),aF.trans aM⟩
 · rw [eE (q:=(l.length:Int)=2) (show cL 4 n l=(List.replicate (2:Int).toNat 1,decide (l.length=2)) from rfl) ⟨fun q=>by omega,fun q=>by omega⟩]
   simp +contextual only [ol.1,ol.2.1,ai,g1,aj,↓al,aw,simprocAttr]
   refine bV (gm 1 (2:Int) (by omega) U) ?_
   rintro y ad ⟨Y,aM⟩
   simp +contextual only [↓al,aw,simprocAttr]
   exact ⟨_,rfl,Y.fb (by rw [List.length_replicate];unfold top;omega),aF.trans aM⟩
 · rw [eE (q:=(l.length:Int)=0) (show cL 10 n l=([],decide (l.length=0)) from rfl) ⟨fun q=>by omega,fun q=>by omega⟩]
   simp +contextual only [ol.1,ol.2.1,ai,g1,aj,↓al,aw,simprocAttr]
   exact ⟨_,rfl,cM.nil _ _ _,aF⟩
 · rw [eE (q:=(l.length:Int)=0) (show cL 13 n l=([],decide (l.length=0)) from rfl) ⟨fun q=>by omega,fun q=>by omega⟩]
   simp +contextual only [ol.1,ol.2.1,ai,g1,aj,↓al,aw,simprocAttr]
   exact ⟨_,rfl,cM.nil _ _ _,aF⟩
 · rw [eE (q:=(l.length:Int)=0) (show cL 11 n l=([],decide (l.length=0)) from rfl) ⟨fun q=>by omega,fun q=>by omega⟩]
   simp +contextual only [ol.1,ol.2.1,ai,g1,aj,↓al,aw,simprocAttr]
   exact ⟨_,rfl,cM.nil _ _ _,aF⟩
 · rw [eE (q:=(l.length:Int)=0) (show cL 12 n l=([],decide (l.length=0)) from rfl) ⟨fun q=>by omega,fun q=>by omega⟩]
   simp +contextual only [ol.1,ol.2.1,ai,g1,aj,↓al,aw,simprocAttr]
   exact ⟨_,rfl,cM.nil _ _ _,aF⟩
 · rw [eE (q:=(l.length:Int)=0) (show cL 14 n l=([],decide (l.length=0)) from rfl) ⟨fun q=>by omega,fun q=>by omega⟩]
   simp +contextual only [ol.1,ol.2.1,ai,g1,aj,↓al,aw,simprocAttr]
   exact ⟨_,rfl,cM.nil _ _ _,aF⟩
 · rw [eE (q:=(l.length:Int)=2) (show cL 15 n l=(List.replicate (2:Int).toNat 2,decide (l.length=2)) from rfl) ⟨fun q=>by omega,fun q=>by omega⟩]
   simp +contextual only [ol.1,ol.2.1,ai,g1,aj,↓al,aw,simprocAttr]
   refine bV (gm 2 (2:Int) (by omega) U) ?_
   rintro y ad ⟨Y,aM⟩
   simp +contextual only [↓al,aw,simprocAttr]
   exact ⟨_,rfl,Y.fb (by rw [List.length_replicate];unfold top;omega),aF.trans aM⟩
 · rw [eE (q:=(l.length:Int)≤1) (show cL 16 n l=(List.replicate (l.length:Int).toNat 2,decide (l.length≤1)) from rfl) ⟨fun q=>by omega,fun q=>by omega⟩]
   simp +contextual only [ol.1,ol.2.1,ai,g1,aj,↓al,aw,simprocAttr]
   refine bV (gm 2 (l.length:Int) (by omega) U) ?_
   rintro y ad ⟨Y,aM⟩
   simp +contextual only [↓al,aw,simprocAttr]
   exact ⟨_,rfl,Y.fb (by rw [List.length_replicate];unfold top;omega),aF.trans aM⟩
 · rw [eE (q:=(l.length:Int)=0) (show cL 20 n l=([],decide (l.length=0)) from rfl) ⟨fun q=>by omega,fun q=>by omega⟩]
   simp +contextual only [ol.1,ol.2.1,ai,g1,aj,↓al,aw,simprocAttr]
   exact ⟨_,rfl,cM.nil _ _ _,aF⟩
 · rw [eE (q:=(l.length:Int)=0) (show cL 21 n l=([],decide (l.length=0)) from rfl) ⟨fun q=>by omega,fun q=>by omega⟩]
   simp +contextual only [ol.1,ol.2.1,ai,g1,aj,↓al,aw,simprocAttr]
   exact ⟨_,rfl,cM.nil _ _ _,aF⟩
 · rw [eE (q:=(l.length:Int)=0) (show cL 22 n l=([],decide (l.length=0)) from rfl) ⟨fun q=>by omega,fun q=>by omega⟩]
   simp +contextual only [ol.1,ol.2.1,ai,g1,aj,↓al,aw,simprocAttr]
   exact ⟨_,rfl,cM.nil _ _ _,aF⟩
 · rw [eE (q:=(l.length:Int)=0) (show cL 23 n l=([],decide (l.length=0)) from rfl) ⟨fun q=>by omega,fun q=>by omega⟩]
   simp +contextual only [ol.1,ol.2.1,ai,g1,aj,↓al,aw,simprocAttr]
   exact ⟨_,rfl,cM.nil _ _ _,aF⟩
 · rw [eE (q:=(l.length:Int)=0) (show cL 24 n l=([],decide (l.length=0)) from rfl) ⟨fun q=>by omega,fun q=>by omega⟩]
   simp +contextual only [ol.1,ol.2.1,ai,g1,aj,↓al,aw,simprocAttr]
   exact ⟨_,rfl,cM.nil _ _ _,aF⟩
 · rw [eE (q:=(l.length:Int)≤1) (show cL 25 n l=(List.replicate (l.length:Int).toNat 3,decide (l.length≤1)) from rfl) ⟨fun q=>by omega,fun q=>by omega⟩]
   simp +contextual only [ol.1,ol.2.1,ai,g1,aj,↓al,aw,simprocAttr]
   refine bV (gm 3 (l.length:Int) (by omega) U) ?_
   rintro y ad ⟨Y,aM⟩
   simp +contextual only [↓al,aw,simprocAttr]
   exact ⟨_,rfl,Y.fb (by rw [List.length_replicate];unfold top;omega),aF.trans aM⟩
 · rw [eE (q:=(l.length:Int)=2) (show cL 26 n l=(List.replicate (2:Int).toNat 3,decide (l.length=2)) from rfl) ⟨fun q=>by omega,fun q=>by omega⟩]
   simp +contextual only [ol.1,ol.2.1,ai,g1,aj,↓al,aw,simprocAttr]
   refine bV (gm 3 (2:Int) (by omega) U) ?_
   rintro y ad ⟨Y,aM⟩
   simp +contextual only [↓al,aw,simprocAttr]
   exact ⟨_,rfl,Y.fb (by rw [List.length_replicate];unfold top;omega),aF.trans aM⟩
 · rw [eE (q:=(l.length:Int)=2) (show cL 28 n l=(List.replicate (2:Int).toNat 3,decide (l.length=2)) from rfl) ⟨fun q=>by omega,fun q=>by omega⟩]
   simp +contextual only [ol.1,ol.2.1,ai,g1,aj,↓al,aw,simprocAttr]
   refine bV (gm 3 (2:Int) (by omega) U) ?_
   rintro y ad ⟨Y,aM⟩
   simp +contextual only [↓al,aw,simprocAttr]
   exact ⟨_,rfl,Y.fb (by rw [List.length_replicate];unfold top;omega),aF.trans aM⟩
 · rw [eE (q:=(l.length:Int)=2) (show cL 35 n l=(List.replicate (2:Int).toNat 3,decide (l.length=2)) from rfl) ⟨fun q=>by omega,fun q=>by omega⟩]
   simp +contextual only [ol.1,ol.2.1,ai,g1,aj,↓al,aw,simprocAttr]
   refine bV (gm 3 (2:Int) (by omega) U) ?_
   rintro y ad ⟨Y,aM⟩
   simp +contextual only [↓al,aw,simprocAttr]
   exact ⟨_,rfl,Y.fb (by rw [List.length_replicate];unfold top;omega),aF.trans aM⟩
 · rw [eE (q:=(l.length:Int)=2) (show cL 37 n l=(List.replicate (2:Int).toNat 3,decide (l.length=2)) from rfl) ⟨fun q=>by omega,fun q=>by omega⟩]
   simp +contextual only [ol.1,ol.2.1,ai,g1,aj,↓al,aw,simprocAttr]
   refine bV (gm 3 (2:Int) (by omega) U) ?_
   rintro y ad ⟨Y,aM⟩
   simp +contextual only [↓al,aw,simprocAttr]
   exact ⟨_,rfl,Y.fb (by rw [List.length_replicate];unfold top;omega),aF.trans aM⟩
 · rw [eE (q:=(l.length:Int)=2) (show cL 38 n l=(List.replicate (2:Int).toNat 3,decide (l.length=2)) from rfl) ⟨fun q=>by omega,fun q=>by omega⟩]
   simp +contextual only [ol.1,ol.2.1,ai,g1,aj,↓al,aw,simprocAttr]
   refine bV (gm 3 (2:Int) (by omega) U) ?_
   rintro y ad ⟨Y,aM⟩
   simp +contextual only [↓al,aw,simprocAttr]
   exact ⟨_,rfl,Y.fb (by rw [List.length_replicate];unfold top;omega),aF.trans aM⟩
 · rw [eE (q:=(l.length:Int)=1) (show cL 34 n l=(List.replicate (1:Int).toNat 3,decide (l.length=1)) from rfl) ⟨fun q=>by omega,fun q=>by omega⟩]
   simp +contextual only [ol.1,ol.2.1,ai,g1,aj,↓al,aw,simprocAttr]
   refine bV (gm 3 (1:Int) (by omega) U) ?_
   rintro y ad ⟨Y,aM⟩
   simp +contextual only [↓al,aw,simprocAttr]
   exact ⟨_,rfl,Y.fb (by rw [List.length_replicate];unfold top;omega),aF.trans aM⟩
 · rw [eE (q:=(l.length:Int)=1) (show cL 36 n l=(List.replicate (1:Int).toNat 3,decide (l.length=1)) from rfl) ⟨fun q=>by omega,fun q=>by omega⟩]
   simp +contextual only [ol.1,ol.2.1,ai,g1,aj,↓al,aw,simprocAttr]
   refine bV (gm 3 (1:Int) (by omega) U) ?_
   rintro y ad ⟨Y,aM⟩
   simp +contextual only [↓al,aw,simprocAttr]
   exact ⟨_,rfl,Y.fb (by rw [List.length_replicate];unfold top;omega),aF.trans aM⟩
 · rw [eE (q:=(l.length:Int)=1) (show cL 39 n l=(List.replicate (1:Int).toNat 3,decide (l.length=1)) from rfl) ⟨fun q=>by omega,fun q=>by omega⟩]
   simp +contextual only [ol.1,ol.2.1,ai,g1,aj,↓al,aw,simprocAttr]
   refine bV (gm 3 (1:Int) (by omega) U) ?_
   rintro y ad ⟨Y,aM⟩
   simp +contextual only [↓al,aw,simprocAttr]
   exact ⟨_,rfl,Y.fb (by rw [List.length_replicate];unfold top;omega),aF.trans aM⟩
 · rw [eE (q:=(l.length:Int)=3) (show cL 31 n l=(List.replicate (3:Int).toNat 3,decide (l.length=3)) from rfl) ⟨fun q=>by omega,fun q=>by omega⟩]
   simp +contextual only [ol.1,ol.2.1,ai,g1,aj,↓al,aw,simprocAttr]
   refine bV (gm 3 (3:Int) (by omega) U) ?_
   rintro y ad ⟨Y,aM⟩
   simp +contextual only [↓al,aw,simprocAttr]
   exact ⟨_,rfl,Y.fb (by rw [List.length_replicate];unfold top;omega),aF.trans aM⟩
 · rw [eE (q:=(l.length:Int)=2) (show cL 27 n l=([2,3],decide (l.length=2)) from rfl) ⟨fun q=>by omega,fun q=>by omega⟩]
   obtain ⟨ad,ay,aM,Y⟩:=oE U 1 2 [.int .i64 2,.int .i64 3] rfl (by unfold top;omega)
   simp +contextual only [ol.1,ol.2.1,ai,ay,g1,aj,↓al,aw,simprocAttr]
   exact ⟨_,rfl,du.fb (l:=[2,3]) Y (by simp [top]),aF.trans aM⟩
 · rw [eE (q:=(l.length:Int)=3) (show cL 29 n l=([2,3,3],decide (l.length=3)) from rfl) ⟨fun q=>by omega,fun q=>by omega⟩]
   obtain ⟨ad,ay,aM,Y⟩:=oE U 1 3 [.int .i64 2,.int .i64 3,.int .i64 3] rfl (by unfold top;omega)
   simp +contextual only [ol.1,ol.2.1,ai,ay,g1,aj,↓al,aw,simprocAttr]
   exact ⟨_,rfl,du.fb (l:=[2,3,3]) Y (by simp [top]),aF.trans aM⟩
 · rw [eE (q:=(l.length:Int)≥2) (show cL 30 n l=(List.replicate (l.length-1) (5:Int)++[3],decide (2≤l.length)) from rfl) ⟨fun q=>by omega,fun q=>by omega⟩]
   have bL:IntKind.i64.wrap ((l.length:Int)-1)=(l.length:Int)-1:=wrap_i64 (by omega) (by omega)
   simp +contextual only [ol.1,ol.2.1,ai,g1,aj,bL,↓al,aw,simprocAttr]
   refine bV (gm 5 ((l.length:Int)-1) (by omega) U) ?_
   rintro y ad ⟨Y,aM⟩
   rw [show ((l.length:Int)-1).toNat=l.length-1 from by omega] at Y
   obtain ⟨ak,aI,ay,aK,bE,dr,eS⟩:=xt (cs:=[.int .i64 3]) (by omega) Y aM.next (by rw [List.length_replicate];unfold top;omega) rfl rfl
   simp +contextual only [ay,↓al,aw,simprocAttr]
   have Z:du U.next aI 1 ak (List.replicate (l.length-1) (5:Int)++[3]).length (jg (List.replicate (l.length-1) (5:Int)++[3])):=by
    rw [List.length_append,D6];exact aK
   exact ⟨_,rfl,Z.fb (by rw [List.length_append,List.length_replicate];simp only [List.length_singleton];unfold top;omega),(aF.trans aM).oJ bE fun b af=>Nat.le_trans aF.next (Y.base af)⟩
 · rw [eE (q:=(l.length:Int)≥2) (show cL 32 n l=(3::List.replicate (l.length-1) (4:Int),decide (2≤l.length)) from rfl) ⟨fun q=>by omega,fun q=>by omega⟩]
   have bL:IntKind.i64.wrap ((l.length:Int)-1)=(l.length:Int)-1:=wrap_i64 (by omega) (by omega)
   obtain ⟨ad,ay,aM,Y⟩:=oE U 1 1 [.int .i64 3] rfl (by unfold top;omega)
   simp +contextual only [ol.1,ol.2.1,ai,ay,g1,aj,bL,↓al,aw,simprocAttr]
   refine bV (gm 4 ((l.length:Int)-1) (by omega) ad) ?_
   rintro y aI ⟨Z,cm⟩
   rw [show ((l.length:Int)-1).toNat=l.length-1 from by omega] at Z
   obtain ⟨ak,bq,b9,dZ,hG,mC⟩:=xu (by omega) (Y.ext cm) Z.v (Nat.le_trans aM.next cm.next) (by rw [List.length_replicate];unfold top;omega) (zm _)
   simp +contextual only [b9,↓al,aw,simprocAttr]
   have W:du U.next bq 1 ak (3::List.replicate (l.length-1) (4:Int)).length (jg (3::List.replicate (l.length-1) (4:Int))):=by
    rw [List.length_cons,Nat.add_comm];exact dZ
   exact ⟨_,rfl,W.fb (by rw [List.length_cons,List.length_replicate];unfold top;omega),((aF.trans aM).trans cm).oJ hG fun b af=>Nat.le_trans aF.next (Y.base af)⟩
 · rw [eE (q:=(l.length:Int)≥2) (show cL 33 n l=(3::List.replicate (l.length-1) (4:Int),decide (2≤l.length)) from rfl) ⟨fun q=>by omega,fun q=>by omega⟩]
   have bL:IntKind.i64.wrap ((l.length:Int)-1)=(l.length:Int)-1:=wrap_i64 (by omega) (by omega)
   obtain ⟨ad,ay,aM,Y⟩:=oE U 1 1 [.int .i64 3] rfl (by unfold top;omega)
   simp +contextual only [ol.1,ol.2.1,ai,ay,g1,aj,bL,↓al,aw,simprocAttr]
   refine bV (gm 4 ((l.length:Int)-1) (by omega) ad) ?_
   rintro y aI ⟨Z,cm⟩
   rw [show ((l.length:Int)-1).toNat=l.length-1 from by omega] at Z
   obtain ⟨ak,bq,b9,dZ,hG,mC⟩:=xu (by omega) (Y.ext cm) Z.v (Nat.le_trans aM.next cm.next) (by rw [List.length_replicate];unfold top;omega) (zm _)
   simp +contextual only [b9,↓al,aw,simprocAttr]
   have W:du U.next bq 1 ak (3::List.replicate (l.length-1) (4:Int)).length (jg (3::List.replicate (l.length-1) (4:Int))):=by
    rw [List.length_cons,Nat.add_comm];exact dZ
   exact ⟨_,rfl,W.fb (by rw [List.length_cons,List.length_replicate];unfold top;omega),((aF.trans aM).trans cm).oJ hG fun b af=>Nat.le_trans aF.next (Y.base af)⟩
 · rw [eE (q:=(l.length:Int)=2) (show cL 45 n l=([2,3],decide (l.length=2)) from rfl) ⟨fun q=>by omega,fun q=>by omega⟩]
   obtain ⟨ad,ay,aM,Y⟩:=oE U 1 2 [.int .i64 2,.int .i64 3] rfl (by unfold top;omega)
   simp +contextual only [ol.1,ol.2.1,ai,ay,g1,aj,↓al,aw,simprocAttr]
   exact ⟨_,rfl,du.fb (l:=[2,3]) Y (by simp [top]),aF.trans aM⟩
 · by_cases Ir:l.length=1
   · obtain ⟨u,rfl⟩:∃u,l=[u]:=by
      match l,Ir with
      | [u],_=>exact ⟨u,rfl⟩
     rw [show cL 46 n [u]=(List.replicate (1:Int).toNat 3,decide (u.k=27)) from by simp [cL,Ct]]
     obtain ⟨b,off,wl,dy,X,iw,ld,lA,_,_⟩:=bc.vT AM (k:=.i64) (i:=0) (by simp)
     have vL:jd 5 dA (.int .i64 0)=some (.ptr b off):=by simpa using dy
     have d0:∀aa,Ext U aa→gV (aa.get b) off=some (.int .i64 u.k):=fun aa e=>by simpa using lA aa e
     have d1:=d0 U (Ext.refl _)
     simp +contextual only [ol.1,ol.2.1,ai,g1,aj,vL,d1,List.length_cons,List.length_nil,↓al,aw,simprocAttr]
     refine bV (gm 3 1 (by omega) U) ?_
     rintro y ad ⟨Y,aM⟩
     have d2:=d0 ad aM
     have g2:=(eA.ext aM).g
     simp +contextual only [g1,g2,vL,d1,d2,↓al,aw,simprocAttr]
     exact ⟨_,rfl,Y.fb (by simp [top]),aF.trans aM⟩
   · rw [show cL 46 n l=(List.replicate (1:Int).toNat 3,false) from by simp [cL,Ir]]
     have f1:((l.length:Int)=1)=False:=eq_false (by omega)
     simp +contextual only [ol.1,ol.2.1,ai,g1,aj,f1,↓al,aw,simprocAttr]
     refine bV (gm 3 1 (by omega) U) ?_
     rintro y ad ⟨Y,aM⟩
     have g2:=(eA.ext aM).g
     simp +contextual only [g1,g2,f1,↓al,aw,simprocAttr]
     exact ⟨_,rfl,Y.fb (by simp [top]),aF.trans aM⟩
 · rw [eE (q:=(l.length:Int)≤1) (show cL 47 n l=(List.replicate (l.length:Int).toNat 1,decide (l.length≤1)) from rfl) ⟨fun q=>by omega,fun q=>by omega⟩]
   simp +contextual only [ol.1,ol.2.1,ai,g1,aj,↓al,aw,simprocAttr]
   refine bV (gm 1 (l.length:Int) (by omega) U) ?_
   rintro y ad ⟨Y,aM⟩
   simp +contextual only [↓al,aw,simprocAttr]
   exact ⟨_,rfl,Y.fb (by rw [List.length_replicate];unfold top;omega),aF.trans aM⟩
 · rw [eE (q:=(l.length:Int)≤1) (show cL 51 n l=(List.replicate (l.length:Int).toNat 1,decide (l.length≤1)) from rfl) ⟨fun q=>by omega,fun q=>by omega⟩]
   simp +contextual only [ol.1,ol.2.1,ai,g1,aj,↓al,aw,simprocAttr]
   refine bV (gm 1 (l.length:Int) (by omega) U) ?_
   rintro y ad ⟨Y,aM⟩
   simp +contextual only [↓al,aw,simprocAttr]
   exact ⟨_,rfl,Y.fb (by rw [List.length_replicate];unfold top;omega),aF.trans aM⟩
 · rw [eE (q:=(l.length:Int)=2) (show cL 52 n l=([2,3],decide (l.length=2)) from rfl) ⟨fun q=>by omega,fun q=>by omega⟩]
   obtain ⟨ad,ay,aM,Y⟩:=oE U 1 2 [.int .i64 2,.int .i64 3] rfl (by unfold top;omega)
   simp +contextual only [ol.1,ol.2.1,ai,ay,g1,aj,↓al,aw,simprocAttr]
   exact ⟨_,rfl,du.fb (l:=[2,3]) Y (by simp [top]),aF.trans aM⟩
 · rw [eE (q:=(l.length:Int)≥1) (show cL 53 n l=(List.replicate (l.length:Int).toNat 5,decide (1≤l.length)) from rfl) ⟨fun q=>by omega,fun q=>by omega⟩]
   simp +contextual only [ol.1,ol.2.1,ai,g1,aj,↓al,aw,simprocAttr]
   refine bV (gm 5 (l.length:Int) (by omega) U) ?_
   rintro y ad ⟨Y,aM⟩
   simp +contextual only [↓al,aw,simprocAttr]
   exact ⟨_,rfl,Y.fb (by rw [List.length_replicate];unfold top;omega),aF.trans aM⟩
 · have UL:0≤n∧n≤64∧n<l.length:=by simpa [gC,and_assoc] using a7
   obtain ⟨c8,kX,n3⟩:=UL
   rw [show cL 50 n l=(List.replicate n.toNat (8:Int)++List.replicate (l.length-n.toNat) (6:Int),true) from rfl]
   have bL:IntKind.i64.wrap ((l.length:Int)-n)=(l.length:Int)-n:=wrap_i64 (by omega) (by omega)
   simp +contextual only [ol.1,ol.2.1,ai,g1,aj,bL,↓al,aw,simprocAttr]
   refine bV (gm 8 n (by omega) U) ?_
   rintro y ad ⟨Y,aM⟩
   have g2:=(eA.ext aM).g
   simp +contextual only [g1,g2,aj,bL,↓al,aw,simprocAttr]
   refine bV (gm 6 ((l.length:Int)-n) (by omega) ad) ?_
   rintro z aI ⟨Z,cm⟩
   have g3:=((eA.ext aM).ext cm).g
   rw [show ((l.length:Int)-n).toNat=l.length-n.toNat from by omega] at Z
   obtain ⟨ak,bq,b9,dZ,hG,mC⟩:=xu (by omega) (Y.ext cm) Z.v (Nat.le_trans aM.next cm.next) (by rw [List.length_replicate,List.length_replicate];unfold top;omega) (zm _)
   simp +contextual only [b9,g1,g2,g3,aj,bL,↓al,aw,simprocAttr]
   have W:du U.next bq 1 ak (List.replicate n.toNat (8:Int)++List.replicate (l.length-n.toNat) (6:Int)).length (jg (List.replicate n.toNat (8:Int)++List.replicate (l.length-n.toNat) (6:Int))):=by
    rw [List.length_append,D6];exact dZ
   exact ⟨_,rfl,W.fb (by rw [List.length_append,List.length_replicate,List.length_replicate];unfold top;omega),((aF.trans aM).trans cm).oJ hG fun b af=>Nat.le_trans aF.next (Y.base af)⟩
theorem aay {k n:Int} {l:List bc} (az:e1 k≠0) (a7:gC k n l.length=true) (h:(cL k n l).2=true):(cL k n l).1.length=l.length:=by
 rcases yY az with rfl | rfl | rfl | rfl | rfl | rfl | rfl | rfl | rfl | rfl | rfl | rfl | rfl | rfl | rfl | rfl | rfl | rfl | rfl | rfl | rfl | rfl | rfl | rfl | rfl | rfl | rfl | rfl | rfl | rfl | rfl | rfl | rfl | rfl | rfl | rfl | rfl | rfl<;>
 simp [cL,gC] at h a7 ⊢<;>first | omega | simp_all
theorem aaD (t:bc):t.hI dd=(decide (e1 t.k≠0)&&rY dd t.k t.s&&gC t.k t.n t.l.length&&decide (0≤t.a)&&decide (t.a≤65536)&&(cL t.k t.n t.l).2&&ku dd (cL t.k t.n t.l).1 t.l):=by
 cases t;rw [bc.hI];rfl
set_option maxHeartbeats 4000000 in
theorem Fe:∀(N:Nat) (t:bc),t.size≤N→N≤1000000000→∀(ab:List V) (h:ae),cl Any h t.enc ab→bK Tryz.prog 39 [.agg ab] h fun x aa=>x=.bool (t.hI dd)∧Ext h aa
 | 0,t,aR,_,_,_,_=>by have:=tU t;omega
 | N+1,t,aR,CG,ab,h,H=>by
   have sb:=H
   obtain ⟨dA,rfl,L,_⟩:=bc.open H
   have bt:N≤1000000000:=by omega
   have ol:=L.one
   have aj:=L.len
   have hle:=L.le
   rw [List.length_map] at aj hle
   have b4:=size_eq t
   have h':=zA t.l
   refine PH rfl (dn ?_)
   unfold BB
   obtain ⟨U,ai,aF,eA⟩:=jv h [.int .i64 t.k,.int .i64 t.n,.int .i64 t.a,.str t.s,dA]
   simp +contextual only [ol.1,ol.2.1,ai,eA.g,↓al,aw,simprocAttr]
   refine bV (Fb t.k U) ?_
   rintro x ad ⟨rfl,rfl⟩
   rw [aaD]
   by_cases aD:e1 t.k=0
   · simp +contextual only [eq_true aD,↓al,aw,simprocAttr]
     exact ⟨by simp [aD],aF⟩
   have qT:=eq_false aD
   simp +contextual only [qT,eA.g,↓al,aw,simprocAttr]
   refine bV (abJ t aD _ ad (sb.ext aF)) ?_
   rintro x aI ⟨rfl,cm⟩
   have wX:=eA.ext cm
   cases bB:rY dd t.k t.s with
   | false=>
     simp +contextual only [qT,wX.g,↓al,aw,simprocAttr]
     exact aF.trans cm
   | true=>
   simp +contextual only [qT,wX.g,↓al,aw,simprocAttr]
   refine bV (Y9 t aD _ aI (sb.ext (aF.trans cm))) ?_
   rintro x bq ⟨rfl,gH⟩
   have uq:=wX.ext gH
   have qm:=(aF.trans cm).trans gH
   cases bX:gC t.k t.n t.l.length with
   | false=>
     simp +contextual only [qT,uq.g,↓al,aw,simprocAttr]
     exact qm
   | true=>
   by_cases c3:t.a<0
   · simp +contextual only [qT,uq.g,eq_true c3,↓al,aw,simprocAttr]
     exact ⟨by rw [decide_eq_false (show ¬0≤t.a by omega)];simp,qm⟩
   by_cases fq:65536<t.a
   · simp +contextual only [qT,uq.g,eq_false c3,eq_true fq,↓al,aw,simprocAttr]
     exact ⟨by rw [decide_eq_false (show ¬t.a≤65536 by omega)];simp,qm⟩
   simp +contextual only [qT,uq.g,eq_false c3,eq_false fq,↓al,aw,simprocAttr]
   refine bV (Tq t aD bX (by omega) _ bq (sb.ext qm)) ?_
   rintro x ct ⟨Tt,rfl,F1,iV⟩
   have Aj:=uq.ext iV
   have k5:=qm.trans iV
   rw [decide_eq_true (show e1 t.k≠0 from aD),decide_eq_true (show 0≤t.a by omega),decide_eq_true (show t.a≤65536 by omega)]
   cases c5:(cL t.k t.n t.l).2 with
   | false=>
     simp +contextual only [Aj.g,↓al,aw,simprocAttr]
     exact k5
   | true=>
   have og:=aay aD bX c5
   generalize (cL t.k t.n t.l).1=gs at F1 og ⊢
   simp +contextual only [Aj.g,↓al,aw,simprocAttr]
   refine hj (fun r g=>r 1=.ptr (aG h.next) 0∧r 3=Tt∧∃i:Nat,r 5=.int .i64 i∧i≤t.l.length∧Ext ct g∧ku dd gs t.l=ku dd (gs.drop i) (t.l.drop i)) (fun r g=>t.l.length - (r 5).toN) ?_ ?_
   · exact ⟨by simp only [↓al,dB,simprocAttr],by simp only [↓al,dB,simprocAttr],0,by simp only [↓al,dB,simprocAttr]<;>rfl,by omega,Ext.refl ct,rfl⟩
   rintro r g ⟨bs,b3,i,cF,aC,E,bg⟩
   unfold GZ
   have A:=Aj.ext E
   have ht:=L.ext (k5.trans E)
   by_cases aO:i<t.l.length
   · have g0:((i:Int) < (t.l.length:Int))=True:=eq_true (by omega)
     obtain ⟨b,off,wl,dy,X,iw,ld,lA,_,_⟩:=bc.vT ht (k:=.i64) aO
     obtain ⟨cg,KS,ox,Yd⟩:=(F1.ext E).yU (k:=.i64) (i:=i) (by omega)
     have eY:=ld g (Ext.refl g)
     have d0:=lA g (Ext.refl g)
     have dg:=Yd g (Ext.refl g)
     have fc:=nH aO (by unfold top at hle;omega)
     have Uz:=tT (t:=t) (List.getElem_mem aO)
     rw [List.drop_eq_getElem_cons aO,List.drop_eq_getElem_cons (show i<gs.length by omega),ku] at bg
     have fin:∀(aJ:List gh) (R:aS),True:=fun _ _=>trivial
     by_cases lZ:gs[i]=8
     · have ew:p8 t.l[i].k gs[i]=decide (t.l[i].k=1):=by unfold p8;rw [if_pos lZ]
       by_cases n1:t.l[i].k=1
       · simp +contextual only [bs,b3,cF,A.g,aj,g0,dy,ox,eY,d0,dg,eq_true lZ,eq_true n1,↓al,aw,simprocAttr]
         refine bV (Fe N t.l[i] (by omega) bt _ g X) ?_
         rintro x g2 ⟨rfl,e6⟩
         rw [ew,decide_eq_true n1,Bool.true_and] at bg
         cases uZ:t.l[i].hI dd with
         | true=>
           rw [uZ,Bool.true_and] at bg
           simp +contextual only [bs,b3,cF,fc,↓al,aw,simprocAttr]
           exact ⟨⟨i+1,rfl,aO,E.trans e6,bg⟩,by omega⟩
         | false=>
           rw [uZ,Bool.false_and] at bg
           simp +contextual only [bs,b3,cF,fc,↓al,aw,simprocAttr]
           exact ⟨by rw [bg],k5.trans (E.trans e6)⟩
       · rw [ew,decide_eq_false n1,Bool.false_and,Bool.false_and] at bg
         simp +contextual only [bs,b3,cF,A.g,aj,g0,dy,ox,eY,d0,dg,eq_true lZ,eq_false n1,↓al,aw,simprocAttr]
         exact ⟨by rw [bg],k5.trans E⟩
     · have ew:p8 t.l[i].k gs[i]=decide (e1 t.l[i].k=gs[i]):=by unfold p8;rw [if_neg lZ]
       simp +contextual only [bs,b3,cF,A.g,aj,g0,dy,ox,eY,d0,dg,eq_false lZ,↓al,aw,simprocAttr]
       refine bV (Fb t.l[i].k g) ?_
       rintro x g2 ⟨rfl,rfl⟩
       by_cases n1:e1 t.l[i].k=gs[i]
       · simp +contextual only [bs,b3,cF,A.g,aj,g0,dy,ox,eY,d0,dg,eq_false lZ,eq_true n1,↓al,aw,simprocAttr]
         refine bV (Fe N t.l[i] (by omega) bt _ g2 X) ?_
         rintro x g3 ⟨rfl,e6⟩
         rw [ew,decide_eq_true n1,Bool.true_and] at bg
         cases uZ:t.l[i].hI dd with
         | true=>
           rw [uZ,Bool.true_and] at bg
           simp +contextual only [bs,b3,cF,fc,↓al,aw,simprocAttr]
           exact ⟨⟨i+1,rfl,aO,E.trans e6,bg⟩,by omega⟩
         | false=>
           rw [uZ,Bool.false_and] at bg
           simp +contextual only [bs,b3,cF,fc,↓al,aw,simprocAttr]
           exact ⟨by rw [bg],k5.trans (E.trans e6)⟩
       · rw [ew,decide_eq_false n1,Bool.false_and,Bool.false_and] at bg
         simp +contextual only [bs,b3,cF,A.g,aj,g0,dy,ox,eY,d0,dg,eq_false lZ,eq_false n1,↓al,aw,simprocAttr]
         exact ⟨by rw [bg],k5.trans E⟩
   · have g0:((i:Int) < (t.l.length:Int))=False:=eq_false (by omega)
     rw [List.drop_eq_nil_of_le (show t.l.length≤i by omega),ku] at bg
     simp +contextual only [bs,b3,cF,A.g,aj,g0,↓al,aw,simprocAttr]
     exact ⟨by rw [bg],k5.trans E⟩
def rS (l:List bc):Int:=if l.all (fun t=>decide (e1 t.k=7)&&t.hI dd) then (if l.all (fun t=>decide (t.deep≤200)) then 0 else 260) else 2
set_option maxHeartbeats 2000000 in
theorem aap (l:List bc) (aR:fa l≤1000000000) (v:V) (h:ae) (L:cM Any h 5 (l.map bc.enc) v):bK Tryz.prog 12 [v] h fun x aa=>x=.int .i64 (rS l)∧Ext h aa:=by
 have aj:=L.len
 have hle:=L.le
 rw [List.length_map] at aj hle
 refine Pg rfl (dn ?_)
 unfold Br
 simp +contextual only [↓al,aw,simprocAttr]
 refine hj (fun r g=>r 0=v∧∃i:Nat,r 3=.int .i64 i∧i≤l.length∧Ext h g∧(l.take i).all (fun t=>decide (e1 t.k=7)&&t.hI dd)=true) (fun r g=>l.length - (r 3).toN) ?_ ?_
 · exact ⟨by simp only [↓al,dB,simprocAttr],0,by simp only [↓al,dB,simprocAttr]<;>rfl,by omega,Ext.refl h,rfl⟩
 rintro r g ⟨bx,i,b3,aC,E,cT⟩
 unfold GU
 have ht:=L.ext E
 by_cases aO:i<l.length
 · have g0:((i:Int) < (l.length:Int))=True:=eq_true (by omega)
   obtain ⟨b,off,wl,dy,X,iw,ld,lA,_,_⟩:=bc.vT ht (k:=.i64) aO
   have eY:=ld g (Ext.refl g)
   have d0:=lA g (Ext.refl g)
   have fc:=nH aO (by unfold top at hle;omega)
   have bn:=rR (List.getElem_mem aO)
   simp +contextual only [bx,b3,aj,g0,dy,d0,eY,↓al,aw,simprocAttr]
   refine bV (Fb l[i].k g) ?_
   rintro x g2 ⟨rfl,rfl⟩
   have bad:(decide (e1 l[i].k=7)&&l[i].hI dd)=false→rS l=2:=fun q=>by
    unfold rS
    rw [if_neg]
    intro z
    have:=List.all_eq_true.1 z _ (List.getElem_mem aO)
    rw [q] at this;cases this
   by_cases bB:e1 l[i].k=7
   · simp +contextual only [bx,b3,dy,eY,eq_true bB,↓al,aw,simprocAttr]
     refine bV (Fe _ l[i] (Nat.le_refl _) (by omega) _ g2 X) ?_
     rintro x g3 ⟨rfl,cm⟩
     cases bX:l[i].hI dd with
     | true=>
       simp +contextual only [bx,b3,fc,↓al,aw,simprocAttr]
       refine ⟨⟨i+1,rfl,aO,E.trans cm,?_⟩,by omega⟩
       rw [take_one aO,List.all_append,cT]
       simp [bB,bX]
     | false=>
       simp +contextual only [bx,b3,fc,↓al,aw,simprocAttr]
       exact ⟨by rw [bad (by rw [bX,Bool.and_false])],E.trans cm⟩
   · simp +contextual only [bx,b3,dy,eY,eq_false bB,↓al,aw,simprocAttr]
     exact ⟨by rw [bad (by rw [decide_eq_false bB,Bool.false_and])],E⟩
 · have g0:((i:Int) < (l.length:Int))=False:=eq_false (by omega)
   rw [List.take_of_length_le (by omega)] at cT
   have aq:rS l=if l.all (fun t=>decide (t.deep≤200)) then 0 else 260:=by unfold rS;rw [if_pos cT]
   rw [aq]
   simp +contextual only [bx,b3,aj,g0,↓al,aw,simprocAttr]
   refine hj (fun r g=>r 0=v∧∃i:Nat,r 4=.int .i64 i∧i≤l.length∧Ext h g∧(l.take i).all (fun t=>decide (t.deep≤200))=true) (fun r g=>l.length - (r 4).toN) ?_ ?_
   · exact ⟨by simp only [bx,↓al,dB,simprocAttr],0,by simp only [↓al,dB,simprocAttr]<;>rfl,by omega,E,rfl⟩
   clear aC bx b3 ht E g0 aO
   rintro r g ⟨bx,i,k1,aC,E,cT⟩
   unfold GV
   have ht:=L.ext E
   by_cases aO:i<l.length
   · have g0:((i:Int) < (l.length:Int))=True:=eq_true (by omega)
     obtain ⟨b,off,wl,dy,X,iw,ld,lA,_,_⟩:=bc.vT ht (k:=.i64) aO
     have eY:=ld g (Ext.refl g)
     have fc:=nH aO (by unfold top at hle;omega)
     have bn:=rR (List.getElem_mem aO)
     simp +contextual only [bx,k1,aj,g0,dy,eY,↓al,aw,simprocAttr]
     refine bV (LC _ l[i] (Nat.le_refl _) (by omega) _ g X) ?_
     rintro x g2 ⟨rfl,aM⟩
     by_cases bB:(200:Int) < (l[i].deep:Int)
     · simp +contextual only [bx,k1,eq_true bB,↓al,aw,simprocAttr]
       refine ⟨?_,E.trans aM⟩
       rw [if_neg]
       intro z
       have:=List.all_eq_true.1 z _ (List.getElem_mem aO)
       simp only [decide_eq_true_eq] at this
       omega
     · simp +contextual only [bx,k1,fc,eq_false bB,↓al,aw,simprocAttr]
       refine ⟨⟨i+1,rfl,aO,E.trans aM,?_⟩,by omega⟩
       rw [take_one aO,List.all_append,cT]
       simp;omega
   · have g0:((i:Int) < (l.length:Int))=False:=eq_false (by omega)
     rw [List.take_of_length_le (by omega)] at cT
     simp +contextual only [bx,k1,aj,g0,↓al,aw,simprocAttr]
     exact ⟨by rw [if_pos cT],E⟩
end Go.Proofs.YtkehcalakofigaaGreatDoor
