/- The chapter's functions, walked by the abstract machine: plain lemmas, no condition. Printed by a program from longer texts: names made short. -/
import Derived.Test.YtkehcalakofigaaGreatDoorM10
import Derived.Test.YtkehcalakofigaaGreatDoorM12
import Derived.Test.YtkehcalakofigaaGreatDoorM13
import Derived.Test.YtkehcalakofigaaGreatDoorM8
set_option linter.unusedSectionVars false
set_option linter.unusedSimpArgs false
set_option linter.unusedVariables false
namespace Go.Proofs.YtkehcalakofigaaGreatDoor
open Go aS
theorem N0 (t:aL):t.may ee=match oL t.k with
 | none=>false
 | some r=>xg ee r t.k t.n t.a t.s&&k_ r t.k t.n t.l.length&&j1 ee (qH r t.k t.n t.l.length) t.l:=by
 cases t;rw [aL.may];rfl
theorem OW {named:Int→List UInt8→Bool}:∀{gs:List Int} {l:List aL},l.length≤gs.length→j1 named gs l=true→∀t ∈ l,t.may named=true
 | _,[],_,_,t,aD=>by cases aD
 | [],u::l,ai,_,t,aD=>by simp at ai
 | g::gs,u::l,ai,h,t,aD=>by
   rw [j1,Bool.and_eq_true,Bool.and_eq_true] at h
   rcases List.mem_cons.1 aD with rfl | aD
   · exact h.1.2
   · exact OW (by simpa using ai) h.2 t aD
theorem adp {t:aL} (h:t.may ee=true):∀u ∈ t.l,u.may ee=true:=by
 rw [N0] at h
 cases aH:oL t.k with
 | none=>rw [aH] at h;cases h
 | some r=>
   rw [aH] at h
   simp only [Bool.and_eq_true] at h
   obtain ⟨⟨_,ae⟩,aF⟩:=h
   have ba:0≤gl r t.k t.n t.l.length:=by
    unfold k_ at ae
    simp only [Bool.and_eq_true,decide_eq_true_eq] at ae
    have:=(PJ aH).2.2.1
    omega
   exact OW (by rw [LN ba];exact Nat.le_refl _) aF
theorem G9 {t:aL} {r:gC} (h:t.may ee=true) (aH:oL t.k=some r):k_ r t.k t.n t.l.length=true:=by
 rw [N0,aH] at h
 simp only [Bool.and_eq_true] at h
 exact h.1.2
theorem ads {t:aL} (h:t.may ee=true) (aA:t.k=24):t.l=[]:=by
 have:=G9 h (r:={s:=1}) (by rw [aA];rfl)
 simp only [k_,gl,firstM,aA,Bool.and_eq_true,decide_eq_true_eq] at this
 simpa using this
theorem G' {t:aL} (h:t.may ee=true) (aA:t.k=27∨t.k=45):t.l.length=2:=by
 have:=G9 h (r:={first:=[2,3]}) (by rcases aA with aA | aA<;>rw [aA]<;>rfl)
 have fz:¬t.k=50:=by omega
 simp only [k_,gl,firstM,fz,if_false,Bool.and_eq_true,decide_eq_true_eq] at this
 simp at this
 omega
theorem N2 {t:aL} (h:t.may ee=true) (aA:t.k=29):t.l.length=3:=by
 have:=G9 h (r:={first:=[2,3,3]}) (by rw [aA];rfl)
 have fz:¬t.k=50:=by omega
 simp only [k_,gl,firstM,fz,if_false,Bool.and_eq_true,decide_eq_true_eq] at this
 simp at this
 omega
theorem EW {l:List aL} (h:0<l.length):je l=l[0].names:=by
 cases l with
 | nil=>simp at h
 | cons t l=>rfl
theorem W6 (l:List aL):(je l).length≤dD l:=by
 cases l with
 | nil=>simp [je]
 | cons t l=>rw [je,dD];have:=Hc t;omega
theorem SS {k:Int} {l:List aL} {i:Nat} (az:i<l.length):(hD k l i).length+l[i].size≤dD l+1:=by
 have ba:=BT (l.take i) (l.drop i)
 rw [List.take_append_drop,List.drop_eq_getElem_cons az,dD] at ba
 have aF:=p2 (l.take i)
 have bu:=p2 (l.drop (i+1))
 rw [List.length_take,Nat.min_eq_left (by omega)] at aF
 rw [List.length_drop] at bu
 have first:∀j,0<j→i=j→(je l).length+l[i].size≤dD l:=by
  intro j bI k0
  have:(je l).length≤dD (l.take i):=by
   cases l with
   | nil=>simp at az
   | cons t l=>
     rw [k0]
     cases j with
     | zero=>omega
     | succ j=>rw [List.take_succ_cons,dD,je];have:=Hc t;omega
  omega
 have ae:=Dv l
 unfold hD
 split
 · split
   · rename_i h;have:=first 1 (by omega) h;omega
   · simp only [List.length_nil];omega
 · split
   · split
     · rename_i h;have:=first 2 (by omega) h;omega
     · simp only [List.length_nil];omega
   · split
     · omega
     · simp only [List.length_nil];omega
def ja (bB:List (Nm × Int)) (s:Nm):Int:=(mv s bB).getD 0
theorem VY (s:Nm) (x:Int) (bB:List (Nm × Int)) (t:Nm):ja (nD s x bB) t=if t=s then x else ja bB t:=by
 unfold ja
 rw [NK]
 split<;>rfl
theorem NN [Lay] {h:af} {b:aO} {bB:List (Nm × Int)} (H:hl (V.int .i64) h b bB) (s:Nm):iq kR (.int .i64 0) false h (.map b) (.str s)=some (.int .i64 (ja bB s)):=by
 rw [H.look]
 unfold ja
 cases mv s bB<;>rfl
theorem ch.yJ [Lay] {F:aO→Prop} {h:af} {l:List (List UInt8)} {v:V} (H:ch F h 1 (l.map aS.encS) v) {k:IntKind} {i:Nat} (az:i<l.length):
 ∃b off,jj 1 v (.int k i)=some (.ptr b (off+i))∧l[i].length≤top∧∀ab,Ext h ab→hd (ab.get b) (off+i)=some (.str l[i]):=by
 obtain ⟨b,off,aa,ae,aF⟩:=H.agm (k:=k) az
 exact ⟨b,off,by simpa using aa,ae,fun ab e=>by simpa using aF ab e⟩
set_option maxHeartbeats 4000000 in
theorem SV (jD:Int) (pv:jD=1∨jD=-1) (L:List Nm) (cV:L.length≤1000000000) (v:V) (iP:Nat) (ca:aO) (sF:ca≠ay iP) (bB:List (Nm × Int)) (aA:∀s,-1000000000≤ja bB s∧ja bB s≤1000000000) (h:af) (S:ch (fun b=>b≠ca) h 1 (L.map aS.encS) v) (P:Has h iP [.map ca]) (M:hl (V.int .i64) h ca bB):
 bM Tryz.prog 54 [v,.int .i64 jD,.ptr (ay iP) 0] h fun x ab=>∃mn,hl (V.int .i64) ab ca mn∧(∀s,ja mn s=ja bB s+jD * (L.count s:Nat))∧Mod (fun b=>b=ca) h ab:=by
 have ai:=S.len
 rw [List.length_map] at ai
 have hle:=S.le
 rw [List.length_map] at hle
 have ol:=S.one
 refine UL rfl (dt ?_)
 unfold Eb
 simp +contextual only [ai,↓aw,aJ,simprocAttr]
 refine gS (fun r g=>r 1=.int .i64 jD∧r 2=.ptr (ay iP) 0∧r 7=v∧r 8=.int .i64 L.length∧∃(i:Nat) (mn:List (Nm × Int)),r 9=.int .i64 i∧i≤L.length∧hl (V.int .i64) g ca mn∧(∀s,ja mn s=ja bB s+jD * ((L.take i).count s:Nat))∧Mod (fun b=>b=ca) h g) (fun r g=>L.length - (r 9).toN) ?_ ?_
 · exact ⟨by simp only [↓aw,bw,simprocAttr],by simp only [↓aw,bw,simprocAttr],by simp only [↓aw,bw,simprocAttr],by simp only [↓aw,bw,simprocAttr],0,bB,by simp only [↓aw,bw,simprocAttr]<;>rfl,by omega,M,fun s=>by simp,Mod.refl _ _⟩
 rintro r g ⟨bz,bZ,fj,dE,i,mn,hg,az,qv,ao,E⟩
 unfold Kg
 have Ry:=P.mod E fun q=>sF q.symm
 by_cases aP:i<L.length
 · have g0:((i:Int) < (L.length:Int))=True:=eq_true (by omega)
   obtain ⟨b,off,c0,aQ,ld⟩:=ch.yJ (S.mod (dx:=fun b=>b≠ca) E fun b q _=>⟨q,q⟩) (k:=.i64) aP
   have d1:=ld g (Ext.refl g)
   have eR:=kF aP (by unfold top at hle;omega)
   have gb:=ao L[i]
   have h3:=aA L[i]
   have Yy:((L.take i).count L[i]:Nat)≤1000000000:=Nat.le_trans List.count_le_length (by rw [List.length_take];omega)
   have bK:IntKind.i64.wrap (ja mn L[i]+jD)=ja mn L[i]+jD:=by
    rcases pv with rfl | rfl<;>exact wrap_i64 (by omega) (by omega)
   obtain ⟨g2,tr,yN,yO,agQ⟩:=qv.oQ L[i] (ja mn L[i]+jD)
   have iM:=NN qv L[i]
   simp +contextual only [bz,bZ,fj,dE,hg,g0,c0,d1,Ry.g,j9.eq,iM,bK,tr,eR,↓aw,aJ,simprocAttr]
   refine ⟨⟨i+1,_,rfl,aP,yN,fun s=>?_,E.trans yO⟩,by omega⟩
   rw [VY,List.take_succ_eq_append_getElem aP,List.count_append]
   by_cases q:s=L[i]
   · subst q
     rw [if_pos rfl,gb,List.count_singleton_self]
     rcases pv with rfl | rfl<;>push_cast<;>omega
   · rw [if_neg q,ao s,List.count_singleton,if_neg (by simpa using fun z=>q z.symm)]
     simp
 · have g0:((i:Int) < (L.length:Int))=False:=eq_false (by omega)
   rw [List.take_of_length_le (by omega)] at ao
   simp +contextual only [bz,bZ,fj,dE,hg,g0,↓aw,aJ,simprocAttr]
   exact ⟨mn,qv,ao,E⟩
set_option maxHeartbeats 4000000 in
theorem OF (l:List aL) (v:V) (h:af) (L:ch Any h 5 (l.map aL.enc) v):bM Tryz.prog 55 [v] h fun x ab=>hV h.next ab (iB l) x∧Ext h ab:=by
 have ai:=L.len
 have hle:=L.le
 rw [List.length_map] at ai hle
 have ol:=L.one
 refine UO rfl (dt ?_)
 unfold Ec
 simp +contextual only [ai,↓aw,aJ,simprocAttr]
 refine gS (fun r g=>r 6=v∧r 7=.int .i64 l.length∧∃(i:Nat) (w:V),r 3=w∧r 8=.int .i64 i∧i≤l.length∧hV h.next g (iB (l.take i)) w∧Ext h g) (fun r g=>l.length - (r 8).toN) ?_ ?_
 · exact ⟨by simp only [↓aw,bw,simprocAttr],by simp only [↓aw,bw,simprocAttr],0,.b4,by simp only [↓aw,bw,simprocAttr],by simp only [↓aw,bw,simprocAttr]<;>rfl,by omega,hV.nil _ _,Ext.refl h⟩
 rintro r g ⟨dZ,fj,i,w,b6,dE,az,W,E⟩
 unfold Kh
 have eF:=W.1.v.one
 have Bw:=E.next
 by_cases aP:i<l.length
 · have g0:((i:Int) < (l.length:Int))=True:=eq_true (by omega)
   obtain ⟨b,off,cH,c0,X,gY,ld⟩:=aL.k9 (L.ext E) (k:=.i64) aP
   have d0:=ld g (Ext.refl g)
   have eR:=kF aP (by unfold top at hle;omega)
   obtain ⟨_,_,_,k6⟩:=aL.open X
   have fs:=gY.one
   have ag:=Dv (l.take i)
   rw [List.length_take] at ag
   obtain ⟨g1,dH,bm,dw⟩:=gZ g [.int .i64 0,.int .i64 0,.int .i64 0,.str [],.b4] [.int .i64 l[i].k,.int .i64 l[i].n,.int .i64 l[i].a,.str l[i].s,cH]
   have s7:=bm.next
   by_cases c:l[i].k=46
   · obtain ⟨eh,aF,b2,zu,dR,ju,gi,l8,dh⟩:=(W.ext bm).add (by omega) (by unfold top at hle ⊢;omega) k6
     simp +contextual only [b6,dZ,fj,dE,g0,c0,d0,dH,dw.g,fs.1,fs.2.1,eq_true c,b2,gi,l8,eR,↓aw,aJ,simprocAttr]
     refine ⟨⟨i+1,rfl,aP,?_,(E.trans bm).q5 dR fun b q=>W.1.base q⟩,by omega⟩
     rw [take_one aP,JV,show iB [l[i]]=[l[i].s] from by simp [iB,c]]
     exact zu
   · simp +contextual only [b6,dZ,fj,dE,g0,c0,d0,dH,dw.g,fs.1,fs.2.1,eq_false c,eR,↓aw,aJ,simprocAttr]
     refine ⟨⟨i+1,rfl,aP,?_,E.trans bm⟩,by omega⟩
     rw [take_one aP,JV,show iB [l[i]]=[] from by simp [iB,c],List.append_nil]
     exact W.ext bm
 · have g0:((i:Int) < (l.length:Int))=False:=eq_false (by omega)
   rw [List.take_of_length_le (by omega)] at W
   simp +contextual only [b6,dZ,fj,dE,g0,eF.1,eF.2.1,↓aw,aJ,simprocAttr]
   exact ⟨W,E⟩
abbrev mL (ca cM:aO):aO→Prop:=fun b=>b≠ca∧b≠cM
structure ig [Lay] (ca cM:aO) (B O:List Nm) (h:af):Prop where
 b:∃bB,hl (V.int .i64) h ca bB∧∀s,ja bB s=(B.count s:Nat)
 o:∃ny:List (Nm × Bool),hl V.bool h cM ny∧ny.map Prod.fst=O
section
variable [Lay] {ca cM:aO} {B O:List Nm} {h ab:af}
theorem ig.ext (H:ig ca cM B O h) (e:Ext h ab):ig ca cM B O ab:=by
 obtain ⟨⟨bB,bH,a2⟩,ny,b7,b_⟩:=H
 exact ⟨⟨bB,bH.ext e,a2⟩,ny,b7.ext e,b_⟩
theorem ig.BC (H:ig ca cM B O h):Old h ca:=by obtain ⟨⟨bB,bH,_⟩,_⟩:=H;exact bH.bR
theorem ig.BD (H:ig ca cM B O h):Old h cM:=by obtain ⟨_,ny,b7,_⟩:=H;exact b7.bR
end
theorem SR {t:aL} (hm:t.may ee=true):∃(dh:Nat) (ie:List Nm),(t.k=27∨t.k=45→dh=1∧ie=je t.l)∧(t.k=29→dh=2∧ie=je t.l)∧(t.k=30∨t.k=53→dh=0∧ie=iB t.l)∧(¬(t.k=27∨t.k=45)→¬t.k=29→¬(t.k=30∨t.k=53)→dh=t.l.length∧ie=[])∧
 dh≤t.l.length∧ie.length≤dD t.l∧∀i,i<t.l.length→hD t.k t.l i=if dh≤i then ie else []:=by
 have aa:=W6 t.l
 have ae:=Dv t.l
 have aF:=p2 t.l
 by_cases bs:t.k=27∨t.k=45
 · have bu:=G' hm bs
   refine ⟨1,je t.l,fun _=>⟨rfl,rfl⟩,fun q=>absurd q (by omega),fun q=>absurd q (by omega),fun q=>absurd bs q,by omega,aa,fun i az=>?_⟩
   rw [hD,if_pos bs]
   have:i=0∨i=1:=by omega
   rcases this with rfl | rfl<;>rfl
 · by_cases bN:t.k=29
   · have bu:=N2 hm bN
     refine ⟨2,je t.l,fun q=>absurd q bs,fun _=>⟨rfl,rfl⟩,fun q=>absurd q (by omega),fun _ q=>absurd bN q,by omega,aa,fun i az=>?_⟩
     rw [hD,if_neg bs,if_pos bN]
     have:i=0∨i=1∨i=2:=by omega
     rcases this with rfl | rfl | rfl<;>rfl
   · by_cases c3:t.k=30∨t.k=53
     · refine ⟨0,iB t.l,fun q=>absurd q bs,fun q=>absurd q bN,fun _=>⟨rfl,rfl⟩,fun _ _ q=>absurd c3 q,by omega,by omega,fun i az=>?_⟩
       rw [hD,if_neg bs,if_neg bN,if_pos c3,if_pos (Nat.zero_le _)]
     · refine ⟨t.l.length,[],fun q=>absurd q bs,fun q=>absurd q bN,fun q=>absurd q c3,fun _ _ _=>⟨rfl,rfl⟩,by omega,by simp,fun i az=>?_⟩
       rw [hD,if_neg bs,if_neg bN,if_neg c3,if_neg (by omega)]
abbrev I7 (N:Nat):Prop:=∀(t:aL),t.size≤N→t.may ee=true→∀(B O:List Nm) (ad:List V) (ca cM:aO) (h:af),ca≠cM→b9 (mL ca cM) h t.enc ad→ig ca cM B O h→
 B.length+t.size≤100000000→bM Tryz.prog 42 [.agg ad,.map ca,.map cM] h fun x ab=>ig ca cM B (t.dh fV B O) ab∧Mod (fun b=>b=ca∨b=cM) h ab
def zT:bF:=bF.seq (bF.aE [⟨(some 69),.dp (.t 9),none,[9]⟩,⟨(some 70),.fw 4 (.t 3),none,[3]⟩,⟨(some 71),.fS (.t 70),none,[70]⟩,⟨(some 72),.len .slice (.t 71),none,[71]⟩,⟨(some 73),.bin (.int .lss) (.t 69) (.t 72),none,[69,72]⟩])
 (bF.cond (.t 73) (bF.aE [⟨(some 74),.dp (.t 6),none,[6]⟩,⟨(some 75),.dp (.t 8),none,[8]⟩,⟨(some 76),.kO (.t 74) [(.t 75),(.c (.int .i64 (-1)))],none,[74,75]⟩]) (bF.skip))
set_option maxHeartbeats 8000000 in
theorem Xe {N:Nat} (bx:N≤100000000) (bf:I7 N) (t:aL) (aQ:t.size≤N+1) (hm:t.may ee=true) {B nQ ie:List Nm} {dh:Nat} (f5:dh≤t.l.length) (f6:ie.length≤dD t.l) (f7:∀i,i<t.l.length→hD t.k t.l i=if dh≤i then ie else [])
 {ca cM:aO} (pt:ca≠cM) {yw oJ:Nat} {g0:af} {cH kA:V} (A:Has g0 yw [.int .i64 t.k,.int .i64 t.n,.int .i64 t.a,.str t.s,cH]) (QX:Has g0 oJ [.map ca]) (Hd:ca≠ay yw) (Bt:cM≠ay yw) (vk:ca≠ay oJ) (Bu:cM≠ay oJ)
 (L:ch (mL ca cM) g0 5 (t.l.map aL.enc) cH) (wo:ch (mL ca cM) g0 1 (ie.map aS.encS) kA) (zt:ig ca cM B nQ g0) (ag:B.length+t.size≤100000000)
 {r:aT} (b6:r 3=.ptr (ay yw) 0) (eX:r 4=.ptr (ay oJ) 0) (dZ:r 6=.func 54 [.ptr (ay oJ) 0]) (dE:r 8=kA) (bZ:r 2=.map cM) (lU:r 51=cH) (lV:r 52=.int .i64 t.l.length) (hg:r 9=.int .i64 dh) (lW:r 53=.int .i64 0)
 {Q:c6→aT→af→Prop} (cP:∀e r ab,e.ends→ig ca cM B (e1 fV t.k t.l 0 t.l B nQ) ab→Mod (fun b=>b=ca∨b=cM) g0 ab→Q e r ab):
 ve Tryz.prog zS [.a_ 1,.c zT] r g0 Q:=by
 have ol:=L.one
 have ai:=L.len
 have hle:=L.le
 rw [List.length_map] at ai hle
 have b5:=size_eq t
 have h5:=p2 t.l
 have vt:=wo.one
 refine gS (fun r g=>r 3=.ptr (ay yw) 0∧r 4=.ptr (ay oJ) 0∧r 6=.func 54 [.ptr (ay oJ) 0]∧r 8=kA∧r 2=.map cM∧r 51=cH∧r 52=.int .i64 t.l.length∧r 9=.int .i64 dh∧∃(i:Nat) (nP:List Nm),r 53=.int .i64 i∧i≤t.l.length∧ig ca cM (if dh<i then B++ie else B) nP g∧
  e1 fV t.k t.l 0 t.l B nQ=e1 fV t.k t.l i (t.l.drop i) B nP∧Mod (fun b=>b=ca∨b=cM) g0 g) (fun r g=>t.l.length - (r 53).toN) ?_ ?_
 · exact ⟨b6,eX,dZ,dE,bZ,lU,lV,hg,0,nQ,lW,by omega,by rw [if_neg (by omega)];exact zt,rfl,Mod.refl _ _⟩
 clear b6 eX dZ dE bZ lU lV hg lW
 rintro r g ⟨b6,eX,dZ,dE,bZ,lU,lV,hg,i,nP,lW,az,T,kY,E⟩
 have vS:=A.mod E fun q=>by rcases q with q | q;exact Hd q.symm;exact Bt q.symm
 have y0:=QX.mod E fun q=>by rcases q with q | q;exact vk q.symm;exact Bu q.symm
 have e5:∀b,mL ca cM b→Old g0 b→¬(b=ca∨b=cM)∧mL ca cM b:=fun b q _=>⟨fun z=>by rcases z with z | z;exact q.1 z;exact q.2 z,q⟩
 have j':=L.mod E e5
 have Ji:=wo.mod E e5
 have mQ:∀(jD:Int) (pv:jD=1∨jD=-1) (nK eo tJ:List Nm) (g:af),ig ca cM nK tJ g→nK.length≤1000000000→(∀s,(eo.count s:Int)=(nK.count s:Nat)+jD * (ie.count s:Nat))→ch (mL ca cM) g 1 (ie.map aS.encS) kA→Has g oJ [.map ca]→bM Tryz.prog 54 [kA,.int .i64 jD,.ptr (ay oJ) 0] g fun x ab=>ig ca cM eo tJ ab∧Mod (fun b=>b=ca) g ab:=by
  intro jD pv nK eo tJ g qz oc ao S P
  obtain ⟨⟨bB,wm,M2⟩,ny,zm,zn⟩:=qz
  refine (SV jD pv ie (by omega) kA oJ ca vk bB (fun s=>?_) g (S.iX fun b q=>q.1) P wm).mono ?_
  · rw [M2]
    have:nK.count s≤nK.length:=List.count_le_length
    omega
  · rintro x ab ⟨mn,Rm,Rn,Jc⟩
    exact ⟨⟨⟨mn,Rm,fun s=>by rw [Rn,M2,ao]⟩,ny,zm.mod Jc (fun q=>pt q.symm),zn⟩,Jc⟩
 unfold zS
 by_cases aP:i<t.l.length
 · have w7:((i:Int) < (t.l.length:Int))=True:=eq_true (by omega)
   obtain ⟨b,off,wl,c0,X,gY,ld⟩:=aL.k9 j' (k:=.i64) aP
   have d0:=ld g (Ext.refl g)
   have eR:=kF aP (by unfold top at hle;omega)
   have fs:=gY.one
   have bh:=rh (t:=t) (List.getElem_mem aP)
   have m_:=SS (k:=t.k) aP
   have lD:=f7 i aP
   obtain ⟨g1,dH,bm,dw⟩:=gZ g [.int .i64 0,.int .i64 0,.int .i64 0,.str [],.b4] [.int .i64 t.l[i].k,.int .i64 t.l[i].n,.int .i64 t.l[i].a,.str t.l[i].s,wl]
   have y1:=y0.ext bm
   have qz:=T.ext bm
   have adN:ca≠ay g.next:=fun q=>by have:=T.BC;unfold Old at this;rw [q,c4] at this;omega
   have aix:cM≠ay g.next:=fun q=>by have:=T.BD;unfold Old at this;rw [q,c4] at this;omega
   have last:∀(g2:af) (bo:aT),ig ca cM (B++hD t.k t.l i) nP g2→Mod (fun b=>b=ca) g1 g2→bM Tryz.prog 42 [.agg [.int .i64 t.l[i].k,.int .i64 t.l[i].n,.int .i64 t.l[i].a,.str t.l[i].s,wl],.map ca,.map cM] g2 fun x ab=>ig ca cM (B++hD t.k t.l i) (t.l[i].dh fV (B++hD t.k t.l i) nP) ab∧Mod (fun b=>b=ca∨b=cM) g2 ab:=by
    intro g2 bo kb m2
    exact bf t.l[i] (by omega) (adp hm _ (List.getElem_mem aP)) _ nP _ ca cM g2 pt ((X.ext bm).mod m2 fun b q _=>⟨q.1,q⟩) kb (by rw [List.length_append];omega)
   have fin:∀(g2 g3:af),Mod (fun b=>b=ca) g1 g2→Mod (fun b=>b=ca∨b=cM) g2 g3→Mod (fun b=>b=ca∨b=cM) g0 g3:=fun g2 g3 m2 m3=>E.trans ((bm.mod _).trans ((m2.mono fun _ _ q=>.inl q).trans m3))
   have same:e1 fV t.k t.l 0 t.l B nQ=e1 fV t.k t.l (i+1) (t.l.drop (i+1)) B (t.l[i].dh fV (B++hD t.k t.l i) nP):=by rw [kY,Lv fV t.k t.l aP]
   by_cases c:i=dh
   · have eM:((i:Int)=(dh:Int))=True:=eq_true (by omega)
     have L2:hD t.k t.l i=ie:=by rw [lD,if_pos (by omega)]
     rw [if_neg (by omega)] at qz
     simp +contextual only [b6,eX,dZ,dE,bZ,lU,lV,hg,lW,w7,c0,d0,dH,dw.g,y1.g,fs.1,fs.2.1,vt.1,vt.2.1,eM,l9,List.cons_append,List.nil_append,show (54=4294967296)=False from by simp,if_false,↓aw,aJ,simprocAttr]
     refine cj (mQ 1 (.inl rfl) B (B++ie) nP g1 qz (by omega) (fun s=>by rw [List.count_append];push_cast;omega) (Ji.ext bm) y1) ?_
     rintro x g2 ⟨kb,m2⟩
     have cS:=dw.mod m2 fun q=>adN q.symm
     have QV:=y1.mod m2 fun q=>vk q.symm
     simp +contextual only [b6,eX,dZ,dE,bZ,lU,lV,hg,lW,cS.g,QV.g,↓aw,aJ,simprocAttr]
     refine cj (last g2 r (by rw [L2];exact kb) m2) ?_
     rintro x g3 ⟨rW,m3⟩
     simp +contextual only [b6,eX,dZ,dE,bZ,lU,lV,hg,lW,eR,↓aw,aJ,simprocAttr]
     refine ⟨⟨i+1,_,rfl,aP,?_,same,fin g2 g3 m2 m3⟩,by omega⟩
     rw [if_pos (by omega),←L2]
     exact rW
   · have eM:((i:Int)=(dh:Int))=False:=eq_false (by omega)
     have RP:ig ca cM (B++hD t.k t.l i) nP g1:=by
      rw [lD]
      by_cases q:dh<i
      · rw [if_pos q] at qz;rw [if_pos (by omega)];exact qz
      · rw [if_neg q] at qz;rw [if_neg (by omega),List.append_nil];exact qz
     simp +contextual only [b6,eX,dZ,dE,bZ,lU,lV,hg,lW,w7,c0,d0,dH,dw.g,y1.g,fs.1,fs.2.1,vt.1,vt.2.1,eM,↓aw,aJ,simprocAttr]
     refine cj (last g1 r RP (Mod.refl _ _)) ?_
     rintro x g3 ⟨rW,m3⟩
     simp +contextual only [b6,eX,dZ,dE,bZ,lU,lV,hg,lW,eR,↓aw,aJ,simprocAttr]
     refine ⟨⟨i+1,_,rfl,aP,?_,same,fin g1 g3 (Mod.refl _ _) m3⟩,by omega⟩
     rw [lD] at rW
     by_cases q:dh<i
     · rw [if_pos (show dh≤i by omega)] at rW;rw [if_pos (by omega)];rw [lD,if_pos (show dh≤i by omega)];exact rW
     · rw [if_neg (show ¬dh≤i by omega),List.append_nil] at rW;rw [if_neg (by omega)];rw [lD,if_neg (show ¬dh≤i by omega),List.append_nil];exact rW
 · have w7:((i:Int) < (t.l.length:Int))=False:=eq_false (by omega)
   rw [List.drop_eq_nil_of_le (by omega),e1] at kY
   by_cases c:dh<t.l.length
   · have eM:((dh:Int) < (t.l.length:Int))=True:=eq_true (by omega)
     rw [if_pos (by omega)] at T
     unfold zT
     simp +contextual only [b6,eX,dZ,dE,bZ,lU,lV,hg,lW,w7,vS.g,y0.g,ai,eM,vt.1,vt.2.1,l9,List.cons_append,List.nil_append,show (54=4294967296)=False from by simp,if_false,↓aw,aJ,simprocAttr]
     refine cj (mQ (-1) (.inr rfl) (B++ie) B nP g T (by rw [List.length_append];omega) (fun s=>by rw [List.count_append];push_cast;omega) Ji y0) ?_
     rintro x g2 ⟨kb,m2⟩
     simp +contextual only [↓aw,aJ,simprocAttr]
     exact cP _ _ _ (by trivial) (by rw [kY];exact kb) (E.trans (m2.mono fun _ _ q=>.inl q))
   · have eM:((dh:Int) < (t.l.length:Int))=False:=eq_false (by omega)
     rw [if_neg (by omega)] at T
     unfold zT
     simp +contextual only [b6,eX,dZ,dE,bZ,lU,lV,hg,lW,w7,vS.g,y0.g,ai,eM,↓aw,aJ,simprocAttr]
     exact cP _ _ _ (by trivial) (by rw [kY];exact T) E
set_option maxHeartbeats 16000000 in
theorem Lu:∀(N:Nat),N≤100000000→I7 N
 | 0,_,t,aQ,_,_,_,_,_,_,_,_,_,_,_=>by have:=ri t;omega
 | N+1,Fe,t,aQ,hm,B,O,ad,ca,cM,h,pt,H,T,ag=>by
   have hU:=H
   obtain ⟨cH,rfl,L,k6⟩:=aL.open H
   have bx:N≤100000000:=by omega
   have ol:=L.one
   have ai:=L.len
   have hle:=L.le
   rw [List.length_map] at ai hle
   have b5:=size_eq t
   have h5:=p2 t.l
   obtain ⟨dh,ie,f1,f2,f3,f4,f5,f6,f7⟩:=SR hm
   refine Ur rfl (dt ?_)
   unfold D7
   obtain ⟨aa,aq,aN,dw⟩:=gO h [.int .i64 t.k,.int .i64 t.n,.int .i64 t.a,.str t.s,cH]
   obtain ⟨ae,av,aY,eo⟩:=gO aa [.map ca]
   have cS:=dw.ext aY
   have fa:=aN.trans aY
   have kb:=T.ext fa
   have nO:=L.ext fa
   have adZ:=kb.BC
   have aeo:=kb.BD
   have c1:=aN.next
   have hO:=aY.next
   have Nq:=dw.lt
   have h8:=eo.lt
   have Hd:ca≠ay h.next:=fun q=>by have:=T.BC;unfold Old at this;rw [q,c4] at this;omega
   have Bt:cM≠ay h.next:=fun q=>by have:=T.BD;unfold Old at this;rw [q,c4] at this;omega
   have vk:ca≠ay aa.next:=fun q=>by have:=T.BC;unfold Old at this;rw [q,c4] at this;omega
   have Bu:cM≠ay aa.next:=fun q=>by have:=T.BD;unfold Old at this;rw [q,c4] at this;omega
   have Hj:∀g,ch (mL ca cM) g 1 (([]:List Nm).map aS.encS) .b4:=fun g=>ch.nil _ _ _
   have Eo:∀aP:0<t.l.length,∃(b:aO) (off:Nat) (wl:V),jj 5 cH (.int .i64 0)=some (.ptr b off)∧b9 Any ae t.l[0].enc [.int .i64 t.l[0].k,.int .i64 t.l[0].n,.int .i64 t.l[0].a,.str t.l[0].s,wl]∧lO 5 (ae.get b) off=some (.agg [.int .i64 t.l[0].k,.int .i64 t.l[0].n,.int .i64 t.l[0].a,.str t.l[0].s,wl])∧t.l[0].size≤1000000000:=fun aP=>by
    obtain ⟨b,off,wl,c0,X,gY,ld⟩:=aL.k9 nO (k:=.i64) aP
    have:=rh (t:=t) (List.getElem_mem aP)
    exact ⟨b,off,wl,by simpa using c0,X.iX fun _ _=>trivial,by simpa using ld ae (Ext.refl _),by omega⟩
   have own:∀{x:V} {g:af} {l:List Nm},hV ae.next g l x→l.length≤dD t.l→ch (mL ca cM) g 1 (l.map aS.encS) x:=fun W hlen=>
    W.e8 (by unfold top;omega) fun b ag=>⟨fun q=>by subst q;unfold Old at adZ;omega,fun q=>by subst q;unfold Old at aeo;omega⟩
   have aac:=Lu N bx
   have finish:∀{g0:af} {kA:V} {nQ:List Nm} {r:aT} (vS:Has g0 h.next [.int .i64 t.k,.int .i64 t.n,.int .i64 t.a,.str t.s,cH]) (wo:ch (mL ca cM) g0 1 (ie.map aS.encS) kA) (zt:ig ca cM B nQ g0) (zp:Mod (fun b=>b=ca∨b=cM) ae g0) (kY:t.dh fV B O=e1 fV t.k t.l 0 t.l B nQ)
    (b6:r 3=.ptr (ay h.next) 0) (eX:r 4=.ptr (ay aa.next) 0) (dZ:r 6=.func 54 [.ptr (ay aa.next) 0]) (dE:r 8=kA) (bZ:r 2=.map cM) (lU:r 51=cH) (lV:r 52=.int .i64 t.l.length) (hg:r 9=.int .i64 dh) (lW:r 53=.int .i64 0),
    ve Tryz.prog zS [.a_ 1,.c zT] r g0 fun e r ab=>e.ends∧ig ca cM B (t.dh fV B O) ab∧Mod (fun b=>b=ca∨b=cM) h ab:=by
    intro g0 kA nQ r vS wo zt zp kY b6 eX dZ dE bZ lU lV hg lW
    have e5:∀b,mL ca cM b→Old ae b→¬(b=ca∨b=cM)∧mL ca cM b:=fun b q _=>⟨fun z=>by rcases z with z | z;exact q.1 z;exact q.2 z,q⟩
    refine Xe bx aac t aQ hm f5 f6 f7 pt vS (eo.mod zp fun q=>by rcases q with q | q;exact vk q.symm;exact Bu q.symm) Hd Bt vk Bu (nO.mod zp e5) wo zt ag b6 eX dZ dE bZ lU lV hg lW fun e r ab he cw qv=>⟨he,by rw [kY];exact cw,((fa.mod _).trans zp).trans qv⟩
   by_cases nq:t.k=24
   · obtain ⟨rfl,rfl⟩:=f4 (by omega) (by omega) (by omega)
     have lG:=ads hm nq
     obtain ⟨⟨bB,wm,M2⟩,ny,zm,zn⟩:=kb
     have iM:=NN wm t.s
     by_cases cs:t.s ∈ B
     · have l8:(ja bB t.s=0)=False:=eq_false (by
        rw [M2]
        have:=List.count_pos_iff.2 cs
        omega)
       simp +contextual only [ol.1,ol.2.1,aq,av,cS.g,eo.g,ai,eq_true nq,j9.eq,iM,l8,↓aw,aJ,simprocAttr]
       exact finish cS (Hj _) ⟨⟨bB,wm,M2⟩,ny,zm,zn⟩ (Mod.refl _ _) (by rw [EZ,if_neg (fun q=>q.2 cs)]) (by simp only [↓aw,bw,simprocAttr]) (by simp only [↓aw,bw,simprocAttr]) (by simp only [↓aw,bw,simprocAttr]) (by simp only [↓aw,bw,simprocAttr]) (by simp only [↓aw,bw,simprocAttr]) (by simp only [↓aw,bw,simprocAttr]) (by simp only [↓aw,bw,simprocAttr]) (by simp only [↓aw,bw,simprocAttr]<;>rfl) (by simp only [↓aw,bw,simprocAttr])
     · have l8:(ja bB t.s=0)=True:=eq_true (by
        rw [M2,List.count_eq_zero_of_not_mem cs];rfl)
       obtain ⟨g0,tr,yN,yO,agQ⟩:=zm.oQ t.s true
       have iY:=cS.mod yO fun q=>Bt q.symm
       simp +contextual only [ol.1,ol.2.1,aq,av,cS.g,iY.g,eo.g,ai,eq_true nq,j9.eq,iM,l8,tr,↓aw,aJ,simprocAttr]
       exact finish iY (Hj _) (nQ:=fV O t.s) ⟨⟨bB,wm.mod yO pt,M2⟩,_,yN,by rw [Nl,zn];rfl⟩ (yO.mono fun _ _ q=>.inr q) (by rw [EZ,if_pos ⟨nq,cs⟩,lG,e1]) (by simp only [↓aw,bw,simprocAttr]) (by simp only [↓aw,bw,simprocAttr]) (by simp only [↓aw,bw,simprocAttr]) (by simp only [↓aw,bw,simprocAttr]) (by simp only [↓aw,bw,simprocAttr]) (by simp only [↓aw,bw,simprocAttr]) (by simp only [↓aw,bw,simprocAttr]) (by simp only [↓aw,bw,simprocAttr]<;>rfl) (by simp only [↓aw,bw,simprocAttr])
   have kY:t.dh fV B O=e1 fV t.k t.l 0 t.l B O:=by rw [EZ,if_neg (fun q=>nq q.1)]
   by_cases qZ:t.k=27
   · obtain ⟨rfl,rfl⟩:=f1 (.inl qZ)
     have aP:0<t.l.length:=by rw [G' hm (.inl qZ)];omega
     obtain ⟨b,off,wl,c0,X,d0,bh⟩:=Eo aP
     simp +contextual only [ol.1,ol.2.1,aq,av,cS.g,eo.g,ai,eq_false nq,eq_true qZ,c0,d0,↓aw,aJ,simprocAttr]
     refine cj (ya t.l[0] bh _ ae X) ?_
     rintro kA g0 ⟨W,gz⟩
     rw [←EW aP] at W
     have iY:=cS.ext gz
     simp +contextual only [iY.g,ai,↓aw,aJ,simprocAttr]
     exact finish iY (own W f6) (kb.ext gz) (gz.mod _) kY (by simp only [↓aw,bw,simprocAttr]) (by simp only [↓aw,bw,simprocAttr]) (by simp only [↓aw,bw,simprocAttr]) (by simp only [↓aw,bw,simprocAttr]) (by simp only [↓aw,bw,simprocAttr]) (by simp only [↓aw,bw,simprocAttr]) (by simp only [↓aw,bw,simprocAttr]) (by simp only [↓aw,bw,simprocAttr]<;>rfl) (by simp only [↓aw,bw,simprocAttr])
   by_cases sW:t.k=45
   · obtain ⟨rfl,rfl⟩:=f1 (.inr sW)
     have aP:0<t.l.length:=by rw [G' hm (.inr sW)];omega
     obtain ⟨b,off,wl,c0,X,d0,bh⟩:=Eo aP
     simp +contextual only [ol.1,ol.2.1,aq,av,cS.g,eo.g,ai,eq_false nq,eq_false qZ,eq_true sW,c0,d0,↓aw,aJ,simprocAttr]
     refine cj (ya t.l[0] bh _ ae X) ?_
     rintro kA g0 ⟨W,gz⟩
     rw [←EW aP] at W
     have iY:=cS.ext gz
     simp +contextual only [iY.g,ai,↓aw,aJ,simprocAttr]
     exact finish iY (own W f6) (kb.ext gz) (gz.mod _) kY (by simp only [↓aw,bw,simprocAttr]) (by simp only [↓aw,bw,simprocAttr]) (by simp only [↓aw,bw,simprocAttr]) (by simp only [↓aw,bw,simprocAttr]) (by simp only [↓aw,bw,simprocAttr]) (by simp only [↓aw,bw,simprocAttr]) (by simp only [↓aw,bw,simprocAttr]) (by simp only [↓aw,bw,simprocAttr]<;>rfl) (by simp only [↓aw,bw,simprocAttr])
   by_cases sV:t.k=29
   · obtain ⟨rfl,rfl⟩:=f2 sV
     have aP:0<t.l.length:=by rw [N2 hm sV];omega
     obtain ⟨b,off,wl,c0,X,d0,bh⟩:=Eo aP
     simp +contextual only [ol.1,ol.2.1,aq,av,cS.g,eo.g,ai,eq_false nq,eq_false qZ,eq_false sW,eq_true sV,c0,d0,↓aw,aJ,simprocAttr]
     refine cj (ya t.l[0] bh _ ae X) ?_
     rintro kA g0 ⟨W,gz⟩
     rw [←EW aP] at W
     have iY:=cS.ext gz
     simp +contextual only [iY.g,ai,↓aw,aJ,simprocAttr]
     exact finish iY (own W f6) (kb.ext gz) (gz.mod _) kY (by simp only [↓aw,bw,simprocAttr]) (by simp only [↓aw,bw,simprocAttr]) (by simp only [↓aw,bw,simprocAttr]) (by simp only [↓aw,bw,simprocAttr]) (by simp only [↓aw,bw,simprocAttr]) (by simp only [↓aw,bw,simprocAttr]) (by simp only [↓aw,bw,simprocAttr]) (by simp only [↓aw,bw,simprocAttr]<;>rfl) (by simp only [↓aw,bw,simprocAttr])
   by_cases Bc:t.k=30
   · obtain ⟨rfl,rfl⟩:=f3 (.inl Bc)
     simp +contextual only [ol.1,ol.2.1,aq,av,cS.g,eo.g,ai,eq_false nq,eq_false qZ,eq_false sW,eq_false sV,eq_true Bc,l9,List.cons_append,List.nil_append,show (55=4294967296)=False from by simp,if_false,↓aw,aJ,simprocAttr]
     refine cj (OF t.l cH ae (nO.iX fun _ _=>trivial)) ?_
     rintro kA g0 ⟨W,gz⟩
     have iY:=cS.ext gz
     simp +contextual only [iY.g,ai,↓aw,aJ,simprocAttr]
     exact finish iY (own W f6) (kb.ext gz) (gz.mod _) kY (by simp only [↓aw,bw,simprocAttr]) (by simp only [↓aw,bw,simprocAttr]) (by simp only [↓aw,bw,simprocAttr]) (by simp only [↓aw,bw,simprocAttr]) (by simp only [↓aw,bw,simprocAttr]) (by simp only [↓aw,bw,simprocAttr]) (by simp only [↓aw,bw,simprocAttr]) (by simp only [↓aw,bw,simprocAttr]<;>rfl) (by simp only [↓aw,bw,simprocAttr])
   by_cases GN:t.k=53
   · obtain ⟨rfl,rfl⟩:=f3 (.inr GN)
     simp +contextual only [ol.1,ol.2.1,aq,av,cS.g,eo.g,ai,eq_false nq,eq_false qZ,eq_false sW,eq_false sV,eq_false Bc,eq_true GN,l9,List.cons_append,List.nil_append,show (55=4294967296)=False from by simp,if_false,↓aw,aJ,simprocAttr]
     refine cj (OF t.l cH ae (nO.iX fun _ _=>trivial)) ?_
     rintro kA g0 ⟨W,gz⟩
     have iY:=cS.ext gz
     simp +contextual only [iY.g,ai,↓aw,aJ,simprocAttr]
     exact finish iY (own W f6) (kb.ext gz) (gz.mod _) kY (by simp only [↓aw,bw,simprocAttr]) (by simp only [↓aw,bw,simprocAttr]) (by simp only [↓aw,bw,simprocAttr]) (by simp only [↓aw,bw,simprocAttr]) (by simp only [↓aw,bw,simprocAttr]) (by simp only [↓aw,bw,simprocAttr]) (by simp only [↓aw,bw,simprocAttr]) (by simp only [↓aw,bw,simprocAttr]<;>rfl) (by simp only [↓aw,bw,simprocAttr])
   obtain ⟨rfl,rfl⟩:=f4 (by omega) sV (by omega)
   simp +contextual only [ol.1,ol.2.1,aq,av,cS.g,eo.g,ai,eq_false nq,eq_false qZ,eq_false sW,eq_false sV,eq_false Bc,eq_false GN,↓aw,aJ,simprocAttr]
   exact finish cS (Hj _) kb (Mod.refl _ _) kY (by simp only [↓aw,bw,simprocAttr]) (by simp only [↓aw,bw,simprocAttr]) (by simp only [↓aw,bw,simprocAttr]) (by simp only [↓aw,bw,simprocAttr]) (by simp only [↓aw,bw,simprocAttr]) (by simp only [↓aw,bw,simprocAttr]) (by simp only [↓aw,bw,simprocAttr]) (by simp only [↓aw,bw,simprocAttr]<;>rfl) (by simp only [↓aw,bw,simprocAttr])
end Go.Proofs.YtkehcalakofigaaGreatDoor
namespace Go.Proofs.YtkehcalakofigaaGreatDoor
open Go aS
theorem abI (v:V) (bp:v.one=true∧v.cells=[v]∧v.eW=true) (h:af):bM Tryz.prog 44 [v] h fun x ab=>∃n,x=.func 58 [.ptr (ay n) 0]∧Has ab n [v]∧Ext h ab:=by
 refine Uu rfl (dt ?_)
 unfold D8
 obtain ⟨aa,aq,aN,dw⟩:=gO h [v]
 simp +contextual only [aq,bp.1,bp.2.1,bp.2.2,↓aw,aJ,simprocAttr]
 exact ⟨_,rfl,dw,aN⟩
theorem af' {h:af} {n:Nat} {ca:aO} {bB:List (Nm × Bool)} (P:Has h n [.map ca]) (M:hl V.bool h ca bB) (aZ:(bB.map Prod.fst).Nodup) (ai:bB.length≤1000000000) (aQ:∀s ∈ bB.map Prod.fst,s.length≤top):
 bM Tryz.prog 43 [.func 58 [.ptr (ay n) 0]] h fun x ab=>ch Any ab 1 ((kE (bB.map Prod.fst)).map aS.encS) x∧Ext h ab:=by
 obtain ⟨es,clock,m1,m2,m3⟩:=M.ex
 have hlen:es.length=bB.length:=by
  have:=GS m2.keys
  rw [List.length_map] at this
  exact this.symm
 have eW:w9 clock es (bB.map Prod.fst)=true:=by
  unfold w9
  simp only [Bool.and_eq_true,decide_eq_true_eq,Nat.ble_eq]
  exact ⟨m3,aZ,aQ,by omega⟩
 have k6:(kE (bB.map Prod.fst)).length=bB.length:=by rw [(yG _).length_eq,List.length_map]
 have run:∃v ab,(Ck 58).run [.func 58 [.ptr (ay n) 0]] h=.val v ab∧ch Any ab 1 ((kE (bB.map Prod.fst)).map aS.encS) v∧Ext h ab:=by
  have ZN:∀s ∈ kE (bB.map Prod.fst),s.length≤top:=fun s q=>aQ s ((yG _).mem_iff.1 q)
  simp only [Ck,Nat.beq_refl,cond_true,Ii,P.g,bW.bq]
  simp only [List.length_singleton,show Nat.blt 0 1=true from rfl,cond_true]
  rw [show T.get V.bad (ay 0) (eQ .e 0 [V.map ca])=V.map ca from by rw [show ay 0=ay (0+0) from rfl,w8];rfl]
  simp only [m1,m2.keys,eW,cond_true]
  generalize kE (bB.map Prod.fst)=l at *
  cases l with
  | nil=>exact ⟨_,_,rfl,ch.nil _ _ _,Ext.refl _⟩
  | cons x l=>
    have jK:(oO (x::l)).length≤top:=by unfold oO;rw [List.length_map];unfold top;omega
    simp only [Bo jK (Nat.le_refl _)]
    have o:=ej.grown (B:=h.next) (h:=h) (size:=1) (ad:=oO (x::l)) (n:=(x::l).length) (st:=false) (by unfold oO;rw [List.length_map,Nat.mul_one]) (Nat.le_refl _)
    refine ⟨_,_,rfl,eL.N_ o.v o.room (by unfold top;omega) ZN fun _ _=>trivial,(Ext.refl h).new _⟩
 obtain ⟨v,ab,bz,bZ,b6⟩:=run
 exact ⟨v,ab,⟨(fun e=>by cases e),.inl ⟨⟨_,Tryz.func43,by kernel_rfl⟩,fun au E w xs ak s=>af8 (by decide) Tryz.underlying9 P9 bz au E w xs ak s⟩⟩,bZ,b6⟩
def yi (k:Int):Bool:=decide (hX k=3)||decide (hX k=4)||decide (hX k=5)||decide (hX k=7)
def aL.free (t:aL):List Nm:=if yi t.k&&t.may ee then t.dh nI [] [] else []
theorem KY [Lay] {F:aO→Prop} {h:af}:∀(N:Nat) (t:aL),t.size≤N→∀(ad:List V),b9 F h t.enc ad→∀p ∈ t.pre,p.s.length≤top
 | 0,t,aQ,_,_=>by have:=ri t;omega
 | N+1,t,aQ,ad,H=>by
   obtain ⟨cH,rfl,L,k6⟩:=aL.open H
   have b5:=size_eq t
   intro p ah
   rw [HK] at ah
   rcases List.mem_cons.1 ah with rfl | ah
   · exact k6
   · have:∀(l:List aL),(∀u ∈ l,u ∈ t.l)→p ∈ gk l→p.s.length≤top:=by
      intro l
      induction l with
      | nil=>intro _ q;cases q
      | cons u l bf=>
        intro hu q
        rw [gk,List.mem_append] at q
        rcases q with q | q
        · obtain ⟨i,az,e⟩:=List.getElem_of_mem (hu u (by simp))
          obtain ⟨_,_,_,_,X,_,_⟩:=aL.k9 L (k:=.i64) az
          rw [e] at X
          have:=rh (t:=t) (hu u (by simp))
          exact KY N u (by omega) _ X p q
        · exact bf (fun w hw=>hu w (by simp [hw])) q
     exact this t.l (fun _ q=>q) ah
mutual
theorem Ls:∀(t:aL) (B O:List Nm) (x:Nm),x ∈ t.dh fV B O→x ∈ O∨∃p ∈ t.pre,p.s=x
 | .mk k n a s l,B,O,x,h=>by
   rw [aL.dh] at h
   split at h
   · rcases (Pf O s x).1 h with rfl | h
     · exact .inr ⟨.mk k n a x l,by rw [aL.pre];simp,rfl⟩
     · exact .inl h
   · rcases Ly k l 0 l B O x h with h | ⟨p,ah,e⟩
     · exact .inl h
     · exact .inr ⟨p,by rw [aL.pre];simp [ah],e⟩
theorem Ly (k:Int) (gv:List aL):∀(i:Nat) (l:List aL) (B O:List Nm) (x:Nm),x ∈ e1 fV k gv i l B O→x ∈ O∨∃p ∈ gk l,p.s=x
 | _,[],_,O,x,h=>by rw [e1] at h;exact .inl h
 | i,t::l,B,O,x,h=>by
   rw [e1] at h
   rcases Ly k gv (i+1) l B _ x h with h | ⟨p,ah,e⟩
   · rcases Ls t _ O x h with h | ⟨p,ah,e⟩
     · exact .inl h
     · exact .inr ⟨p,by rw [gk];simp [ah],e⟩
   · exact .inr ⟨p,by rw [gk];simp [ah],e⟩
end
set_option maxHeartbeats 4000000 in
theorem OQ (t:aL) (aQ:t.size≤100000000) (ad:List V) (h:af) (H:b9 Any h t.enc ad):bM Tryz.prog 27 [.agg ad] h fun x ab=>ch Any ab 1 (t.free.map aS.encS) x∧Ext h ab:=by
 have hU:=H
 have ni:=KY _ t (Nat.le_refl _) ad H
 obtain ⟨cH,rfl,L,_⟩:=aL.open H
 have ol:=L.one
 refine T_ rfl (dt ?_)
 unfold D1
 obtain ⟨aa,aq,aN,dw⟩:=gO h [.int .i64 t.k,.int .i64 t.n,.int .i64 t.a,.str t.s,cH]
 simp +contextual only [ol.1,ol.2.1,aq,dw.g,↓aw,aJ,simprocAttr]
 refine cj (PK aa) ?_
 rintro dp ae ⟨aY,zq⟩
 have cS:=dw.ext aY
 have fa:=aN.trans aY
 simp +contextual only [cS.g,↓aw,aJ,simprocAttr]
 refine cj (E5 t.k ae) ?_
 rintro x aF ⟨rfl,YS⟩
 rw [YS]
 by_cases c3:yi t.k=true
 · have ok:(hX t.k=3)∨(hX t.k=4)∨(hX t.k=5)∨(hX t.k=7):=by
    unfold yi at c3
    simpa [or_assoc] using c3
   rcases ok with g | g | g | g<;>
   simp +contextual only [g,cS.g,decide_true,decide_false,show ((3:Int)=4)=False from by simp,show ((3:Int)=5)=False from by simp,show ((3:Int)=7)=False from by simp,show ((4:Int)=3)=False from by simp,show ((4:Int)=5)=False from by simp,show ((5:Int)=3)=False from by simp,show ((5:Int)=4)=False from by simp,show ((7:Int)=3)=False from by simp,show ((7:Int)=4)=False from by simp,show ((7:Int)=5)=False from by simp,↓aw,aJ,simprocAttr]<;>
   (refine cj (G8 _ t (Nat.le_refl _) (by omega) dp _ _ ae zq (hU.ext fa)) ?_
    rintro x aF ⟨rfl,cz⟩
    have oU:=cS.ext cz
    have pj:=fa.trans cz
    cases c:t.may ee with
    | false=>
      simp +contextual only [↓aw,aJ,simprocAttr]
      refine ⟨?_,pj⟩
      have:t.free=[]:=by unfold aL.free;rw [c,Bool.and_false];rfl
      rw [this]
      exact ch.nil _ _ _
    | true=>
      have rL:Ext aF (aF.new (.mp [] 0)):=(Ext.refl _).new _
      have l0:Ext (aF.new (.mp [] 0)) ((aF.new (.mp [] 0)).new (.mp [] 0)):=(Ext.refl _).new _
      have Rt:=(hl.new V.bool aF).ext l0
      have Jf:=hl.new (V.int .i64) (aF.new (.mp [] 0))
      have yV:=oU.ext rL
      have tA:=yV.ext l0
      have Bw:(aF.new (.mp [] 0)).next=aF.next+1:=rfl
      rw [Bw] at Jf
      have a':=hU.Ht.ext ((pj.trans rL).trans l0)
      have aip:=dw.lt
      have s7:=pj.next
      generalize aG:(aF.new (.mp [] 0)).new (.mp [] 0)=cd at *
      have ahv:cd.next=aF.next+2:=by rw [←aG];rfl
      simp +contextual only [oU.g,yV.g,aG,Bw,q2,s5,aU.opt,↓aw,aJ,simprocAttr]
      refine cj (Lu t.size (by omega) t (Nat.le_refl _) c [] [] _ (ay (aF.next+1)) (ay aF.next) cd (fun q=>by have:=fB q;omega) (a'.iX fun b q=>⟨fun z=>by rw [z] at q;unfold Old at q;rw [c4] at q;omega,fun z=>by rw [z] at q;unfold Old at q;rw [c4] at q;omega⟩) ⟨⟨[],Jf,fun s=>rfl⟩,[],Rt,rfl⟩ (by simpa using aQ)) ?_
      rintro x fx ⟨⟨_,ny,Rs,zo⟩,m6⟩
      simp +contextual only [↓aw,aJ,simprocAttr]
      refine cj (abI (.map (ay aF.next)) ⟨rfl,rfl,rfl⟩ fx) ?_
      rintro x hr ⟨n,rfl,Rx,r6⟩
      simp +contextual only [↓aw,aJ,simprocAttr]
      have G:=E0 t [] j7.nil
      have hlen:=Lr fV aeW t [] []
      have F_:ny.length=(t.dh fV [] []).length:=by rw [←zo,List.length_map]
      refine cj (af' Rx (Rs.ext r6) (by rw [zo];exact G.He) (by rw [F_];simp at hlen;omega) fun s q=>?_) ?_
      · rw [zo] at q
        rcases Ls t [] [] s q with q | ⟨p,ah,rfl⟩
        · cases q
        · exact ni p ah
      rintro x AD ⟨W,uh⟩
      have eF:=W.one
      simp +contextual only [eF.1,eF.2.1,↓aw,aJ,simprocAttr]
      have WV:t.free=t.dh nI [] []:=by unfold aL.free;rw [c3,c];rfl
      rw [zo,P6 G.perm G.le] at W
      rw [WV]
      refine ⟨W,((((pj.trans rL).trans l0).q5 m6 fun b ag=>?_).trans r6).trans uh⟩
      rcases ag with rfl | rfl<;>rw [c4]<;>omega)
 · have ke:yi t.k=false:=by simpa using c3
   have no:¬hX t.k=3∧¬hX t.k=4∧¬hX t.k=5∧¬hX t.k=7:=by
    unfold yi at ke
    simpa [and_assoc] using ke
   obtain ⟨g3,g4,g5,g7⟩:=no
   simp +contextual only [eq_false g3,eq_false g4,eq_false g5,eq_false g7,decide_true,decide_false,↓aw,aJ,simprocAttr]
   refine ⟨?_,fa⟩
   have:t.free=[]:=by unfold aL.free;rw [ke];rfl
   rw [this]
   exact ch.nil _ _ _
abbrev z5:List V:=[.int .i64 0,.int .i64 0,.int .i64 0,.str [],.b4]
abbrev zW (t:aL) (cH:V):List V:=[.int .i64 t.k,.int .i64 t.n,.int .i64 t.a,.str t.s,cH]
set_option maxHeartbeats 4000000 in
theorem O7:∀N:Nat,(∀(t u:aL),t.size≤N→∀(ad ws:List V) (h:af),b9 Any h t.enc ad→b9 Any h u.enc ws→bM Tryz.prog 22 [.agg ad,.agg ws] h fun x ab=>x=.bool (t.same u)∧Ext h ab)∧
 (∀(l m:List aL),dD l≤N→∀(v w:V) (h:af),ch Any h 5 (l.map aL.enc) v→ch Any h 5 (m.map aL.enc) w→bM Tryz.prog 41 [v,w,.func 22 []] h fun x ab=>x=.bool (h' l m)∧Ext h ab)
 | 0=>by
   refine ⟨fun t u aQ=>by have:=ri t;omega,fun l m aQ v w h L M=>?_⟩
   have lG:l.length=0:=by have:=p2 l;omega
   obtain rfl:=List.eq_nil_of_length_eq_zero lG
   have ai:=L.len
   have hm:=M.len
   rw [List.length_map] at ai hm
   refine Kc rfl (dt ?_)
   unfold zR
   by_cases aC:m.length=0
   · obtain rfl:=List.eq_nil_of_length_eq_zero aC
     simp +contextual only [ai,hm,decide_true,decide_false,↓aw,aJ,simprocAttr]
     refine gS (fun r g=>r 17=.int .i64 0∧r 16=.int .i64 0∧g=h) (fun r g=>0) ?_ ?_
     · exact ⟨by simp only [↓aw,bw,simprocAttr],by simp only [↓aw,bw,simprocAttr]<;>rfl,rfl⟩
     rintro r g ⟨vy,r16,rfl⟩
     unfold D6
     simp +contextual only [r16,vy,show ((0:Int)<0)=False from by simp,↓aw,aJ,simprocAttr]
     exact ⟨rfl,Ext.refl _⟩
   · have f0:((0:Int)=(m.length:Int))=False:=eq_false (by omega)
     simp only [List.length_nil,Int.ofNat_zero,Int.natCast_zero] at ai
     simp +contextual only [ai,hm,f0,decide_true,decide_false,↓aw,aJ,simprocAttr]
     refine ⟨?_,Ext.refl _⟩
     match m,aC with
     | u::m,_=>rw [h']
     | [],aC=>exact absurd rfl aC
 | N+1=>by
   obtain ⟨A5,xS⟩:=O7 N
   have H1:∀(t u:aL),t.size≤N+1→∀(ad ws:List V) (h:af),b9 Any h t.enc ad→b9 Any h u.enc ws→bM Tryz.prog 22 [.agg ad,.agg ws] h fun x ab=>x=.bool (t.same u)∧Ext h ab:=by
    intro t u aQ ad ws h H cG
    obtain ⟨cH,rfl,L,_⟩:=aL.open H
    obtain ⟨wl,rfl,M,_⟩:=aL.open cG
    have ol:=L.one
    have my:=M.one
    have b5:=size_eq t
    refine T2 rfl (dt ?_)
    unfold DW
    obtain ⟨aa,aq,aN,dw⟩:=gO h (zW t cH)
    obtain ⟨ae,av,aY,eo⟩:=gO aa (zW u wl)
    have cS:=dw.ext aY
    have fa:=aN.trans aY
    rw [afI]
    by_cases bs:t.k=u.k
    · by_cases bN:t.n=u.n
      · by_cases c3:t.s=u.s
        · simp +contextual only [aq,av,ol.1,ol.2.1,my.1,my.2.1,cS.g,eo.g,eq_true bs,eq_true bN,eq_true c3,decide_true,decide_false,Bool.true_and,↓aw,aJ,simprocAttr]
          refine cj (xS t.l u.l (by omega) cH wl ae (L.ext fa) (M.ext fa)) ?_
          rintro x aF ⟨rfl,cz⟩
          simp +contextual only [↓aw,aJ,simprocAttr]
          exact fa.trans cz
        · simp +contextual only [aq,av,ol.1,ol.2.1,my.1,my.2.1,cS.g,eo.g,eq_true bs,eq_true bN,eq_false c3,decide_true,decide_false,Bool.true_and,Bool.false_and,↓aw,aJ,simprocAttr]
          exact fa
      · simp +contextual only [aq,av,ol.1,ol.2.1,my.1,my.2.1,cS.g,eo.g,eq_true bs,eq_false bN,decide_true,decide_false,Bool.true_and,Bool.false_and,↓aw,aJ,simprocAttr]
        exact fa
    · simp +contextual only [aq,av,ol.1,ol.2.1,my.1,my.2.1,cS.g,eo.g,eq_false bs,decide_true,decide_false,Bool.true_and,Bool.false_and,↓aw,aJ,simprocAttr]
      exact fa
   refine ⟨H1,fun l m aQ v w h L M=>?_⟩
   have ai:=L.len
   have hm:=M.len
   have hle:=L.le
   rw [List.length_map] at ai hm hle
   refine Kc rfl (dt ?_)
   unfold zR
   by_cases aC:l.length=m.length
   · have f0:((l.length:Int)=(m.length:Int))=True:=eq_true (by omega)
     simp +contextual only [ai,hm,f0,decide_true,decide_false,↓aw,aJ,simprocAttr]
     refine gS (fun r g=>r 1=w∧r 2=.func 22 []∧r 15=v∧r 16=.int .i64 l.length∧∃i:Nat,r 17=.int .i64 i∧i≤l.length∧h' l m=h' (l.drop i) (m.drop i)∧Ext h g) (fun r g=>l.length - (r 17).toN) ?_ ?_
     · exact ⟨by simp only [↓aw,bw,simprocAttr],by simp only [↓aw,bw,simprocAttr],by simp only [↓aw,bw,simprocAttr],by simp only [↓aw,bw,simprocAttr],0,by simp only [↓aw,bw,simprocAttr]<;>rfl,by omega,rfl,Ext.refl h⟩
     rintro r g ⟨bz,bZ,rj,r16,i,vy,az,ah,E⟩
     unfold D6
     by_cases aP:i<l.length
     · have g0:((i:Int) < (l.length:Int))=True:=eq_true (by omega)
       obtain ⟨b,off,cH,c0,X,gY,ld⟩:=aL.k9 (L.ext E) (k:=.i64) aP
       obtain ⟨b_,yf,wl,mj,Y,R1,mo⟩:=aL.k9 (M.ext E) (k:=.i64) (show i<m.length by omega)
       have d1:=ld g (Ext.refl g)
       have ol:=gY.one
       have my:=R1.one
       have eR:=kF aP (by unfold top at hle;omega)
       obtain ⟨g1,dH,bm,dw⟩:=gZ g z5 (zW l[i] cH)
       obtain ⟨g2,fW,fu,eo⟩:=gZ g1 z5 (zW m[i] wl)
       have d2:=mo g1 bm
       have cS:=dw.ext fu
       have rB:=bm.trans fu
       have bh:=tc (List.getElem_mem aP)
       simp +contextual only [bz,bZ,rj,r16,vy,g0,c0,mj,d1,d2,dH,fW,ol.1,ol.2.1,my.1,my.2.1,dw.g,cS.g,eo.g,l9,List.cons_append,List.nil_append,show (22=4294967296)=False from by simp,if_false,↓aw,aJ,simprocAttr]
       refine cj (H1 l[i] m[i] (by omega) _ _ g2 (X.ext rB) (Y.ext rB)) ?_
       rintro x g3 ⟨rfl,gz⟩
       have aX:=O8 aP (show i<m.length by omega)
       have lp:=E.trans (rB.trans gz)
       cases ag:l[i].same m[i] with
       | true=>
         simp +contextual only [bz,bZ,rj,r16,vy,eR,↓aw,aJ,simprocAttr]
         refine ⟨⟨i+1,rfl,aP,?_,lp⟩,by omega⟩
         rw [ah,aX,ag,Bool.true_and]
       | false=>
         simp +contextual only [bz,bZ,rj,r16,vy,eR,↓aw,aJ,simprocAttr]
         refine ⟨?_,lp⟩
         rw [ah,aX,ag,Bool.false_and]
     · have g0:((i:Int) < (l.length:Int))=False:=eq_false (by omega)
       simp +contextual only [bz,bZ,rj,r16,vy,g0,↓aw,aJ,simprocAttr]
       refine ⟨?_,E⟩
       rw [ah,List.drop_eq_nil_of_le (by omega),List.drop_eq_nil_of_le (by omega),h']
   · have f0:((l.length:Int)=(m.length:Int))=False:=eq_false (by omega)
     simp +contextual only [ai,hm,f0,decide_true,decide_false,↓aw,aJ,simprocAttr]
     refine ⟨?_,Ext.refl _⟩
     cases ag:h' l m with
     | false=>rfl
     | true=>exact absurd (O9 ag) aC
theorem Qr (t u:aL) (ad ws:List V) (h:af) (H:b9 Any h t.enc ad) (cG:b9 Any h u.enc ws):bM Tryz.prog 22 [.agg ad,.agg ws] h fun x ab=>x=.bool (t.same u)∧Ext h ab:=(O7 t.size).1 t u (Nat.le_refl _) ad ws h H cG
end Go.Proofs.YtkehcalakofigaaGreatDoor
