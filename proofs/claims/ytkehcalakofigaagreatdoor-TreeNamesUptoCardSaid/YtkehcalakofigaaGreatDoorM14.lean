/- The chapter's functions, walked by the abstract machine: plain lemmas, no condition. Printed by a program from longer texts: names made short. -/
import Derived.Test.YtkehcalakofigaaGreatDoorM10
import Derived.Test.YtkehcalakofigaaGreatDoorM12
import Derived.Test.YtkehcalakofigaaGreatDoorM13
import Derived.Test.YtkehcalakofigaaGreatDoorM8
set_option linter.unusedSectionVars false
set_option linter.unusedSimpArgs false
set_option linter.unusedVariables false
namespace Go.Proofs.YtkehcalakofigaaGreatDoor
open Go aS
theorem B_ (P:Program) (a b:Nm):(en.str .lss).run P (.str a) (.str b)=some (.bool (decide (a<b))):=by
 rw [←Pf];rfl
theorem R5 {s:Nm}:∀{R:List Nm} {i:Nat} (av:i≤R.length),(∀j (bH:j<i),R[j]<s)→gq R s=R.take i++gq (R.drop i) s
 | _,0,_,_=>by simp
 | [],i+1,av,_=>by simp at av
 | x::R,i+1,av,h=>by
   have bb:x<s:=h 0 (by omega)
   rw [gq,if_pos bb,List.take_succ_cons,List.drop_succ_cons,List.cons_append]
   congr 1
   exact R5 (by simpa using av) fun j bH=>by have:=h (j+1) (by omega);simpa using this
theorem Oo (B:List Nm) (s:Nm) (v:V) (h:af) (L:bI Any h 1 (B.map aS.encS) v):bB Tryz.prog 59 [.str s,v] h fun x ab=>x=.bool (decide (s ∈ B))∧ab=h:=by
 have ak:=L.len
 have hle:=L.le
 rw [List.length_map] at ak hle
 refine Lx rfl (cR ?_)
 unfold AX
 simp +contextual only [↓ah,ao,simprocAttr]
 refine fD (fun r g=>g=h∧r 0=.str s∧r 1=v∧∃i:Nat,r 5=.int .i64 i∧i≤B.length∧(s ∈ B↔s ∈ B.drop i)) (fun r g=>B.length - (r 5).toN) ?_ ?_
 · exact ⟨rfl,by simp only [↓ah,bA,simprocAttr],by simp only [↓ah,bA,simprocAttr],0,by simp only [↓ah,bA,simprocAttr]<;>rfl,by omega,by simp⟩
 rintro r g ⟨rfl,bF,bp,i,cu,av,hm⟩
 unfold Fh
 by_cases aN:i<B.length
 · have g0:((i:Int) < (B.length:Int))=True:=eq_true (by omega)
   obtain ⟨b,off,b_,aR,ld⟩:=bI.JH L (k:=.i64) aN
   have d1:=ld g (Ext.refl g)
   have dM:=ik aN (by unfold top at hle;omega)
   have Nv:B.drop i=B[i]::B.drop (i+1):=(List.drop_eq_getElem_cons aN)
   by_cases c:B[i]=s
   · simp +contextual only [bF,bp,cu,ak,g0,b_,d1,eq_true c,decide_true,↓ah,ao,simprocAttr]
     have:s ∈ B:=by rw [hm,Nv,c];simp
     rw [decide_eq_true this]
   · simp +contextual only [bF,bp,cu,ak,g0,b_,d1,eq_false c,decide_false,dM,↓ah,ao,simprocAttr]
     refine ⟨⟨i+1,rfl,aN,?_⟩,by omega⟩
     rw [hm,Nv,List.mem_cons]
     exact ⟨fun q=>by rcases q with q | q;exact absurd q.symm c;exact q,.inr⟩
 · have g0:((i:Int) < (B.length:Int))=False:=eq_false (by omega)
   simp +contextual only [bF,bp,cu,ak,g0,↓ah,ao,simprocAttr]
   have:¬s ∈ B:=by rw [hm,List.drop_eq_nil_of_le (by omega)];simp
   rw [decide_eq_false this]
set_option maxHeartbeats 4000000 in
theorem ajr (R:List Nm) (s:Nm) (aR:s.length≤top) (cE:R.length≤2000000000) (v:V) (h:af) (L:bI Any h 1 (R.map aS.encS) v):bB Tryz.prog 60 [v,.str s] h fun x ab=>bI Any ab 1 ((gq R s).map aS.encS) x∧Ext h ab:=by
 have ak:=L.len
 rw [List.length_map] at ak
 have ol:=L.one
 refine W1 rfl (cR ?_)
 unfold Fi
 simp +contextual only [↓ah,ao,simprocAttr]
 refine fD (fun r g=>g=h∧r 0=v∧r 1=.str s∧∃i:Nat,r 5=.int .i64 i∧i≤R.length∧∀j (bH:j<i) (av:i≤R.length),R[j]<s) (fun r g=>R.length - (r 5).toN) ?_ ?_
 · exact ⟨rfl,by simp only [↓ah,bA,simprocAttr],by simp only [↓ah,bA,simprocAttr],0,by simp only [↓ah,bA,simprocAttr]<;>rfl,by omega,fun j bH=>absurd bH (Nat.not_lt_zero _)⟩
 rintro r g ⟨rfl,bF,bp,i,cu,av,hm⟩
 have hw:=R5 av fun j bH=>hm j bH av
 have fin:∀(BF:(∃aN:i<R.length,¬R[i]<s∧¬R[i]=s)∨i=R.length),gq R s=R.take i++[s]++R.drop i:=by
  intro BF
  rw [hw,List.append_assoc]
  congr 1
  rcases BF with ⟨aN,bz,bN⟩ | rfl
  · rw [List.drop_eq_getElem_cons aN,gq,if_neg bz,if_neg bN];rfl
  · rw [List.drop_length];rfl
 obtain ⟨v1,LY,J9⟩:=L.take (k:=.i64) (i:=i) (by rw [List.length_map];exact av)
 obtain ⟨v2,LZ,J'⟩:=L.drop (k:=.i64) (i:=i) (by rw [List.length_map];exact av)
 rw [←List.map_take] at J9
 rw [←List.map_drop] at J'
 obtain ⟨aa,al,aB,rk⟩:=ns g 1 0 [] rfl (Nat.zero_le _)
 have oO:fi g.next aa [] (.slice (aC g.next) 0 0 0):=⟨rk,fun s aR=>by cases aR⟩
 have mC:=aB.next
 obtain ⟨v3,aI,cZ,pR,m3,r6,c3,f3⟩:=oO.apps (J9.ext aB) mC (by rw [List.length_nil,List.length_take];unfold top;omega)
 rw [List.nil_append] at pR
 have y_:=m3.next
 obtain ⟨v4,bu,fX,KF,m4,n4,PH,gb,f4⟩:=pR.add (by omega) (by rw [List.length_take];unfold top;omega) aR
 have f_:Ext g aI:=aB.h0 m3 fun b q=>by rw [show b=aC g.next from q,c6];exact Nat.le_refl _
 have iX:Ext g bu:=f_.h0 m4 fun b q=>pR.1.base q
 obtain ⟨v5,cf,iV,rq,m5,tV,c5,f5⟩:=KF.apps (J'.ext iX) (by omega) (by rw [List.length_append,List.length_singleton,List.length_take,List.length_drop];unfold top;omega)
 have ga:Ext g cf:=iX.h0 m5 fun b q=>KF.1.base q
 have key:∀aw:gq R s=R.take i++[s]++R.drop i,bI Any cf 1 ((gq R s).map aS.encS) v5:=fun aw=>by
  rw [aw]
  exact rq.eC (by rw [List.length_append,List.length_append,List.length_singleton,List.length_take,List.length_drop];unfold top;omega) fun _ _=>trivial
 unfold Ly
 by_cases aN:i<R.length
 · have g0:((i:Int) < (R.length:Int))=True:=eq_true (by omega)
   obtain ⟨b,off,b_,hi,ld⟩:=bI.JH L (k:=.i64) aN
   have d1:=ld g (Ext.refl g)
   have dM:=ik aN (by omega)
   by_cases c:R[i]<s
   · simp +contextual only [bF,bp,cu,ak,g0,b_,d1,B_,eq_true c,decide_true,dM,↓ah,ao,simprocAttr]
     refine ⟨⟨i+1,rfl,aN,fun j bH _=>?_⟩,by omega⟩
     rcases Nat.lt_or_ge j i with q | q
     · exact hm j q av
     · obtain rfl:j=i:=by omega
       exact c
   · by_cases bN:R[i]=s
     · simp +contextual only [bF,bp,cu,ak,g0,b_,d1,B_,eq_false c,eq_true bN,decide_true,decide_false,ol.1,ol.2.1,↓ah,ao,simprocAttr]
       refine ⟨?_,Ext.refl _⟩
       rw [hw,List.drop_eq_getElem_cons aN,gq,if_neg c,if_pos bN,←List.drop_eq_getElem_cons aN,List.take_append_drop]
       exact L
     · simp +contextual only [bF,bp,cu,ak,g0,b_,d1,B_,eq_false c,eq_false bN,decide_true,decide_false,ol.1,ol.2.1,al,LY,LZ,cZ,r6,c3,fX,PH,gb,iV,tV,c5,↓ah,ao,simprocAttr]
       exact ⟨key (fin (.inl ⟨aN,c,bN⟩)),ga⟩
 · have g0:((i:Int) < (R.length:Int))=False:=eq_false (by omega)
   simp +contextual only [bF,bp,cu,ak,g0,B_,decide_true,decide_false,ol.1,ol.2.1,al,LY,LZ,cZ,r6,c3,fX,PH,gb,iV,tV,c5,↓ah,ao,simprocAttr]
   exact ⟨key (fin (.inr (by omega))),ga⟩
set_option maxHeartbeats 4000000 in
theorem K_ (l:List aM) (v:V) (h:af) (L:bI Any h 5 (l.map aM.enc) v):bB Tryz.prog 71 [v] h fun x ab=>fi h.next ab (h5 l) x∧Ext h ab:=by
 have ak:=L.len
 have hle:=L.le
 rw [List.length_map] at ak hle
 refine Xk rfl (cR ?_)
 unfold Fs
 simp +contextual only [↓ah,ao,simprocAttr]
 refine fD (fun r g=>r 0=v∧∃(i:Nat) (w:V),r 3=w∧r 4=.int .i64 i∧i≤l.length∧fi h.next g (h5 (l.take i)) w∧Ext h g) (fun r g=>l.length - (r 4).toN) ?_ ?_
 · exact ⟨by simp only [↓ah,bA,simprocAttr],0,.bW,by simp only [↓ah,bA,simprocAttr],by simp only [↓ah,bA,simprocAttr]<;>rfl,by omega,fi.nil _ _,Ext.refl h⟩
 rintro r g ⟨bF,i,w,bX,ew,av,W,E⟩
 unfold LB
 have ej:=W.1.v.one
 have tU:=E.next
 by_cases aN:i<l.length
 · have g0:((i:Int) < (l.length:Int))=True:=eq_true (by omega)
   obtain ⟨b,off,cl,b_,X,gr,ld,qG,Ce,Cf⟩:=aM.we (L.ext E) (k:=.i64) aN
   have d0:=qG g (Ext.refl g)
   have d3:=Ce g (Ext.refl g)
   have dM:=ik aN (by unfold top at hle;omega)
   obtain ⟨_,_,_,hi⟩:=aM.open X
   have ai:=xB (l.take i)
   rw [List.length_take] at ai
   by_cases c:l[i].k=46
   · obtain ⟨cG,aI,b1,ma,cZ,fX,fM,j8,dB⟩:=W.add tU (by unfold top at hle ⊢;omega) hi
     simp +contextual only [bF,bX,ew,ak,g0,b_,d0,d3,eq_true c,b1,fM,j8,dM,↓ah,ao,simprocAttr]
     refine ⟨⟨i+1,rfl,aN,?_,E.h0 cZ fun b q=>W.1.base q⟩,by omega⟩
     rw [take_one aN,AK,show h5 [l[i]]=[l[i].s] from by simp [h5,c]]
     exact ma
   · simp +contextual only [bF,bX,ew,ak,g0,b_,d0,d3,eq_false c,dM,↓ah,ao,simprocAttr]
     refine ⟨⟨i+1,rfl,aN,?_,E⟩,by omega⟩
     rw [take_one aN,AK,show h5 [l[i]]=[] from by simp [h5,c],List.append_nil]
     exact W
 · have g0:((i:Int) < (l.length:Int))=False:=eq_false (by omega)
   rw [List.take_of_length_le (by omega)] at W
   simp +contextual only [bF,bX,ew,ak,g0,↓ah,ao,simprocAttr]
   exact ⟨W,E⟩
theorem Pv (t:aM):t.may dr=match lb t.k with
 | none=>false
 | some r=>vB dr r t.k t.n t.a t.s&&hy r t.k t.n t.l.length&&j2 dr (lG r t.k t.n t.l.length) t.l:=by
 cases t;rw [aM.may];rfl
theorem Qi {named:Int→List UInt8→Bool}:∀{gs:List Int} {l:List aM},l.length≤gs.length→j2 named gs l=true→∀t ∈ l,t.may named=true
 | _,[],_,_,t,aG=>by cases aG
 | [],u::l,ak,_,t,aG=>by simp at ak
 | g::gs,u::l,ak,h,t,aG=>by
   rw [j2,Bool.and_eq_true,Bool.and_eq_true] at h
   rcases List.mem_cons.1 aG with rfl | aG
   · exact h.1.2
   · exact Qi (by simpa using ak) h.2 t aG
theorem Pt {t:aM} (h:t.may dr=true):∀u ∈ t.l,u.may dr=true:=by
 rw [Pv] at h
 cases aJ:lb t.k with
 | none=>rw [aJ] at h;cases h
 | some r=>
   rw [aJ] at h
   simp only [Bool.and_eq_true] at h
   obtain ⟨⟨_,ae⟩,aI⟩:=h
   have bb:0≤fl r t.k t.n t.l.length:=by
    unfold hy at ae
    simp only [Bool.and_eq_true,decide_eq_true_eq] at ae
    have:=(Q3 aJ).2.2.1
    omega
   exact Qi (by rw [M9 bb];exact Nat.le_refl _) aI
theorem Ip {t:aM} {r:gQ} (h:t.may dr=true) (aJ:lb t.k=some r):hy r t.k t.n t.l.length=true:=by
 rw [Pv,aJ] at h
 simp only [Bool.and_eq_true] at h
 exact h.1.2
theorem afJ {t:aM} (h:t.may dr=true) (aD:t.k=24):t.l=[]:=by
 have:=Ip h (r:={s:=1}) (by rw [aD];rfl)
 simp only [hy,fl,firstM,aD,Bool.and_eq_true,decide_eq_true_eq] at this
 simpa using this
theorem y5 {t:aM} (h:t.may dr=true) (aD:t.k=27∨t.k=45):t.l.length=2:=by
 have:=Ip h (r:={first:=[2,3]}) (by rcases aD with aD | aD<;>rw [aD]<;>rfl)
 have fV:¬t.k=50:=by omega
 simp only [hy,fl,firstM,fV,if_false,Bool.and_eq_true,decide_eq_true_eq] at this
 simp at this
 omega
theorem Iq {t:aM} (h:t.may dr=true) (aD:t.k=29):t.l.length=3:=by
 have:=Ip h (r:={first:=[2,3,3]}) (by rw [aD];rfl)
 have fV:¬t.k=50:=by omega
 simp only [hy,fl,firstM,fV,if_false,Bool.and_eq_true,decide_eq_true_eq] at this
 simp at this
 omega
theorem vj {l:List aM} (h:0<l.length):me l=l[0].names:=by
 cases l with
 | nil=>simp at h
 | cons t l=>rfl
theorem MJ (l:List aM):(me l).length≤dt l:=by
 cases l with
 | nil=>simp [me]
 | cons t l=>rw [me,dt];have:=Cp t;omega
theorem K7 (k:Int) (l:List aM) (i:Nat):(e2 k l i).length≤dt l:=by
 unfold e2
 have aa:=MJ l
 have ae:=xB l
 have aI:=l3 l
 split
 · split<;>simp;omega
 · split
   · split<;>simp;omega
   · split<;>simp;omega
theorem K6 {k:Int} {l:List aM} {i:Nat} (av:i<l.length):(e2 k l i).length+l[i].size≤dt l+1:=by
 have bb:=CX (l.take i) (l.drop i)
 rw [List.take_append_drop,List.drop_eq_getElem_cons av,dt] at bb
 have aI:=l3 (l.take i)
 have bu:=l3 (l.drop (i+1))
 rw [List.length_take,Nat.min_eq_left (by omega)] at aI
 rw [List.length_drop] at bu
 have first:∀j,0<j→i=j→(me l).length+l[i].size≤dt l:=by
  intro j bH lK
  have:(me l).length≤dt (l.take i):=by
   cases l with
   | nil=>simp at av
   | cons t l=>
     rw [lK]
     cases j with
     | zero=>omega
     | succ j=>rw [List.take_succ_cons,dt,me];have:=Cp t;omega
  omega
 have ae:=xB l
 unfold e2
 split
 · split
   · rename_i h;have:=first 1 (by omega) h;omega
   · simp only [List.length_nil];omega
 · split
   · split
     · rename_i h;have:=first 2 (by omega) h;omega
     · simp only [List.length_nil];omega
   · split
     · omega
     · simp only [List.length_nil];omega
set_option maxHeartbeats 4000000 in
theorem Uw (t:aM) (hm:t.may dr=true) (aR:t.size≤1000000000) (i:Nat) (ad:List V) (h:af) (H:bZ Any h t.enc ad):bB Tryz.prog 61 [.agg ad,.int .i64 i] h fun x ab=>bI Any ab 1 ((e2 t.k t.l i).map aS.encS) x∧Ext h ab:=by
 obtain ⟨cl,rfl,L,hi⟩:=aM.open H
 have ol:=L.one
 have b7:=size_eq t
 have vy:=K7 t.k t.l i
 refine W4 rfl (cR ?_)
 unfold Fj
 obtain ⟨aa,al,aB,ch⟩:=fo h [.int .i64 t.k,.int .i64 t.n,.int .i64 t.a,.str t.s,cl]
 have sC:=L.ext aB
 have fin:∀(x:V) (ab:af) (l:List Nm),l=e2 t.k t.l i→fi aa.next ab l x→bI Any ab 1 ((e2 t.k t.l i).map aS.encS) x:=fun x ab l e W=>by
  subst e
  exact W.eC (by unfold top;omega) fun _ _=>trivial
 have Cs:∀(ab:af),e2 t.k t.l i=[]→bI Any ab 1 ((e2 t.k t.l i).map aS.encS) .bW:=fun ab e=>by rw [e];exact bI.nil _ _ _
 have sQ:∀aN:0<t.l.length,∃(b:aQ) (off:Nat) (wl:V),hY 5 cl (.int .i64 0)=some (.ptr b off)∧bZ Any aa t.l[0].enc [.int .i64 t.l[0].k,.int .i64 t.l[0].n,.int .i64 t.l[0].a,.str t.l[0].s,wl]∧mx 5 (aa.get b) off=some (.agg [.int .i64 t.l[0].k,.int .i64 t.l[0].n,.int .i64 t.l[0].a,.str t.l[0].s,wl])∧t.l[0].size≤1000000000:=fun aN=>by
  obtain ⟨b,off,wl,b_,X,gr,ld⟩:=aM.jV sC (k:=.i64) aN
  have:=mD (t:=t) (List.getElem_mem aN)
  exact ⟨b,off,wl,by simpa using b_,X,by simpa using ld aa (Ext.refl _),by omega⟩
 by_cases j9:t.k=27
 · have aN:0<t.l.length:=by rw [y5 hm (.inl j9)];omega
   by_cases ci:(i:Int)=1
   · obtain ⟨b,off,wl,b_,X,d0,bj⟩:=sQ aN
     simp +contextual only [ol.1,ol.2.1,al,ch.g,eq_true j9,eq_true ci,b_,d0,↓ah,ao,simprocAttr]
     refine bK (zx _ t.l[0] (Nat.le_refl _) bj _ aa X) ?_
     rintro x ae ⟨W,aO⟩
     simp +contextual only [W.1.v.one.1,W.1.v.one.2.1,↓ah,ao,simprocAttr]
     refine ⟨fin _ _ _ ?_ W,aB.trans aO⟩
     rw [e2,if_pos (.inl j9),if_pos (by omega),vj aN]
   · simp +contextual only [ol.1,ol.2.1,al,ch.g,eq_true j9,eq_false ci,↓ah,ao,simprocAttr]
     exact ⟨Cs _ (by rw [e2,if_pos (.inl j9),if_neg (by omega)]),aB⟩
 · by_cases lv:t.k=45
   · have aN:0<t.l.length:=by rw [y5 hm (.inr lv)];omega
     by_cases ci:(i:Int)=1
     · obtain ⟨b,off,wl,b_,X,d0,bj⟩:=sQ aN
       simp +contextual only [ol.1,ol.2.1,al,ch.g,eq_false j9,eq_true lv,eq_true ci,b_,d0,↓ah,ao,simprocAttr]
       refine bK (zx _ t.l[0] (Nat.le_refl _) bj _ aa X) ?_
       rintro x ae ⟨W,aO⟩
       simp +contextual only [W.1.v.one.1,W.1.v.one.2.1,↓ah,ao,simprocAttr]
       refine ⟨fin _ _ _ ?_ W,aB.trans aO⟩
       rw [e2,if_pos (.inr lv),if_pos (by omega),vj aN]
     · simp +contextual only [ol.1,ol.2.1,al,ch.g,eq_false j9,eq_true lv,eq_false ci,↓ah,ao,simprocAttr]
       exact ⟨Cs _ (by rw [e2,if_pos (.inr lv),if_neg (by omega)]),aB⟩
   · by_cases kK:t.k=29
     · have aN:0<t.l.length:=by rw [Iq hm kK];omega
       by_cases ci:(i:Int)=2
       · obtain ⟨b,off,wl,b_,X,d0,bj⟩:=sQ aN
         simp +contextual only [ol.1,ol.2.1,al,ch.g,eq_false j9,eq_false lv,eq_true kK,eq_true ci,b_,d0,↓ah,ao,simprocAttr]
         refine bK (zx _ t.l[0] (Nat.le_refl _) bj _ aa X) ?_
         rintro x ae ⟨W,aO⟩
         simp +contextual only [W.1.v.one.1,W.1.v.one.2.1,↓ah,ao,simprocAttr]
         refine ⟨fin _ _ _ ?_ W,aB.trans aO⟩
         rw [e2,if_neg (by omega),if_pos kK,if_pos (by omega),vj aN]
       · simp +contextual only [ol.1,ol.2.1,al,ch.g,eq_false j9,eq_false lv,eq_true kK,eq_false ci,↓ah,ao,simprocAttr]
         exact ⟨Cs _ (by rw [e2,if_neg (by omega),if_pos kK,if_neg (by omega)]),aB⟩
     · by_cases AT:t.k=30
       · simp +contextual only [ol.1,ol.2.1,al,ch.g,eq_false j9,eq_false lv,eq_false kK,eq_true AT,↓ah,ao,simprocAttr]
         refine bK (K_ t.l cl aa sC) ?_
         rintro x ae ⟨W,aO⟩
         simp +contextual only [W.1.v.one.1,W.1.v.one.2.1,↓ah,ao,simprocAttr]
         exact ⟨fin _ _ _ (by rw [e2,if_neg (by omega),if_neg kK,if_pos (.inl AT)]) W,aB.trans aO⟩
       · by_cases sP:t.k=53
         · simp +contextual only [ol.1,ol.2.1,al,ch.g,eq_false j9,eq_false lv,eq_false kK,eq_false AT,eq_true sP,↓ah,ao,simprocAttr]
           refine bK (K_ t.l cl aa sC) ?_
           rintro x ae ⟨W,aO⟩
           simp +contextual only [W.1.v.one.1,W.1.v.one.2.1,↓ah,ao,simprocAttr]
           exact ⟨fin _ _ _ (by rw [e2,if_neg (by omega),if_neg kK,if_pos (.inr sP)]) W,aB.trans aO⟩
         · simp +contextual only [ol.1,ol.2.1,al,ch.g,eq_false j9,eq_false lv,eq_false kK,eq_false AT,eq_false sP,↓ah,ao,simprocAttr]
           exact ⟨Cs _ (by rw [e2,if_neg (by omega),if_neg kK,if_neg (by omega)]),aB⟩
set_option maxHeartbeats 8000000 in
theorem QV:∀(N:Nat) (t:aM),t.size≤N→N≤1000000000→t.may dr=true→∀(B O:List Nm) (ad:List V) (bv l1:V) (h:af),bZ Any h t.enc ad→bI Any h 1 (B.map aS.encS) bv→bI Any h 1 (O.map aS.encS) l1→
 B.length+t.size≤1000000000→O.length+t.size≤2000000000→bB Tryz.prog 45 [.agg ad,bv,l1] h fun x ab=>bI Any ab 1 ((t.dB gq B O).map aS.encS) x∧Ext h ab
 | 0,t,aR,_,_,_,_,_,_,_,_,_,_,_,_,_=>by have:=mE t;omega
 | N+1,t,aR,vv,hm,B,O,ad,bv,l1,h,H,zS,D',ai,aU=>by
   have hE:=H
   obtain ⟨cl,rfl,L,hi⟩:=aM.open H
   have bD:N≤1000000000:=by omega
   have ol:=L.one
   have cX:=zS.one
   have ala:=D'.one
   have ak:=L.len
   have hle:=L.le
   rw [List.length_map] at ak hle
   have b7:=size_eq t
   refine Wm rfl (cR ?_)
   unfold lv
   obtain ⟨aa,al,aB,ch⟩:=fo h [.int .i64 t.k,.int .i64 t.n,.int .i64 t.a,.str t.s,cl]
   rw [Bn]
   by_cases c:t.k=24∧¬t.s ∈ B
   · obtain ⟨bz,bN⟩:=c
     simp +contextual only [ol.1,ol.2.1,al,ch.g,eq_true bz,↓ah,ao,simprocAttr]
     refine bK (Oo B t.s bv aa (zS.ext aB)) ?_
     rintro x ae ⟨rfl,rfl⟩
     simp +contextual only [ch.g,eq_false bN,decide_true,decide_false,↓ah,ao,simprocAttr]
     refine bK (ajr O t.s hi (by omega) l1 _ (D'.ext aB)) ?_
     rintro x aI ⟨W,cc⟩
     have ej:=W.one
     simp +contextual only [ej.1,ej.2.1,↓ah,ao,simprocAttr]
     exact ⟨W,aB.trans cc⟩
   · rw [if_neg c]
     by_cases bz:t.k=24
     case' pos=>
      have bN:t.s ∈ B:=by
       by_cases z:t.s ∈ B
       · exact z
       · exact absurd ⟨bz,z⟩ c
      simp +contextual only [ol.1,ol.2.1,al,ch.g,eq_true bz,↓ah,ao,simprocAttr]
      refine bK (Oo B t.s bv aa (zS.ext aB)) ?_
      rintro x ae ⟨rfl,tk⟩
      rw [tk]
      simp +contextual only [ch.g,eq_true bN,decide_true,decide_false,↓ah,ao,simprocAttr]
     case' neg=>simp +contextual only [ol.1,ol.2.1,al,ch.g,eq_false bz,↓ah,ao,simprocAttr]
     all_goals
      refine fD (fun r g=>r 1=bv∧r 3=.ptr (aC h.next) 0∧∃(i:Nat) (w:V) (R:List Nm),r 2=w∧r 7=.int .i64 i∧i≤t.l.length∧bI Any g 1 (R.map aS.encS) w∧fS gq t.k t.l 0 t.l B O=fS gq t.k t.l i (t.l.drop i) B R∧R.length≤O.length+dt (t.l.take i)∧Ext aa g) (fun r g=>t.l.length - (r 7).toN) ?_ ?_
      · exact ⟨by simp only [↓ah,bA,simprocAttr],by simp only [↓ah,bA,simprocAttr],0,l1,O,by simp only [↓ah,bA,simprocAttr],by simp only [↓ah,bA,simprocAttr]<;>rfl,by omega,D'.ext aB,rfl,by omega,Ext.refl _⟩
      rintro r g ⟨bp,bX,i,w,R,bT,ft,av,W,ji,cE,E⟩
      unfold Ls
      have hn:=ch.ext E
      have ej:=W.one
      have alp:=CY t.l i
      by_cases aN:i<t.l.length
      · have g0:((i:Int) < (t.l.length:Int))=True:=eq_true (by omega)
        obtain ⟨b,off,wl,b_,X,gr,ld⟩:=aM.jV (L.ext (aB.trans E)) (k:=.i64) aN
        have dM:=ik aN (by unfold top at hle;omega)
        have bj:=mD (t:=t) (List.getElem_mem aN)
        have vy:=K7 t.k t.l i
        have nb:=K6 (k:=t.k) aN
        have akP:=Qt (l:=t.l) aN
        have akQ:=CY t.l (i+1)
        obtain ⟨g1,d_,bo,Tj⟩:=ns g 1 0 [] rfl (Nat.zero_le _)
        have oO:fi g.next g1 [] (.slice (aC g.next) 0 0 0):=⟨Tj,fun s aR=>by cases aR⟩
        have mC:=bo.next
        obtain ⟨v3,g3,cZ,pR,m3,r6,c3,f3⟩:=oO.apps ((zS.ext (aB.trans E)).ext bo) mC (by rw [List.length_nil];unfold top;omega)
        rw [List.nil_append] at pR
        have y_:=m3.next
        have f_:Ext g g3:=bo.h0 m3 fun b q=>by rw [show b=aC g.next from q,c6];exact Nat.le_refl _
        have J6:=hn.ext bo
        have w5:=hn.ext f_
        simp +contextual only [bp,bT,bX,ft,hn.g,J6.g,ak,g0,ol.1,ol.2.1,d_,cZ,r6,c3,↓ah,ao,simprocAttr]
        refine bK (Uw t hm (by omega) i _ g3 (hE.ext ((aB.trans E).trans f_))) ?_
        rintro x g4 ⟨Y,Du⟩
        have PF:=Du.next
        obtain ⟨v5,g5,iV,rq,m5,tV,c5,f5⟩:=(pR.ext Du).apps Y (by omega) (by unfold top;omega)
        have iX:=f_.trans Du
        have ga:Ext g g5:=iX.h0 m5 fun b q=>pR.1.base q
        have Sh:=w5.ext Du
        have Si:=hn.ext ga
        have d5:=ld g5 ga
        have ak':=rq.1.v.one
        simp +contextual only [bp,bT,bX,ft,hn.g,w5.g,Sh.g,Si.g,J6.g,ak,g0,ol.1,ol.2.1,ej.1,ej.2.1,b_,d5,d_,cZ,r6,c3,iV,tV,c5,↓ah,ao,simprocAttr]
        refine bK (QV N t.l[i] (by omega) bD (Pt hm _ (List.getElem_mem aN)) (B++e2 t.k t.l i) R _ v5 w g5 (X.ext ga) (rq.eC (by rw [List.length_append];unfold top;omega) fun _ _=>trivial) (W.ext ga) (by rw [List.length_append];omega) (by omega)) ?_
        rintro x g6 ⟨Z,Dv⟩
        have P9:=Z.one
        simp +contextual only [bp,bT,bX,ft,P9.1,P9.2.1,dM,↓ah,ao,simprocAttr]
        refine ⟨⟨i+1,_,_,rfl,rfl,aN,Z,?_,?_,(E.trans ga).trans Dv⟩,by omega⟩
        · rw [ji,Gf gq t.k t.l aN]
        · have:=Ge gq (fun O s=>R3 s O) t.l[i] (B++e2 t.k t.l i) R
          omega
      · have g0:((i:Int) < (t.l.length:Int))=False:=eq_false (by omega)
        rw [List.drop_eq_nil_of_le (by omega),fS] at ji
        simp +contextual only [bp,bT,bX,ft,hn.g,ak,g0,ej.1,ej.2.1,↓ah,ao,simprocAttr]
        exact ⟨by rw [ji];exact W,aB.trans E⟩
def jJ (bL:List (Nm × Int)) (s:Nm):Int:=(nt s bL).getD 0
theorem Ys (s:Nm) (x:Int) (bL:List (Nm × Int)) (t:Nm):jJ (oz s x bL) t=if t=s then x else jJ bL t:=by
 unfold jJ
 rw [Pa]
 split<;>rfl
theorem Pd [Lay] {h:af} {b:aQ} {bL:List (Nm × Int)} (H:hR (V.int .i64) h b bL) (s:Nm):iR lB (.int .i64 0) false h (.map b) (.str s)=some (.int .i64 (jJ bL s)):=by
 rw [H.look]
 unfold jJ
 cases nt s bL<;>rfl
theorem bI.JI [Lay] {F:aQ→Prop} {h:af} {l:List (List UInt8)} {v:V} (H:bI F h 1 (l.map aS.encS) v) {k:IntKind} {i:Nat} (av:i<l.length):
 ∃b off,hY 1 v (.int k i)=some (.ptr b (off+i))∧l[i].length≤top∧∀ab,Ext h ab→hj (ab.get b) (off+i)=some (.str l[i]):=by
 obtain ⟨b,off,aa,ae,aI⟩:=H.JH (k:=k) av
 exact ⟨b,off,by simpa using aa,ae,fun ab e=>by simpa using aI ab e⟩
set_option maxHeartbeats 4000000 in
theorem Uv (j7:Int) (qg:j7=1∨j7=-1) (L:List Nm) (cI:L.length≤1000000000) (v:V) (k9:Nat) (cj:aQ) (tw:cj≠aC k9) (bL:List (Nm × Int)) (aD:∀s,-1000000000≤jJ bL s∧jJ bL s≤1000000000) (h:af) (S:bI (fun b=>b≠cj) h 1 (L.map aS.encS) v) (P:Has h k9 [.map cj]) (M:hR (V.int .i64) h cj bL):
 bB Tryz.prog 54 [v,.int .i64 j7,.ptr (aC k9) 0] h fun x ab=>∃nk,hR (V.int .i64) ab cj nk∧(∀s,jJ nk s=jJ bL s+j7 * (L.count s:Nat))∧Mod (fun b=>b=cj) h ab:=by
 have ak:=S.len
 rw [List.length_map] at ak
 have hle:=S.le
 rw [List.length_map] at hle
 have ol:=S.one
 refine WQ rfl (cR ?_)
 unfold Ff
 simp +contextual only [ak,↓ah,ao,simprocAttr]
 refine fD (fun r g=>r 1=.int .i64 j7∧r 2=.ptr (aC k9) 0∧r 7=v∧r 8=.int .i64 L.length∧∃(i:Nat) (nk:List (Nm × Int)),r 9=.int .i64 i∧i≤L.length∧hR (V.int .i64) g cj nk∧(∀s,jJ nk s=jJ bL s+j7 * ((L.take i).count s:Nat))∧Mod (fun b=>b=cj) h g) (fun r g=>L.length - (r 9).toN) ?_ ?_
 · exact ⟨by simp only [↓ah,bA,simprocAttr],by simp only [↓ah,bA,simprocAttr],by simp only [↓ah,bA,simprocAttr],by simp only [↓ah,bA,simprocAttr],0,bL,by simp only [↓ah,bA,simprocAttr]<;>rfl,by omega,M,fun s=>by simp,Mod.refl _ _⟩
 rintro r g ⟨bp,bT,ft,d',i,nk,kx,av,rj,aw,E⟩
 unfold Lv
 have Ta:=P.mod E fun q=>tw q.symm
 by_cases aN:i<L.length
 · have g0:((i:Int) < (L.length:Int))=True:=eq_true (by omega)
   obtain ⟨b,off,b_,aR,ld⟩:=bI.JI (S.mod (dJ:=fun b=>b≠cj) E fun b q _=>⟨q,q⟩) (k:=.i64) aN
   have d1:=ld g (Ext.refl g)
   have dM:=ik aN (by unfold top at hle;omega)
   have fU:=aw L[i]
   have iy:=aD L[i]
   have aaW:((L.take i).count L[i]:Nat)≤1000000000:=Nat.le_trans List.count_le_length (by rw [List.length_take];omega)
   have bQ:IntKind.i64.wrap (jJ nk L[i]+j7)=jJ nk L[i]+j7:=by
    rcases qg with rfl | rfl<;>exact wrap_i64 (by omega) (by omega)
   obtain ⟨g2,uq,zG,zH,ai_⟩:=rj.pG L[i] (jJ nk L[i]+j7)
   have jo:=Pd rj L[i]
   simp +contextual only [bp,bT,ft,d',kx,g0,b_,d1,Ta.g,kE.eq,jo,bQ,uq,dM,↓ah,ao,simprocAttr]
   refine ⟨⟨i+1,_,rfl,aN,zG,fun s=>?_,E.trans zH⟩,by omega⟩
   rw [Ys,List.take_succ_eq_append_getElem aN,List.count_append]
   by_cases q:s=L[i]
   · subst q
     rw [if_pos rfl,fU,List.count_singleton_self]
     rcases qg with rfl | rfl<;>push_cast<;>omega
   · rw [if_neg q,aw s,List.count_singleton,if_neg (by simpa using fun z=>q z.symm)]
     simp
 · have g0:((i:Int) < (L.length:Int))=False:=eq_false (by omega)
   rw [List.take_of_length_le (by omega)] at aw
   simp +contextual only [bp,bT,ft,d',kx,g0,↓ah,ao,simprocAttr]
   exact ⟨nk,rj,aw,E⟩
set_option maxHeartbeats 4000000 in
theorem P6 (l:List aM) (v:V) (h:af) (L:bI Any h 5 (l.map aM.enc) v):bB Tryz.prog 55 [v] h fun x ab=>fi h.next ab (h5 l) x∧Ext h ab:=by
 have ak:=L.len
 have hle:=L.le
 rw [List.length_map] at ak hle
 have ol:=L.one
 refine WT rfl (cR ?_)
 unfold Fg
 simp +contextual only [ak,↓ah,ao,simprocAttr]
 refine fD (fun r g=>r 6=v∧r 7=.int .i64 l.length∧∃(i:Nat) (w:V),r 3=w∧r 8=.int .i64 i∧i≤l.length∧fi h.next g (h5 (l.take i)) w∧Ext h g) (fun r g=>l.length - (r 8).toN) ?_ ?_
 · exact ⟨by simp only [↓ah,bA,simprocAttr],by simp only [↓ah,bA,simprocAttr],0,.bW,by simp only [↓ah,bA,simprocAttr],by simp only [↓ah,bA,simprocAttr]<;>rfl,by omega,fi.nil _ _,Ext.refl h⟩
 rintro r g ⟨ek,ft,i,w,bX,d',av,W,E⟩
 unfold Lw
 have ej:=W.1.v.one
 have tU:=E.next
 by_cases aN:i<l.length
 · have g0:((i:Int) < (l.length:Int))=True:=eq_true (by omega)
   obtain ⟨b,off,cl,b_,X,gr,ld⟩:=aM.jV (L.ext E) (k:=.i64) aN
   have d0:=ld g (Ext.refl g)
   have dM:=ik aN (by unfold top at hle;omega)
   obtain ⟨_,_,_,hi⟩:=aM.open X
   have fN:=gr.one
   have ai:=xB (l.take i)
   rw [List.length_take] at ai
   obtain ⟨g1,d_,bo,ch⟩:=ja g [.int .i64 0,.int .i64 0,.int .i64 0,.str [],.bW] [.int .i64 l[i].k,.int .i64 l[i].n,.int .i64 l[i].a,.str l[i].s,cl]
   have mC:=bo.next
   by_cases c:l[i].k=46
   · obtain ⟨cG,aI,b1,ma,cZ,fX,fM,j8,dB⟩:=(W.ext bo).add (by omega) (by unfold top at hle ⊢;omega) hi
     simp +contextual only [bX,ek,ft,d',g0,b_,d0,d_,ch.g,fN.1,fN.2.1,eq_true c,b1,fM,j8,dM,↓ah,ao,simprocAttr]
     refine ⟨⟨i+1,rfl,aN,?_,(E.trans bo).h0 cZ fun b q=>W.1.base q⟩,by omega⟩
     rw [take_one aN,AK,show h5 [l[i]]=[l[i].s] from by simp [h5,c]]
     exact ma
   · simp +contextual only [bX,ek,ft,d',g0,b_,d0,d_,ch.g,fN.1,fN.2.1,eq_false c,dM,↓ah,ao,simprocAttr]
     refine ⟨⟨i+1,rfl,aN,?_,E.trans bo⟩,by omega⟩
     rw [take_one aN,AK,show h5 [l[i]]=[] from by simp [h5,c],List.append_nil]
     exact W.ext bo
 · have g0:((i:Int) < (l.length:Int))=False:=eq_false (by omega)
   rw [List.take_of_length_le (by omega)] at W
   simp +contextual only [bX,ek,ft,d',g0,ej.1,ej.2.1,↓ah,ao,simprocAttr]
   exact ⟨W,E⟩
abbrev nI (cj cX:aQ):aQ→Prop:=fun b=>b≠cj∧b≠cX
structure iM [Lay] (cj cX:aQ) (B O:List Nm) (h:af):Prop where
 b:∃bL,hR (V.int .i64) h cj bL∧∀s,jJ bL s=(B.count s:Nat)
 o:∃ou:List (Nm × Bool),hR V.bool h cX ou∧ou.map Prod.fst=O
section
variable [Lay] {cj cX:aQ} {B O:List Nm} {h ab:af}
theorem iM.ext (H:iM cj cX B O h) (e:Ext h ab):iM cj cX B O ab:=by
 obtain ⟨⟨bL,bM,a2⟩,ou,bR,cb⟩:=H
 exact ⟨⟨bL,bM.ext e,a2⟩,ou,bR.ext e,cb⟩
theorem iM.tX (H:iM cj cX B O h):Old h cj:=by obtain ⟨⟨bL,bM,_⟩,_⟩:=H;exact bM.b0
theorem iM.CG (H:iM cj cX B O h):Old h cX:=by obtain ⟨_,ou,bR,_⟩:=H;exact bR.b0
end
theorem Uu {t:aM} (hm:t.may dr=true):∃(dB:Nat) (iK:List Nm),(t.k=27∨t.k=45→dB=1∧iK=me t.l)∧(t.k=29→dB=2∧iK=me t.l)∧(t.k=30∨t.k=53→dB=0∧iK=h5 t.l)∧(¬(t.k=27∨t.k=45)→¬t.k=29→¬(t.k=30∨t.k=53)→dB=t.l.length∧iK=[])∧
 dB≤t.l.length∧iK.length≤dt t.l∧∀i,i<t.l.length→e2 t.k t.l i=if dB≤i then iK else []:=by
 have aa:=MJ t.l
 have ae:=xB t.l
 have aI:=l3 t.l
 by_cases bz:t.k=27∨t.k=45
 · have bu:=y5 hm bz
   refine ⟨1,me t.l,fun _=>⟨rfl,rfl⟩,fun q=>absurd q (by omega),fun q=>absurd q (by omega),fun q=>absurd bz q,by omega,aa,fun i av=>?_⟩
   rw [e2,if_pos bz]
   have:i=0∨i=1:=by omega
   rcases this with rfl | rfl<;>rfl
 · by_cases bN:t.k=29
   · have bu:=Iq hm bN
     refine ⟨2,me t.l,fun q=>absurd q bz,fun _=>⟨rfl,rfl⟩,fun q=>absurd q (by omega),fun _ q=>absurd bN q,by omega,aa,fun i av=>?_⟩
     rw [e2,if_neg bz,if_pos bN]
     have:i=0∨i=1∨i=2:=by omega
     rcases this with rfl | rfl | rfl<;>rfl
   · by_cases c3:t.k=30∨t.k=53
     · refine ⟨0,h5 t.l,fun q=>absurd q bz,fun q=>absurd q bN,fun _=>⟨rfl,rfl⟩,fun _ _ q=>absurd c3 q,by omega,by omega,fun i av=>?_⟩
       rw [e2,if_neg bz,if_neg bN,if_pos c3,if_pos (Nat.zero_le _)]
     · refine ⟨t.l.length,[],fun q=>absurd q bz,fun q=>absurd q bN,fun q=>absurd q c3,fun _ _ _=>⟨rfl,rfl⟩,by omega,by simp,fun i av=>?_⟩
       rw [e2,if_neg bz,if_neg bN,if_neg c3,if_neg (by omega)]
abbrev Kl (N:Nat):Prop:=∀(t:aM),t.size≤N→t.may dr=true→∀(B O:List Nm) (ad:List V) (cj cX:aQ) (h:af),cj≠cX→bZ (nI cj cX) h t.enc ad→iM cj cX B O h→
 B.length+t.size≤100000000→bB Tryz.prog 42 [.agg ad,.map cj,.map cX] h fun x ab=>iM cj cX B (t.dB gB B O) ab∧Mod (fun b=>b=cj∨b=cX) h ab
def AW:bC:=bC.seq (bC.an [⟨(some 69),.dz (.t 9),none,[9]⟩,⟨(some 70),.fR 4 (.t 3),none,[3]⟩,⟨(some 71),.gl (.t 70),none,[70]⟩,⟨(some 72),.len .slice (.t 71),none,[71]⟩,⟨(some 73),.bin (.int .lss) (.t 69) (.t 72),none,[69,72]⟩])
 (bC.cond (.t 73) (bC.an [⟨(some 74),.dz (.t 6),none,[6]⟩,⟨(some 75),.dz (.t 8),none,[8]⟩,⟨(some 76),.ly (.t 74) [(.t 75),(.c (.int .i64 (-1)))],none,[74,75]⟩]) (bC.skip))
set_option maxHeartbeats 8000000 in
theorem ZK {N:Nat} (bD:N≤100000000) (bg:Kl N) (t:aM) (aR:t.size≤N+1) (hm:t.may dr=true) {B oQ iK:List Nm} {dB:Nat} (f5:dB≤t.l.length) (f6:iK.length≤dt t.l) (f7:∀i,i<t.l.length→e2 t.k t.l i=if dB≤i then iK else [])
 {cj cX:aQ} (qf:cj≠cX) {zo px:Nat} {g0:af} {cl k7:V} (A:Has g0 zo [.int .i64 t.k,.int .i64 t.n,.int .i64 t.a,.str t.s,cl]) (St:Has g0 px [.map cj]) (Iu:cj≠aC zo) (Cx:cX≠aC zo) (wv:cj≠aC px) (Cy:cX≠aC px)
 (L:bI (nI cj cX) g0 5 (t.l.map aM.enc) cl) (xl:bI (nI cj cX) g0 1 (iK.map aS.encS) k7) (Aw:iM cj cX B oQ g0) (ai:B.length+t.size≤100000000)
 {r:aT} (bX:r 3=.ptr (aC zo) 0) (ew:r 4=.ptr (aC px) 0) (ek:r 6=.func 54 [.ptr (aC px) 0]) (d':r 8=k7) (bT:r 2=.map cX) (mG:r 51=cl) (mH:r 52=.int .i64 t.l.length) (kx:r 9=.int .i64 dB) (mI:r 53=.int .i64 0)
 {Q:dd→aT→af→Prop} (c2:∀e r ab,e.ends→iM cj cX B (fS gB t.k t.l 0 t.l B oQ) ab→Mod (fun b=>b=cj∨b=cX) g0 ab→Q e r ab):
 wj Tryz.prog AV [.a7 1,.c AW] r g0 Q:=by
 have ol:=L.one
 have ak:=L.len
 have hle:=L.le
 rw [List.length_map] at ak hle
 have b7:=size_eq t
 have hX:=l3 t.l
 have wF:=xl.one
 refine fD (fun r g=>r 3=.ptr (aC zo) 0∧r 4=.ptr (aC px) 0∧r 6=.func 54 [.ptr (aC px) 0]∧r 8=k7∧r 2=.map cX∧r 51=cl∧r 52=.int .i64 t.l.length∧r 9=.int .i64 dB∧∃(i:Nat) (oP:List Nm),r 53=.int .i64 i∧i≤t.l.length∧iM cj cX (if dB<i then B++iK else B) oP g∧
  fS gB t.k t.l 0 t.l B oQ=fS gB t.k t.l i (t.l.drop i) B oP∧Mod (fun b=>b=cj∨b=cX) g0 g) (fun r g=>t.l.length - (r 53).toN) ?_ ?_
 · exact ⟨bX,ew,ek,d',bT,mG,mH,kx,0,oQ,mI,by omega,by rw [if_neg (by omega)];exact Aw,rfl,Mod.refl _ _⟩
 clear bX ew ek d' bT mG mH kx mI
 rintro r g ⟨bX,ew,ek,d',bT,mG,mH,kx,i,oP,mI,av,T,ji,E⟩
 have hn:=A.mod E fun q=>by rcases q with q | q;exact Iu q.symm;exact Cx q.symm
 have oI:=St.mod E fun q=>by rcases q with q | q;exact wv q.symm;exact Cy q.symm
 have e8:∀b,nI cj cX b→Old g0 b→¬(b=cj∨b=cX)∧nI cj cX b:=fun b q _=>⟨fun z=>by rcases z with z | z;exact q.1 z;exact q.2 z,q⟩
 have mO:=L.mod E e8
 have Ky:=xl.mod E e8
 have nM:∀(j7:Int) (qg:j7=1∨j7=-1) (oH eh rk:List Nm) (g:af),iM cj cX oH rk g→oH.length≤1000000000→(∀s,(eh.count s:Int)=(oH.count s:Nat)+j7 * (iK.count s:Nat))→bI (nI cj cX) g 1 (iK.map aS.encS) k7→Has g px [.map cj]→bB Tryz.prog 54 [k7,.int .i64 j7,.ptr (aC px) 0] g fun x ab=>iM cj cX eh rk ab∧Mod (fun b=>b=cj) g ab:=by
  intro j7 qg oH eh rk g rp o6 aw S P
  obtain ⟨⟨bL,xk,M2⟩,ou,Am,An⟩:=rp
  refine (Uv j7 qg iK (by omega) k7 px cj wv bL (fun s=>?_) g (S.hQ fun b q=>q.1) P xk).mono ?_
  · rw [M2]
    have:oH.count s≤oH.length:=List.count_le_length
    omega
  · rintro x ab ⟨nk,SY,SZ,Kt⟩
    exact ⟨⟨⟨nk,SY,fun s=>by rw [SZ,M2,aw]⟩,ou,Am.mod Kt (fun q=>qf q.symm),An⟩,Kt⟩
 unfold AV
 by_cases aN:i<t.l.length
 · have qa:((i:Int) < (t.l.length:Int))=True:=eq_true (by omega)
   obtain ⟨b,off,wl,b_,X,gr,ld⟩:=aM.jV mO (k:=.i64) aN
   have d0:=ld g (Ext.refl g)
   have dM:=ik aN (by unfold top at hle;omega)
   have fN:=gr.one
   have bj:=mD (t:=t) (List.getElem_mem aN)
   have nb:=K6 (k:=t.k) aN
   have mg:=f7 i aN
   obtain ⟨g1,d_,bo,ch⟩:=ja g [.int .i64 0,.int .i64 0,.int .i64 0,.str [],.bW] [.int .i64 t.l[i].k,.int .i64 t.l[i].n,.int .i64 t.l[i].a,.str t.l[i].s,wl]
   have zR:=oI.ext bo
   have rp:=T.ext bo
   have af':cj≠aC g.next:=fun q=>by have:=T.tX;unfold Old at this;rw [q,c6] at this;omega
   have ak5:cX≠aC g.next:=fun q=>by have:=T.CG;unfold Old at this;rw [q,c6] at this;omega
   have last:∀(g2:af) (bt:aT),iM cj cX (B++e2 t.k t.l i) oP g2→Mod (fun b=>b=cj) g1 g2→bB Tryz.prog 42 [.agg [.int .i64 t.l[i].k,.int .i64 t.l[i].n,.int .i64 t.l[i].a,.str t.l[i].s,wl],.map cj,.map cX] g2 fun x ab=>iM cj cX (B++e2 t.k t.l i) (t.l[i].dB gB (B++e2 t.k t.l i) oP) ab∧Mod (fun b=>b=cj∨b=cX) g2 ab:=by
    intro g2 bt kG m2
    exact bg t.l[i] (by omega) (Pt hm _ (List.getElem_mem aN)) _ oP _ cj cX g2 qf ((X.ext bo).mod m2 fun b q _=>⟨q.1,q⟩) kG (by rw [List.length_append];omega)
   have fin:∀(g2 g3:af),Mod (fun b=>b=cj) g1 g2→Mod (fun b=>b=cj∨b=cX) g2 g3→Mod (fun b=>b=cj∨b=cX) g0 g3:=fun g2 g3 m2 m3=>E.trans ((bo.mod _).trans ((m2.mono fun _ _ q=>.inl q).trans m3))
   have same:fS gB t.k t.l 0 t.l B oQ=fS gB t.k t.l (i+1) (t.l.drop (i+1)) B (t.l[i].dB gB (B++e2 t.k t.l i) oP):=by rw [ji,Gf gB t.k t.l aN]
   by_cases c:i=dB
   · have e3:((i:Int)=(dB:Int))=True:=eq_true (by omega)
     have Np:e2 t.k t.l i=iK:=by rw [mg,if_pos (by omega)]
     rw [if_neg (by omega)] at rp
     simp +contextual only [bX,ew,ek,d',bT,mG,mH,kx,mI,qa,b_,d0,d_,ch.g,zR.g,fN.1,fN.2.1,wF.1,wF.2.1,e3,p5,List.cons_append,List.nil_append,show (54=4294967296)=False from by simp,if_false,↓ah,ao,simprocAttr]
     refine bK (nM 1 (.inl rfl) B (B++iK) oP g1 rp (by omega) (fun s=>by rw [List.count_append];push_cast;omega) (Ky.ext bo) zR) ?_
     rintro x g2 ⟨kG,m2⟩
     have cO:=ch.mod m2 fun q=>af' q.symm
     have Sp:=zR.mod m2 fun q=>wv q.symm
     simp +contextual only [bX,ew,ek,d',bT,mG,mH,kx,mI,cO.g,Sp.g,↓ah,ao,simprocAttr]
     refine bK (last g2 r (by rw [Np];exact kG) m2) ?_
     rintro x g3 ⟨sH,m3⟩
     simp +contextual only [bX,ew,ek,d',bT,mG,mH,kx,mI,dM,↓ah,ao,simprocAttr]
     refine ⟨⟨i+1,_,rfl,aN,?_,same,fin g2 g3 m2 m3⟩,by omega⟩
     rw [if_pos (by omega),←Np]
     exact sH
   · have e3:((i:Int)=(dB:Int))=False:=eq_false (by omega)
     have Ts:iM cj cX (B++e2 t.k t.l i) oP g1:=by
      rw [mg]
      by_cases q:dB<i
      · rw [if_pos q] at rp;rw [if_pos (by omega)];exact rp
      · rw [if_neg q] at rp;rw [if_neg (by omega),List.append_nil];exact rp
     simp +contextual only [bX,ew,ek,d',bT,mG,mH,kx,mI,qa,b_,d0,d_,ch.g,zR.g,fN.1,fN.2.1,wF.1,wF.2.1,e3,↓ah,ao,simprocAttr]
     refine bK (last g1 r Ts (Mod.refl _ _)) ?_
     rintro x g3 ⟨sH,m3⟩
     simp +contextual only [bX,ew,ek,d',bT,mG,mH,kx,mI,dM,↓ah,ao,simprocAttr]
     refine ⟨⟨i+1,_,rfl,aN,?_,same,fin g1 g3 (Mod.refl _ _) m3⟩,by omega⟩
     rw [mg] at sH
     by_cases q:dB<i
     · rw [if_pos (show dB≤i by omega)] at sH;rw [if_pos (by omega)];rw [mg,if_pos (show dB≤i by omega)];exact sH
     · rw [if_neg (show ¬dB≤i by omega),List.append_nil] at sH;rw [if_neg (by omega)];rw [mg,if_neg (show ¬dB≤i by omega),List.append_nil];exact sH
 · have qa:((i:Int) < (t.l.length:Int))=False:=eq_false (by omega)
   rw [List.drop_eq_nil_of_le (by omega),fS] at ji
   by_cases c:dB<t.l.length
   · have e3:((dB:Int) < (t.l.length:Int))=True:=eq_true (by omega)
     rw [if_pos (by omega)] at T
     unfold AW
     simp +contextual only [bX,ew,ek,d',bT,mG,mH,kx,mI,qa,hn.g,oI.g,ak,e3,wF.1,wF.2.1,p5,List.cons_append,List.nil_append,show (54=4294967296)=False from by simp,if_false,↓ah,ao,simprocAttr]
     refine bK (nM (-1) (.inr rfl) (B++iK) B oP g T (by rw [List.length_append];omega) (fun s=>by rw [List.count_append];push_cast;omega) Ky oI) ?_
     rintro x g2 ⟨kG,m2⟩
     simp +contextual only [↓ah,ao,simprocAttr]
     exact c2 _ _ _ (by trivial) (by rw [ji];exact kG) (E.trans (m2.mono fun _ _ q=>.inl q))
   · have e3:((dB:Int) < (t.l.length:Int))=False:=eq_false (by omega)
     rw [if_neg (by omega)] at T
     unfold AW
     simp +contextual only [bX,ew,ek,d',bT,mG,mH,kx,mI,qa,hn.g,oI.g,ak,e3,↓ah,ao,simprocAttr]
     exact c2 _ _ _ (by trivial) (by rw [ji];exact T) E
set_option maxHeartbeats 16000000 in
theorem MS:∀(N:Nat),N≤100000000→Kl N
 | 0,_,t,aR,_,_,_,_,_,_,_,_,_,_,_=>by have:=mE t;omega
 | N+1,vv,t,aR,hm,B,O,ad,cj,cX,h,qf,H,T,ai=>by
   have hE:=H
   obtain ⟨cl,rfl,L,hi⟩:=aM.open H
   have bD:N≤100000000:=by omega
   have ol:=L.one
   have ak:=L.len
   have hle:=L.le
   rw [List.length_map] at ak hle
   have b7:=size_eq t
   have hX:=l3 t.l
   obtain ⟨dB,iK,f1,f2,f3,f4,f5,f6,f7⟩:=Uu hm
   refine Wg rfl (cR ?_)
   unfold E9
   obtain ⟨aa,al,aB,ch⟩:=fo h [.int .i64 t.k,.int .i64 t.n,.int .i64 t.a,.str t.s,cl]
   obtain ⟨ae,aq,aO,eh⟩:=fo aa [.map cj]
   have cO:=ch.ext aO
   have eX:=aB.trans aO
   have kG:=T.ext eX
   have mN:=L.ext eX
   have agk:=kG.tX
   have agJ:=kG.CG
   have dc:=aB.next
   have hJ:=aO.next
   have aeS:=ch.lt
   have nn:=eh.lt
   have Iu:cj≠aC h.next:=fun q=>by have:=T.tX;unfold Old at this;rw [q,c6] at this;omega
   have Cx:cX≠aC h.next:=fun q=>by have:=T.CG;unfold Old at this;rw [q,c6] at this;omega
   have wv:cj≠aC aa.next:=fun q=>by have:=T.tX;unfold Old at this;rw [q,c6] at this;omega
   have Cy:cX≠aC aa.next:=fun q=>by have:=T.CG;unfold Old at this;rw [q,c6] at this;omega
   have IA:∀g,bI (nI cj cX) g 1 (([]:List Nm).map aS.encS) .bW:=fun g=>bI.nil _ _ _
   have sQ:∀aN:0<t.l.length,∃(b:aQ) (off:Nat) (wl:V),hY 5 cl (.int .i64 0)=some (.ptr b off)∧bZ Any ae t.l[0].enc [.int .i64 t.l[0].k,.int .i64 t.l[0].n,.int .i64 t.l[0].a,.str t.l[0].s,wl]∧mx 5 (ae.get b) off=some (.agg [.int .i64 t.l[0].k,.int .i64 t.l[0].n,.int .i64 t.l[0].a,.str t.l[0].s,wl])∧t.l[0].size≤1000000000:=fun aN=>by
    obtain ⟨b,off,wl,b_,X,gr,ld⟩:=aM.jV mN (k:=.i64) aN
    have:=mD (t:=t) (List.getElem_mem aN)
    exact ⟨b,off,wl,by simpa using b_,X.hQ fun _ _=>trivial,by simpa using ld ae (Ext.refl _),by omega⟩
   have own:∀{x:V} {g:af} {l:List Nm},fi ae.next g l x→l.length≤dt t.l→bI (nI cj cX) g 1 (l.map aS.encS) x:=fun W hlen=>
    W.eC (by unfold top;omega) fun b ai=>⟨fun q=>by subst q;unfold Old at agk;omega,fun q=>by subst q;unfold Old at agJ;omega⟩
   have acA:=MS N bD
   have finish:∀{g0:af} {k7:V} {oQ:List Nm} {r:aT} (hn:Has g0 h.next [.int .i64 t.k,.int .i64 t.n,.int .i64 t.a,.str t.s,cl]) (xl:bI (nI cj cX) g0 1 (iK.map aS.encS) k7) (Aw:iM cj cX B oQ g0) (Ap:Mod (fun b=>b=cj∨b=cX) ae g0) (ji:t.dB gB B O=fS gB t.k t.l 0 t.l B oQ)
    (bX:r 3=.ptr (aC h.next) 0) (ew:r 4=.ptr (aC aa.next) 0) (ek:r 6=.func 54 [.ptr (aC aa.next) 0]) (d':r 8=k7) (bT:r 2=.map cX) (mG:r 51=cl) (mH:r 52=.int .i64 t.l.length) (kx:r 9=.int .i64 dB) (mI:r 53=.int .i64 0),
    wj Tryz.prog AV [.a7 1,.c AW] r g0 fun e r ab=>e.ends∧iM cj cX B (t.dB gB B O) ab∧Mod (fun b=>b=cj∨b=cX) h ab:=by
    intro g0 k7 oQ r hn xl Aw Ap ji bX ew ek d' bT mG mH kx mI
    have e8:∀b,nI cj cX b→Old ae b→¬(b=cj∨b=cX)∧nI cj cX b:=fun b q _=>⟨fun z=>by rcases z with z | z;exact q.1 z;exact q.2 z,q⟩
    refine ZK bD acA t aR hm f5 f6 f7 qf hn (eh.mod Ap fun q=>by rcases q with q | q;exact wv q.symm;exact Cy q.symm) Iu Cx wv Cy (mN.mod Ap e8) xl Aw ai bX ew ek d' bT mG mH kx mI fun e r ab he cF rj=>⟨he,by rw [ji];exact cF,((eX.mod _).trans Ap).trans rj⟩
   by_cases oh:t.k=24
   · obtain ⟨rfl,rfl⟩:=f4 (by omega) (by omega) (by omega)
     have mj:=afJ hm oh
     obtain ⟨⟨bL,xk,M2⟩,ou,Am,An⟩:=kG
     have jo:=Pd xk t.s
     by_cases cs:t.s ∈ B
     · have j8:(jJ bL t.s=0)=False:=eq_false (by
        rw [M2]
        have:=List.count_pos_iff.2 cs
        omega)
       simp +contextual only [ol.1,ol.2.1,al,aq,cO.g,eh.g,ak,eq_true oh,kE.eq,jo,j8,↓ah,ao,simprocAttr]
       exact finish cO (IA _) ⟨⟨bL,xk,M2⟩,ou,Am,An⟩ (Mod.refl _ _) (by rw [Bn,if_neg (fun q=>q.2 cs)]) (by simp only [↓ah,bA,simprocAttr]) (by simp only [↓ah,bA,simprocAttr]) (by simp only [↓ah,bA,simprocAttr]) (by simp only [↓ah,bA,simprocAttr]) (by simp only [↓ah,bA,simprocAttr]) (by simp only [↓ah,bA,simprocAttr]) (by simp only [↓ah,bA,simprocAttr]) (by simp only [↓ah,bA,simprocAttr]<;>rfl) (by simp only [↓ah,bA,simprocAttr])
     · have j8:(jJ bL t.s=0)=True:=eq_true (by
        rw [M2,List.count_eq_zero_of_not_mem cs];rfl)
       obtain ⟨g0,uq,zG,zH,ai_⟩:=Am.pG t.s true
       have jC:=cO.mod zH fun q=>Cx q.symm
       simp +contextual only [ol.1,ol.2.1,al,aq,cO.g,jC.g,eh.g,ak,eq_true oh,kE.eq,jo,j8,uq,↓ah,ao,simprocAttr]
       exact finish jC (IA _) (oQ:=gB O t.s) ⟨⟨bL,xk.mod zH qf,M2⟩,_,zG,by rw [OM,An];rfl⟩ (zH.mono fun _ _ q=>.inr q) (by rw [Bn,if_pos ⟨oh,cs⟩,mj,fS]) (by simp only [↓ah,bA,simprocAttr]) (by simp only [↓ah,bA,simprocAttr]) (by simp only [↓ah,bA,simprocAttr]) (by simp only [↓ah,bA,simprocAttr]) (by simp only [↓ah,bA,simprocAttr]) (by simp only [↓ah,bA,simprocAttr]) (by simp only [↓ah,bA,simprocAttr]) (by simp only [↓ah,bA,simprocAttr]<;>rfl) (by simp only [↓ah,bA,simprocAttr])
   have ji:t.dB gB B O=fS gB t.k t.l 0 t.l B O:=by rw [Bn,if_neg (fun q=>oh q.1)]
   by_cases rV:t.k=27
   · obtain ⟨rfl,rfl⟩:=f1 (.inl rV)
     have aN:0<t.l.length:=by rw [y5 hm (.inl rV)];omega
     obtain ⟨b,off,wl,b_,X,d0,bj⟩:=sQ aN
     simp +contextual only [ol.1,ol.2.1,al,aq,cO.g,eh.g,ak,eq_false oh,eq_true rV,b_,d0,↓ah,ao,simprocAttr]
     refine bK (Co t.l[0] bj _ ae X) ?_
     rintro k7 g0 ⟨W,fG⟩
     rw [←vj aN] at W
     have jC:=cO.ext fG
     simp +contextual only [jC.g,ak,↓ah,ao,simprocAttr]
     exact finish jC (own W f6) (kG.ext fG) (fG.mod _) ji (by simp only [↓ah,bA,simprocAttr]) (by simp only [↓ah,bA,simprocAttr]) (by simp only [↓ah,bA,simprocAttr]) (by simp only [↓ah,bA,simprocAttr]) (by simp only [↓ah,bA,simprocAttr]) (by simp only [↓ah,bA,simprocAttr]) (by simp only [↓ah,bA,simprocAttr]) (by simp only [↓ah,bA,simprocAttr]<;>rfl) (by simp only [↓ah,bA,simprocAttr])
   by_cases tM:t.k=45
   · obtain ⟨rfl,rfl⟩:=f1 (.inr tM)
     have aN:0<t.l.length:=by rw [y5 hm (.inr tM)];omega
     obtain ⟨b,off,wl,b_,X,d0,bj⟩:=sQ aN
     simp +contextual only [ol.1,ol.2.1,al,aq,cO.g,eh.g,ak,eq_false oh,eq_false rV,eq_true tM,b_,d0,↓ah,ao,simprocAttr]
     refine bK (Co t.l[0] bj _ ae X) ?_
     rintro k7 g0 ⟨W,fG⟩
     rw [←vj aN] at W
     have jC:=cO.ext fG
     simp +contextual only [jC.g,ak,↓ah,ao,simprocAttr]
     exact finish jC (own W f6) (kG.ext fG) (fG.mod _) ji (by simp only [↓ah,bA,simprocAttr]) (by simp only [↓ah,bA,simprocAttr]) (by simp only [↓ah,bA,simprocAttr]) (by simp only [↓ah,bA,simprocAttr]) (by simp only [↓ah,bA,simprocAttr]) (by simp only [↓ah,bA,simprocAttr]) (by simp only [↓ah,bA,simprocAttr]) (by simp only [↓ah,bA,simprocAttr]<;>rfl) (by simp only [↓ah,bA,simprocAttr])
   by_cases tL:t.k=29
   · obtain ⟨rfl,rfl⟩:=f2 tL
     have aN:0<t.l.length:=by rw [Iq hm tL];omega
     obtain ⟨b,off,wl,b_,X,d0,bj⟩:=sQ aN
     simp +contextual only [ol.1,ol.2.1,al,aq,cO.g,eh.g,ak,eq_false oh,eq_false rV,eq_false tM,eq_true tL,b_,d0,↓ah,ao,simprocAttr]
     refine bK (Co t.l[0] bj _ ae X) ?_
     rintro k7 g0 ⟨W,fG⟩
     rw [←vj aN] at W
     have jC:=cO.ext fG
     simp +contextual only [jC.g,ak,↓ah,ao,simprocAttr]
     exact finish jC (own W f6) (kG.ext fG) (fG.mod _) ji (by simp only [↓ah,bA,simprocAttr]) (by simp only [↓ah,bA,simprocAttr]) (by simp only [↓ah,bA,simprocAttr]) (by simp only [↓ah,bA,simprocAttr]) (by simp only [↓ah,bA,simprocAttr]) (by simp only [↓ah,bA,simprocAttr]) (by simp only [↓ah,bA,simprocAttr]) (by simp only [↓ah,bA,simprocAttr]<;>rfl) (by simp only [↓ah,bA,simprocAttr])
   by_cases B':t.k=30
   · obtain ⟨rfl,rfl⟩:=f3 (.inl B')
     simp +contextual only [ol.1,ol.2.1,al,aq,cO.g,eh.g,ak,eq_false oh,eq_false rV,eq_false tM,eq_false tL,eq_true B',p5,List.cons_append,List.nil_append,show (55=4294967296)=False from by simp,if_false,↓ah,ao,simprocAttr]
     refine bK (P6 t.l cl ae (mN.hQ fun _ _=>trivial)) ?_
     rintro k7 g0 ⟨W,fG⟩
     have jC:=cO.ext fG
     simp +contextual only [jC.g,ak,↓ah,ao,simprocAttr]
     exact finish jC (own W f6) (kG.ext fG) (fG.mod _) ji (by simp only [↓ah,bA,simprocAttr]) (by simp only [↓ah,bA,simprocAttr]) (by simp only [↓ah,bA,simprocAttr]) (by simp only [↓ah,bA,simprocAttr]) (by simp only [↓ah,bA,simprocAttr]) (by simp only [↓ah,bA,simprocAttr]) (by simp only [↓ah,bA,simprocAttr]) (by simp only [↓ah,bA,simprocAttr]<;>rfl) (by simp only [↓ah,bA,simprocAttr])
   by_cases H7:t.k=53
   · obtain ⟨rfl,rfl⟩:=f3 (.inr H7)
     simp +contextual only [ol.1,ol.2.1,al,aq,cO.g,eh.g,ak,eq_false oh,eq_false rV,eq_false tM,eq_false tL,eq_false B',eq_true H7,p5,List.cons_append,List.nil_append,show (55=4294967296)=False from by simp,if_false,↓ah,ao,simprocAttr]
     refine bK (P6 t.l cl ae (mN.hQ fun _ _=>trivial)) ?_
     rintro k7 g0 ⟨W,fG⟩
     have jC:=cO.ext fG
     simp +contextual only [jC.g,ak,↓ah,ao,simprocAttr]
     exact finish jC (own W f6) (kG.ext fG) (fG.mod _) ji (by simp only [↓ah,bA,simprocAttr]) (by simp only [↓ah,bA,simprocAttr]) (by simp only [↓ah,bA,simprocAttr]) (by simp only [↓ah,bA,simprocAttr]) (by simp only [↓ah,bA,simprocAttr]) (by simp only [↓ah,bA,simprocAttr]) (by simp only [↓ah,bA,simprocAttr]) (by simp only [↓ah,bA,simprocAttr]<;>rfl) (by simp only [↓ah,bA,simprocAttr])
   obtain ⟨rfl,rfl⟩:=f4 (by omega) tL (by omega)
   simp +contextual only [ol.1,ol.2.1,al,aq,cO.g,eh.g,ak,eq_false oh,eq_false rV,eq_false tM,eq_false tL,eq_false B',eq_false H7,↓ah,ao,simprocAttr]
   exact finish cO (IA _) kG (Mod.refl _ _) ji (by simp only [↓ah,bA,simprocAttr]) (by simp only [↓ah,bA,simprocAttr]) (by simp only [↓ah,bA,simprocAttr]) (by simp only [↓ah,bA,simprocAttr]) (by simp only [↓ah,bA,simprocAttr]) (by simp only [↓ah,bA,simprocAttr]) (by simp only [↓ah,bA,simprocAttr]) (by simp only [↓ah,bA,simprocAttr]<;>rfl) (by simp only [↓ah,bA,simprocAttr])
end Go.Proofs.YtkehcalakofigaaGreatDoor
namespace Go.Proofs.YtkehcalakofigaaGreatDoor
open Go aS
theorem ad6 (v:V) (bs:v.one=true∧v.cells=[v]∧v.e5=true) (h:af):bB Tryz.prog 44 [v] h fun x ab=>∃n,x=.func 58 [.ptr (aC n) 0]∧Has ab n [v]∧Ext h ab:=by
 refine Wj rfl (cR ?_)
 unfold E'
 obtain ⟨aa,al,aB,ch⟩:=fo h [v]
 simp +contextual only [al,bs.1,bs.2.1,bs.2.2,↓ah,ao,simprocAttr]
 exact ⟨_,rfl,ch,aB⟩
theorem aiv {h:af} {n:Nat} {cj:aQ} {bL:List (Nm × Bool)} (P:Has h n [.map cj]) (M:hR V.bool h cj bL) (aX:(bL.map Prod.fst).Nodup) (ak:bL.length≤1000000000) (aR:∀s ∈ bL.map Prod.fst,s.length≤top):
 bB Tryz.prog 43 [.func 58 [.ptr (aC n) 0]] h fun x ab=>bI Any ab 1 ((lg (bL.map Prod.fst)).map aS.encS) x∧Ext h ab:=by
 obtain ⟨es,clock,m1,m2,m3⟩:=M.ex
 have hlen:es.length=bL.length:=by
  have:=H_ m2.keys
  rw [List.length_map] at this
  exact this.symm
 have e5:xZ clock es (bL.map Prod.fst)=true:=by
  unfold xZ
  simp only [Bool.and_eq_true,decide_eq_true_eq,Nat.ble_eq]
  exact ⟨m3,aX,aR,by omega⟩
 have hi:(lg (bL.map Prod.fst)).length=bL.length:=by rw [(zA _).length_eq,List.length_map]
 have run:∃v ab,(Dk 58).run [.func 58 [.ptr (aC n) 0]] h=.val v ab∧bI Any ab 1 ((lg (bL.map Prod.fst)).map aS.encS) v∧Ext h ab:=by
  have ab8:∀s ∈ lg (bL.map Prod.fst),s.length≤top:=fun s q=>aR s ((zA _).mem_iff.1 q)
  simp only [Dk,Nat.beq_refl,cond_true,JA,P.g,b3.bh]
  simp only [List.length_singleton,show Nat.blt 0 1=true from rfl,cond_true]
  rw [show T.get V.bad (aC 0) (e9 .e 0 [V.map cj])=V.map cj from by rw [show aC 0=aC (0+0) from rfl,xY];rfl]
  simp only [m1,m2.keys,e5,cond_true]
  generalize lg (bL.map Prod.fst)=l at *
  cases l with
  | nil=>exact ⟨_,_,rfl,bI.nil _ _ _,Ext.refl _⟩
  | cons x l=>
    have kf:(pE (x::l)).length≤top:=by unfold pE;rw [List.length_map];unfold top;omega
    simp only [Cr kf (Nat.le_refl _)]
    have o:=dx.grown (B:=h.next) (h:=h) (size:=1) (ad:=pE (x::l)) (n:=(x::l).length) (st:=false) (by unfold pE;rw [List.length_map,Nat.mul_one]) (Nat.le_refl _)
    refine ⟨_,_,rfl,et.PC o.v o.room (by unfold top;omega) ab8 fun _ _=>trivial,(Ext.refl h).new _⟩
 obtain ⟨v,ab,bp,bT,bX⟩:=run
 exact ⟨v,ab,⟨(fun e=>by cases e),.inl ⟨⟨_,Tryz.func43,by kernel_rfl⟩,fun az E w xs au s=>aiu (by decide) Tryz.underlying9 Rs bp az E w xs au s⟩⟩,bT,bX⟩
def qL (k:Int):Bool:=decide (eu k=3)||decide (eu k=4)||decide (eu k=5)||decide (eu k=7)
def aM.free (t:aM):List Nm:=if qL t.k&&t.may dr then t.dB gq [] [] else []
theorem ahE (t:aM) (aR:t.size≤100000000) (ad:List V) (h:af) (H:bZ Any h t.enc ad):bB Tryz.prog 28 [.agg ad] h fun x ab=>bI Any ab 1 (t.free.map aS.encS) x∧Ext h ab:=by
 have hE:=H
 obtain ⟨cl,rfl,L,_⟩:=aM.open H
 have ol:=L.one
 refine VR rfl (cR ?_)
 unfold E1
 obtain ⟨aa,al,aB,ch⟩:=fo h [.int .i64 t.k,.int .i64 t.n,.int .i64 t.a,.str t.s,cl]
 simp +contextual only [ol.1,ol.2.1,al,ch.g,↓ah,ao,simprocAttr]
 refine bK (Jl t.k aa) ?_
 rintro x ae ⟨rfl,tk⟩
 rw [tk]
 by_cases c3:qL t.k=true
 · have ok:(eu t.k=3)∨(eu t.k=4)∨(eu t.k=5)∨(eu t.k=7):=by
    unfold qL at c3
    simpa [or_assoc] using c3
   have go:mW Tryz.prog 39 [.agg [.int .i64 t.k,.int .i64 t.n,.int .i64 t.a,.str t.s,cl]]=mW Tryz.prog 39 [.agg [.int .i64 t.k,.int .i64 t.n,.int .i64 t.a,.str t.s,cl]]:=rfl
   rcases ok with g | g | g | g<;>
   simp +contextual only [g,ch.g,decide_true,decide_false,show ((3:Int)=4)=False from by simp,show ((3:Int)=5)=False from by simp,show ((3:Int)=7)=False from by simp,show ((4:Int)=3)=False from by simp,show ((4:Int)=5)=False from by simp,show ((5:Int)=3)=False from by simp,show ((5:Int)=4)=False from by simp,show ((7:Int)=3)=False from by simp,show ((7:Int)=4)=False from by simp,show ((7:Int)=5)=False from by simp,↓ah,ao,simprocAttr]<;>
   (refine bK (Jn _ t (Nat.le_refl _) (by omega) _ aa (hE.ext aB)) ?_
    rintro x aI ⟨rfl,cc⟩
    have Hd:=Ps (named:=dr) t.size t (Nat.le_refl _) (by omega)
    have lh:=ch.ext cc
    cases c:t.la dr with
    | false=>
      simp +contextual only [↓ah,ao,simprocAttr]
      refine ⟨?_,aB.trans cc⟩
      have:t.free=[]:=by unfold aM.free;rw [←Hd,c,Bool.and_false];rfl
      rw [this]
      exact bI.nil _ _ _
    | true=>
      simp +contextual only [lh.g,↓ah,ao,simprocAttr]
      refine bK (QV _ t (Nat.le_refl _) (by omega) (by rw [←Hd];exact c) [] [] _ .bW .bW aI (hE.ext (aB.trans cc)) (bI.nil _ _ _) (bI.nil _ _ _) (by simp;omega) (by simp;omega)) ?_
      rintro x bu ⟨W,fy⟩
      have ej:=W.one
      simp +contextual only [ej.1,ej.2.1,↓ah,ao,simprocAttr]
      refine ⟨?_,(aB.trans cc).trans fy⟩
      have:t.free=t.dB gq [] []:=by unfold aM.free;rw [c3,←Hd,c];rfl
      rw [this]
      exact W)
 · have iN:qL t.k=false:=by simpa using c3
   have no:¬eu t.k=3∧¬eu t.k=4∧¬eu t.k=5∧¬eu t.k=7:=by
    unfold qL at iN
    simpa [and_assoc] using iN
   obtain ⟨g3,g4,g5,g7⟩:=no
   simp +contextual only [eq_false g3,eq_false g4,eq_false g5,eq_false g7,decide_true,decide_false,↓ah,ao,simprocAttr]
   refine ⟨?_,aB⟩
   have:t.free=[]:=by unfold aM.free;rw [iN];rfl
   rw [this]
   exact bI.nil _ _ _
theorem Ml [Lay] {F:aQ→Prop} {h:af}:∀(N:Nat) (t:aM),t.size≤N→∀(ad:List V),bZ F h t.enc ad→∀p ∈ t.pre,p.s.length≤top
 | 0,t,aR,_,_=>by have:=mE t;omega
 | N+1,t,aR,ad,H=>by
   obtain ⟨cl,rfl,L,hi⟩:=aM.open H
   have b7:=size_eq t
   intro p aj
   rw [I2] at aj
   rcases List.mem_cons.1 aj with rfl | aj
   · exact hi
   · have:∀(l:List aM),(∀u ∈ l,u ∈ t.l)→p ∈ hL l→p.s.length≤top:=by
      intro l
      induction l with
      | nil=>intro _ q;cases q
      | cons u l bg=>
        intro hu q
        rw [hL,List.mem_append] at q
        rcases q with q | q
        · obtain ⟨i,av,e⟩:=List.getElem_of_mem (hu u (by simp))
          obtain ⟨_,_,_,_,X,_,_⟩:=aM.jV L (k:=.i64) av
          rw [e] at X
          have:=mD (t:=t) (hu u (by simp))
          exact Ml N u (by omega) _ X p q
        · exact bg (fun w hw=>hu w (by simp [hw])) q
     exact this t.l (fun _ q=>q) aj
mutual
theorem MR:∀(t:aM) (B O:List Nm) (x:Nm),x ∈ t.dB gB B O→x ∈ O∨∃p ∈ t.pre,p.s=x
 | .mk k n a s l,B,O,x,h=>by
   rw [aM.dB] at h
   split at h
   · rcases (Qy O s x).1 h with rfl | h
     · exact .inr ⟨.mk k n a x l,by rw [aM.pre];simp,rfl⟩
     · exact .inl h
   · rcases MV k l 0 l B O x h with h | ⟨p,aj,e⟩
     · exact .inl h
     · exact .inr ⟨p,by rw [aM.pre];simp [aj],e⟩
theorem MV (k:Int) (ie:List aM):∀(i:Nat) (l:List aM) (B O:List Nm) (x:Nm),x ∈ fS gB k ie i l B O→x ∈ O∨∃p ∈ hL l,p.s=x
 | _,[],_,O,x,h=>by rw [fS] at h;exact .inl h
 | i,t::l,B,O,x,h=>by
   rw [fS] at h
   rcases MV k ie (i+1) l B _ x h with h | ⟨p,aj,e⟩
   · rcases MR t _ O x h with h | ⟨p,aj,e⟩
     · exact .inl h
     · exact .inr ⟨p,by rw [hL];simp [aj],e⟩
   · exact .inr ⟨p,by rw [hL];simp [aj],e⟩
end
set_option maxHeartbeats 4000000 in
theorem ag6 (t:aM) (aR:t.size≤100000000) (ad:List V) (h:af) (H:bZ Any h t.enc ad):bB Tryz.prog 27 [.agg ad] h fun x ab=>bI Any ab 1 (t.free.map aS.encS) x∧Ext h ab:=by
 have hE:=H
 have n_:=Ml _ t (Nat.le_refl _) ad H
 obtain ⟨cl,rfl,L,_⟩:=aM.open H
 have ol:=L.one
 refine VO rfl (cR ?_)
 unfold j9
 obtain ⟨aa,al,aB,ch⟩:=fo h [.int .i64 t.k,.int .i64 t.n,.int .i64 t.a,.str t.s,cl]
 simp +contextual only [ol.1,ol.2.1,al,ch.g,↓ah,ao,simprocAttr]
 refine bK (ahR aa) ?_
 rintro dz ae ⟨aO,Aq⟩
 have cO:=ch.ext aO
 have eX:=aB.trans aO
 simp +contextual only [cO.g,↓ah,ao,simprocAttr]
 refine bK (M8 t.k ae) ?_
 rintro x aI ⟨rfl,abg⟩
 rw [abg]
 by_cases c3:qL t.k=true
 · have ok:(eu t.k=3)∨(eu t.k=4)∨(eu t.k=5)∨(eu t.k=7):=by
    unfold qL at c3
    simpa [or_assoc] using c3
   rcases ok with g | g | g | g<;>
   simp +contextual only [g,cO.g,decide_true,decide_false,show ((3:Int)=4)=False from by simp,show ((3:Int)=5)=False from by simp,show ((3:Int)=7)=False from by simp,show ((4:Int)=3)=False from by simp,show ((4:Int)=5)=False from by simp,show ((5:Int)=3)=False from by simp,show ((5:Int)=4)=False from by simp,show ((7:Int)=3)=False from by simp,show ((7:Int)=4)=False from by simp,show ((7:Int)=5)=False from by simp,↓ah,ao,simprocAttr]<;>
   (refine bK (Pr _ t (Nat.le_refl _) (by omega) dz _ _ ae Aq (hE.ext eX)) ?_
    rintro x aI ⟨rfl,cc⟩
    have lh:=cO.ext cc
    have nO:=eX.trans cc
    cases c:t.may dr with
    | false=>
      simp +contextual only [↓ah,ao,simprocAttr]
      refine ⟨?_,nO⟩
      have:t.free=[]:=by unfold aM.free;rw [c,Bool.and_false];rfl
      rw [this]
      exact bI.nil _ _ _
    | true=>
      have iX:Ext aI (aI.new (.mp [] 0)):=(Ext.refl _).new _
      have ga:Ext (aI.new (.mp [] 0)) ((aI.new (.mp [] 0)).new (.mp [] 0)):=(Ext.refl _).new _
      have S5:=(hR.new V.bool aI).ext ga
      have Kw:=hR.new (V.int .i64) (aI.new (.mp [] 0))
      have oG:=lh.ext iX
      have sx:=oG.ext ga
      have tU:(aI.new (.mp [] 0)).next=aI.next+1:=rfl
      rw [tU] at Kw
      have ba:=hE.zd.ext ((nO.trans iX).trans ga)
      have akV:=ch.lt
      have mC:=nO.next
      generalize aH:(aI.new (.mp [] 0)).new (.mp [] 0)=cf at *
      have ajS:cf.next=aI.next+2:=by rw [←aH];rfl
      simp +contextual only [lh.g,oG.g,aH,tU,r1,tS,aW.opt,↓ah,ao,simprocAttr]
      refine bK (MS t.size (by omega) t (Nat.le_refl _) c [] [] _ (aC (aI.next+1)) (aC aI.next) cf (fun q=>by have:=g' q;omega) (ba.hQ fun b q=>⟨fun z=>by rw [z] at q;unfold Old at q;rw [c6] at q;omega,fun z=>by rw [z] at q;unfold Old at q;rw [c6] at q;omega⟩) ⟨⟨[],Kw,fun s=>rfl⟩,[],S5,rfl⟩ (by simpa using aR)) ?_
      rintro x fp ⟨⟨_,ou,S4,Ao⟩,m6⟩
      simp +contextual only [↓ah,ao,simprocAttr]
      refine bK (ad6 (.map (aC aI.next)) ⟨rfl,rfl,rfl⟩ fp) ?_
      rintro x hF ⟨n,rfl,Eb,p7⟩
      simp +contextual only [↓ah,ao,simprocAttr]
      have G:=MQ t [] lj.nil
      have hlen:=Ge gB ahe t [] []
      have Hn:ou.length=(t.dB gB [] []).length:=by rw [←Ao,List.length_map]
      refine bK (aiv Eb (S4.ext p7) (by rw [Ao];exact G.Iv) (by rw [Hn];simp at hlen;omega) fun s q=>?_) ?_
      · rw [Ao] at q
        rcases MR t [] [] s q with q | ⟨p,aj,rfl⟩
        · cases q
        · exact n_ p aj
      rintro x qb ⟨W,p8⟩
      have ej:=W.one
      simp +contextual only [ej.1,ej.2.1,↓ah,ao,simprocAttr]
      have Zq:t.free=t.dB gq [] []:=by unfold aM.free;rw [c3,c];rfl
      rw [Ao,Rp G.perm G.le] at W
      rw [Zq]
      refine ⟨W,((((nO.trans iX).trans ga).h0 m6 fun b ai=>?_).trans p7).trans p8⟩
      rcases ai with rfl | rfl<;>rw [c6]<;>omega)
 · have iN:qL t.k=false:=by simpa using c3
   have no:¬eu t.k=3∧¬eu t.k=4∧¬eu t.k=5∧¬eu t.k=7:=by
    unfold qL at iN
    simpa [and_assoc] using iN
   obtain ⟨g3,g4,g5,g7⟩:=no
   simp +contextual only [eq_false g3,eq_false g4,eq_false g5,eq_false g7,decide_true,decide_false,↓ah,ao,simprocAttr]
   refine ⟨?_,eX⟩
   have:t.free=[]:=by unfold aM.free;rw [iN];rfl
   rw [this]
   exact bI.nil _ _ _
abbrev z5:List V:=[.int .i64 0,.int .i64 0,.int .i64 0,.str [],.bW]
abbrev u3 (t:aM) (cl:V):List V:=[.int .i64 t.k,.int .i64 t.n,.int .i64 t.a,.str t.s,cl]
set_option maxHeartbeats 4000000 in
theorem Qq:∀N:Nat,(∀(t u:aM),t.size≤N→∀(ad ws:List V) (h:af),bZ Any h t.enc ad→bZ Any h u.enc ws→bB Tryz.prog 22 [.agg ad,.agg ws] h fun x ab=>x=.bool (t.same u)∧Ext h ab)∧
 (∀(l m:List aM),dt l≤N→∀(v w:V) (h:af),bI Any h 5 (l.map aM.enc) v→bI Any h 5 (m.map aM.enc) w→bB Tryz.prog 41 [v,w,.func 22 []] h fun x ab=>x=.bool (iE l m)∧Ext h ab)
 | 0=>by
   refine ⟨fun t u aR=>by have:=mE t;omega,fun l m aR v w h L M=>?_⟩
   have mj:l.length=0:=by have:=l3 l;omega
   obtain rfl:=List.eq_nil_of_length_eq_zero mj
   have ak:=L.len
   have hm:=M.len
   rw [List.length_map] at ak hm
   refine Lr rfl (cR ?_)
   unfold AU
   by_cases aF:m.length=0
   · obtain rfl:=List.eq_nil_of_length_eq_zero aF
     simp +contextual only [ak,hm,decide_true,decide_false,↓ah,ao,simprocAttr]
     refine fD (fun r g=>r 17=.int .i64 0∧r 16=.int .i64 0∧g=h) (fun r g=>0) ?_ ?_
     · exact ⟨by simp only [↓ah,bA,simprocAttr],by simp only [↓ah,bA,simprocAttr]<;>rfl,rfl⟩
     rintro r g ⟨wK,r16,rfl⟩
     unfold E8
     simp +contextual only [r16,wK,show ((0:Int)<0)=False from by simp,↓ah,ao,simprocAttr]
     exact ⟨rfl,Ext.refl _⟩
   · have f0:((0:Int)=(m.length:Int))=False:=eq_false (by omega)
     simp only [List.length_nil,Int.ofNat_zero,Int.natCast_zero] at ak
     simp +contextual only [ak,hm,f0,decide_true,decide_false,↓ah,ao,simprocAttr]
     refine ⟨?_,Ext.refl _⟩
     match m,aF with
     | u::m,_=>rw [iE]
     | [],aF=>exact absurd rfl aF
 | N+1=>by
   obtain ⟨B2,yM⟩:=Qq N
   have H1:∀(t u:aM),t.size≤N+1→∀(ad ws:List V) (h:af),bZ Any h t.enc ad→bZ Any h u.enc ws→bB Tryz.prog 22 [.agg ad,.agg ws] h fun x ab=>x=.bool (t.same u)∧Ext h ab:=by
    intro t u aR ad ws h H cD
    obtain ⟨cl,rfl,L,_⟩:=aM.open H
    obtain ⟨wl,rfl,M,_⟩:=aM.open cD
    have ol:=L.one
    have gX:=M.one
    have b7:=size_eq t
    refine Vz rfl (cR ?_)
    unfold EU
    obtain ⟨aa,al,aB,ch⟩:=fo h (u3 t cl)
    obtain ⟨ae,aq,aO,eh⟩:=fo aa (u3 u wl)
    have cO:=ch.ext aO
    have eX:=aB.trans aO
    rw [Q_]
    by_cases bz:t.k=u.k
    · by_cases bN:t.n=u.n
      · by_cases c3:t.s=u.s
        · simp +contextual only [al,aq,ol.1,ol.2.1,gX.1,gX.2.1,cO.g,eh.g,eq_true bz,eq_true bN,eq_true c3,decide_true,decide_false,Bool.true_and,↓ah,ao,simprocAttr]
          refine bK (yM t.l u.l (by omega) cl wl ae (L.ext eX) (M.ext eX)) ?_
          rintro x aI ⟨rfl,cc⟩
          simp +contextual only [↓ah,ao,simprocAttr]
          exact eX.trans cc
        · simp +contextual only [al,aq,ol.1,ol.2.1,gX.1,gX.2.1,cO.g,eh.g,eq_true bz,eq_true bN,eq_false c3,decide_true,decide_false,Bool.true_and,Bool.false_and,↓ah,ao,simprocAttr]
          exact eX
      · simp +contextual only [al,aq,ol.1,ol.2.1,gX.1,gX.2.1,cO.g,eh.g,eq_true bz,eq_false bN,decide_true,decide_false,Bool.true_and,Bool.false_and,↓ah,ao,simprocAttr]
        exact eX
    · simp +contextual only [al,aq,ol.1,ol.2.1,gX.1,gX.2.1,cO.g,eh.g,eq_false bz,decide_true,decide_false,Bool.true_and,Bool.false_and,↓ah,ao,simprocAttr]
      exact eX
   refine ⟨H1,fun l m aR v w h L M=>?_⟩
   have ak:=L.len
   have hm:=M.len
   have hle:=L.le
   rw [List.length_map] at ak hm hle
   refine Lr rfl (cR ?_)
   unfold AU
   by_cases aF:l.length=m.length
   · have f0:((l.length:Int)=(m.length:Int))=True:=eq_true (by omega)
     simp +contextual only [ak,hm,f0,decide_true,decide_false,↓ah,ao,simprocAttr]
     refine fD (fun r g=>r 1=w∧r 2=.func 22 []∧r 15=v∧r 16=.int .i64 l.length∧∃i:Nat,r 17=.int .i64 i∧i≤l.length∧iE l m=iE (l.drop i) (m.drop i)∧Ext h g) (fun r g=>l.length - (r 17).toN) ?_ ?_
     · exact ⟨by simp only [↓ah,bA,simprocAttr],by simp only [↓ah,bA,simprocAttr],by simp only [↓ah,bA,simprocAttr],by simp only [↓ah,bA,simprocAttr],0,by simp only [↓ah,bA,simprocAttr]<;>rfl,by omega,rfl,Ext.refl h⟩
     rintro r g ⟨bp,bT,sb,r16,i,wK,av,aj,E⟩
     unfold E8
     by_cases aN:i<l.length
     · have g0:((i:Int) < (l.length:Int))=True:=eq_true (by omega)
       obtain ⟨b,off,cl,b_,X,gr,ld⟩:=aM.jV (L.ext E) (k:=.i64) aN
       obtain ⟨cb,wC,wl,iB,Y,KH,mw⟩:=aM.jV (M.ext E) (k:=.i64) (show i<m.length by omega)
       have d1:=ld g (Ext.refl g)
       have ol:=gr.one
       have gX:=KH.one
       have dM:=ik aN (by unfold top at hle;omega)
       obtain ⟨g1,d_,bo,ch⟩:=ja g z5 (u3 l[i] cl)
       obtain ⟨g2,gC,dR,eh⟩:=ja g1 z5 (u3 m[i] wl)
       have d2:=mw g1 bo
       have cO:=ch.ext dR
       have sr:=bo.trans dR
       have bj:=zr (List.getElem_mem aN)
       simp +contextual only [bp,bT,sb,r16,wK,g0,b_,iB,d1,d2,d_,gC,ol.1,ol.2.1,gX.1,gX.2.1,ch.g,cO.g,eh.g,p5,List.cons_append,List.nil_append,show (22=4294967296)=False from by simp,if_false,↓ah,ao,simprocAttr]
       refine bK (H1 l[i] m[i] (by omega) _ _ g2 (X.ext sr) (Y.ext sr)) ?_
       rintro x g3 ⟨rfl,fG⟩
       have aY:=I6 aN (show i<m.length by omega)
       have f_:=E.trans (sr.trans fG)
       cases ai:l[i].same m[i] with
       | true=>
         simp +contextual only [bp,bT,sb,r16,wK,dM,↓ah,ao,simprocAttr]
         refine ⟨⟨i+1,rfl,aN,?_,f_⟩,by omega⟩
         rw [aj,aY,ai,Bool.true_and]
       | false=>
         simp +contextual only [bp,bT,sb,r16,wK,dM,↓ah,ao,simprocAttr]
         refine ⟨?_,f_⟩
         rw [aj,aY,ai,Bool.false_and]
     · have g0:((i:Int) < (l.length:Int))=False:=eq_false (by omega)
       simp +contextual only [bp,bT,sb,r16,wK,g0,↓ah,ao,simprocAttr]
       refine ⟨?_,E⟩
       rw [aj,List.drop_eq_nil_of_le (by omega),List.drop_eq_nil_of_le (by omega),iE]
   · have f0:((l.length:Int)=(m.length:Int))=False:=eq_false (by omega)
     simp +contextual only [ak,hm,f0,decide_true,decide_false,↓ah,ao,simprocAttr]
     refine ⟨?_,Ext.refl _⟩
     cases ai:iE l m with
     | false=>rfl
     | true=>exact absurd (I7 ai) aF
theorem ai' (t u:aM) (ad ws:List V) (h:af) (H:bZ Any h t.enc ad) (cD:bZ Any h u.enc ws):bB Tryz.prog 22 [.agg ad,.agg ws] h fun x ab=>x=.bool (t.same u)∧Ext h ab:=(Qq t.size).1 t u (Nat.le_refl _) ad ws h H cD
set_option maxHeartbeats 4000000 in
theorem Q1:∀(N:Nat) (t u:aM),t.size≤N→∀(ad ws:List V) (h:af),bZ Any h t.enc ad→bZ Any h u.enc ws→bB Tryz.prog 23 [.agg ad,.agg ws] h fun x ab=>x=.bool (t.same u)∧Ext h ab
 | 0,t,u,aR,_,_,_,_,_=>by have:=mE t;omega
 | N+1,t,u,aR,ad,ws,h,H,cD=>by
   obtain ⟨cl,rfl,L,_⟩:=aM.open H
   obtain ⟨wl,rfl,M,_⟩:=aM.open cD
   have ol:=L.one
   have gX:=M.one
   have ak:=L.len
   have hm:=M.len
   have hle:=L.le
   rw [List.length_map] at ak hm hle
   have b7:=size_eq t
   refine VC rfl (cR ?_)
   unfold EV
   obtain ⟨aa,al,aB,ch⟩:=fo h (u3 t cl)
   obtain ⟨ae,aq,aO,eh⟩:=fo aa (u3 u wl)
   have cO:=ch.ext aO
   have eX:=aB.trans aO
   rw [Q_]
   by_cases bz:t.k=u.k
   · by_cases bN:t.n=u.n
     · by_cases c3:t.s=u.s
       · by_cases aF:t.l.length=u.l.length
         · have f0:((t.l.length:Int)=(u.l.length:Int))=True:=eq_true (by omega)
           simp +contextual only [al,aq,ol.1,ol.2.1,gX.1,gX.2.1,cO.g,eh.g,ak,hm,f0,eq_true bz,eq_true bN,eq_true c3,decide_true,decide_false,Bool.true_and,↓ah,ao,simprocAttr]
           refine fD (fun r g=>r 2=.ptr (aC h.next) 0∧r 3=.ptr (aC aa.next) 0∧∃i:Nat,r 5=.int .i64 i∧i≤t.l.length∧iE t.l u.l=iE (t.l.drop i) (u.l.drop i)∧Ext ae g) (fun r g=>t.l.length - (r 5).toN) ?_ ?_
           · exact ⟨by simp only [↓ah,bA,simprocAttr],by simp only [↓ah,bA,simprocAttr],0,by simp only [↓ah,bA,simprocAttr]<;>rfl,by omega,rfl,Ext.refl ae⟩
           rintro r g ⟨bT,bX,i,cu,av,aj,E⟩
           unfold Lk
           have hn:=cO.ext E
           have oI:=eh.ext E
           by_cases aN:i<t.l.length
           · have g0:((i:Int) < (t.l.length:Int))=True:=eq_true (by omega)
             obtain ⟨b,off,alu,b_,X,gr,ld⟩:=aM.jV (L.ext (eX.trans E)) (k:=.i64) aN
             obtain ⟨cb,wC,alw,iB,Y,KH,mw⟩:=aM.jV (M.ext (eX.trans E)) (k:=.i64) (show i<u.l.length by omega)
             have d1:=ld g (Ext.refl g)
             have d2:=mw g (Ext.refl g)
             have dM:=ik aN (by unfold top at hle;omega)
             have bj:=mD (t:=t) (List.getElem_mem aN)
             simp +contextual only [bT,bX,cu,hn.g,oI.g,ak,g0,b_,iB,d1,d2,↓ah,ao,simprocAttr]
             refine bK (Q1 N t.l[i] u.l[i] (by omega) _ _ g X Y) ?_
             rintro x g3 ⟨rfl,fG⟩
             have d13:=ld g3 fG
             have d23:=mw g3 fG
             have w5:=hn.ext fG
             have J8:=oI.ext fG
             have aY:=I6 aN (show i<u.l.length by omega)
             have f_:=E.trans fG
             cases ai:t.l[i].same u.l[i] with
             | true=>
               simp +contextual only [bT,bX,cu,hn.g,oI.g,w5.g,J8.g,ak,g0,b_,iB,d1,d2,d13,d23,dM,↓ah,ao,simprocAttr]
               refine ⟨⟨i+1,rfl,aN,?_,f_⟩,by omega⟩
               rw [aj,aY,ai,Bool.true_and]
             | false=>
               simp +contextual only [bT,bX,cu,hn.g,oI.g,w5.g,J8.g,ak,g0,b_,iB,d1,d2,d13,d23,dM,↓ah,ao,simprocAttr]
               refine ⟨?_,eX.trans f_⟩
               rw [aj,aY,ai,Bool.false_and]
           · have g0:((i:Int) < (t.l.length:Int))=False:=eq_false (by omega)
             simp +contextual only [bT,bX,cu,hn.g,oI.g,ak,g0,↓ah,ao,simprocAttr]
             refine ⟨?_,eX.trans E⟩
             rw [aj,List.drop_eq_nil_of_le (by omega),List.drop_eq_nil_of_le (by omega),iE]
         · have f0:((t.l.length:Int)=(u.l.length:Int))=False:=eq_false (by omega)
           simp +contextual only [al,aq,ol.1,ol.2.1,gX.1,gX.2.1,cO.g,eh.g,ak,hm,f0,eq_true bz,eq_true bN,eq_true c3,decide_true,decide_false,Bool.true_and,↓ah,ao,simprocAttr]
           refine ⟨?_,eX⟩
           cases ai:iE t.l u.l with
           | false=>rfl
           | true=>exact absurd (I7 ai) aF
       · simp +contextual only [al,aq,ol.1,ol.2.1,gX.1,gX.2.1,cO.g,eh.g,eq_true bz,eq_true bN,eq_false c3,decide_true,decide_false,Bool.true_and,Bool.false_and,↓ah,ao,simprocAttr]
         exact eX
     · simp +contextual only [al,aq,ol.1,ol.2.1,gX.1,gX.2.1,cO.g,eh.g,eq_true bz,eq_false bN,decide_true,decide_false,Bool.true_and,Bool.false_and,↓ah,ao,simprocAttr]
       exact eX
   · simp +contextual only [al,aq,ol.1,ol.2.1,gX.1,gX.2.1,cO.g,eh.g,eq_false bz,decide_true,decide_false,Bool.true_and,Bool.false_and,↓ah,ao,simprocAttr]
     exact eX
end Go.Proofs.YtkehcalakofigaaGreatDoor
