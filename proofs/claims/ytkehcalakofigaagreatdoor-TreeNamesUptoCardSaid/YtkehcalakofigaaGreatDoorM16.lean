/- The chapter's functions, walked by the abstract machine: plain lemmas, no condition. Printed by a program from longer texts: names made short. -/
import Derived.Test.YtkehcalakofigaaGreatDoorM10
import Derived.Test.YtkehcalakofigaaGreatDoorM15
import Derived.Test.YtkehcalakofigaaGreatDoorM14
import Derived.Test.YtkehcalakofigaaGreatDoorM6
import Derived.Test.YtkehcalakofigaaGreatDoorM4
set_option linter.unusedSectionVars false
set_option linter.unusedSimpArgs false
set_option linter.unusedVariables false
namespace Go.Proofs.YtkehcalakofigaaGreatDoor
open Go aS
mutual
def aM.plain:aM→aM
 | .mk k n a s l=>.mk k n 0 s (CV l)
def CV:List aM→List aM
 | []=>[]
 | t::l=>t.plain::CV l
end
theorem Qm:∀l:List aM,CV l=l.map aM.plain
 | []=>rfl
 | t::l=>by rw [CV,Qm l,List.map_cons]
theorem pw (t:aM):t.plain=.mk t.k t.n 0 t.s (t.l.map aM.plain):=by cases t;rw [aM.plain,Qm];rfl
section
variable [Lay]
inductive eW (h:af):(aQ→Prop)→List aM→V→Prop
 | mk {S:aQ→Prop} {l:List aM} {v:V} (us:List (List V)) (ws:Nat→V) (iL:Nat→aQ→Prop) (o:dx 0 h 5 v l.length us.flatten) (hu:us.length=l.length) (aX:l.length≤top)
    (cells:∀(i:Nat) (t:aM),l[i]? =some t→us[i]? =some [.int .i64 t.k,.int .i64 t.n,.int .i64 t.a,.str t.s,ws i]∧t.s.length≤top)
    (kids:∀(i:Nat) (t:aM),l[i]? =some t→eW h (iL i) t.l (ws i)) (bs:∀b,v.a7 b→S b) (dD:∀(i:Nat) (b:aQ),i<l.length→iL i b→S b∧¬v.a7 b)
    (apart:∀(i j:Nat) (b:aQ),i<l.length→j<l.length→i≠j→iL i b→¬iL j b):eW h S l v
variable {h ab:af} {S:aQ→Prop} {l:List aM} {v:V}
theorem eW.nil (h:af) (S:aQ→Prop):eW h S [] .bW:=
 .mk [] (fun _=>.bW) (fun _ _=>False) ⟨by simp,rfl⟩ rfl (Nat.zero_le _) (fun i t q=>by simp at q) (fun i t q=>by simp at q) (fun b q=>q.elim) (fun i b q=>absurd q (Nat.not_lt_zero _)) (fun i j b q=>absurd q (Nat.not_lt_zero _))
theorem eW.mod {M:aQ→Prop} (H:eW h S l v) (m:Mod M h ab) (c1:∀b,S b→¬M b):eW ab S l v:=by
 induction H with
 | mk us ws iL o hu aX cells kids bs dD apart bg=>
   exact .mk us ws iL (o.mod m fun b q=>c1 b (bs b q)) hu aX cells (fun i t q=>bg i t q fun b z=>c1 b (dD i b (by obtain ⟨al,_⟩:=List.getElem?_eq_some_iff.1 q;exact al) z).1) bs dD apart
theorem eW.ext (H:eW h S l v) (e:Ext h ab):eW ab S l v:=by
 induction H with
 | mk us ws iL o hu aX cells kids bs dD apart bg=>exact .mk us ws iL (o.ext e) hu aX cells bg bs dD apart
theorem eW.hQ {Au:aQ→Prop} (H:eW h S l v) (w:∀b,S b→Au b):eW h Au l v:=by
 cases H with
 | mk us ws iL o hu aX cells kids bs dD apart=>exact .mk us ws iL o hu aX cells kids (fun b q=>w b (bs b q)) (fun i b q z=>⟨w b (dD i b q z).1,(dD i b q z).2⟩) apart
theorem eW.eC {F:aQ→Prop} (H:eW h S l v) (w:∀b,S b→F b):bI F h 5 (l.map aM.enc) v:=by
 induction H with
 | mk us ws iL o hu aX cells kids bs dD apart bg=>
   refine ⟨o.room,by rw [List.length_map];exact aX,⟨us,by rw [List.length_map];exact o.v,by rw [List.length_map];exact hu,fun u q=>?_,fun i e u al aq=>?_⟩,fun b q=>w b (bs b q)⟩
   · obtain ⟨i,av,rfl⟩:=List.getElem_of_mem q
     have:=(cells i _ (List.getElem?_eq_getElem (by omega))).1
     rw [List.getElem?_eq_getElem av] at this
     rw [Option.some.inj this];rfl
   · rw [List.getElem?_map] at al
     cases aG:(_:List aM)[i]? with
     | none=>rw [aG] at al;cases al
     | some t=>
       rw [aG] at al
       simp only [Option.map_some,Option.some.injEq] at al
       subst al
       obtain ⟨bz,bN⟩:=cells i t aG
       rw [bz] at aq
       cases aq
       rw [wI]
       have av:i<_:=(List.getElem?_eq_some_iff.1 aG).1
       exact .i (.i (.i (.s bN ((bg i t aG fun b z=>w b (dD i b av z).1).cons .nil))))
theorem eW.one (H:eW h S l v):v.one=true∧v.cells=[v]∧v.e5=true:=by
 cases H with
 | mk us ws iL o hu aX cells kids bs dD apart=>exact o.v.one
theorem eW.len (H:eW h S l v):jn v=some (.int .i64 l.length):=by
 cases H with
 | mk us ws iL o hu aX cells kids bs dD apart=>exact o.v.len
theorem eW.bs (H:eW h S l v):∀b,v.a7 b→S b:=by
 cases H with
 | mk us ws iL o hu aX cells kids bs dD apart=>exact bs
theorem eW.add {T:aQ→Prop} {t:aM} {u:V} (H:eW h S l v) (E:eW h T t.l u) (BB:∀b,S b→¬T b) (nV:∀b,S b→Old h b) (vw:∀b,T b→Old h b) (hlen:(l.length+1) * 5≤top) (aR:t.s.length≤top):
 ∃cG ab,kH 5 v (.slice (aC h.next) 0 1 1) (h.new (.bh [.int .i64 t.k,.int .i64 t.n,.int .i64 t.a,.str t.s,u] 0 false))=.val cG ab∧eW ab (fun b=>S b∨T b∨(h.next≤cd b∧cd b<ab.next)) (l++[t]) cG∧Mod v.a7 h ab∧h.next+1≤ab.next:=by
 have tY:=E.one
 cases H with
 | mk us ws iL o hu aX cells kids bs dD apart=>
   obtain ⟨cG,ab,al,aq,aK,bG,di⟩:=sI (cs:=[.int .i64 t.k,.int .i64 t.n,.int .i64 t.a,.str t.s,u]) (by omega) o (Nat.zero_le _) hlen rfl (by simp only [eg,PW,IL,tY.1,Bool.and_self,Bool.and_true])
   have N_:∀b,cG.a7 b→¬v.a7 b→¬Old h b:=fun b z z2=>by
    rcases di b z with z | z
    · exact absurd z z2
    · unfold Old;omega
   have snoc:∀(i:Nat) (s:aM),(l++[t])[i]? =some s→(i<l.length∧l[i]? =some s)∨(i=l.length∧s=t):=fun i s q=>Br q
   refine ⟨cG,ab,al,.mk (us++[[.int .i64 t.k,.int .i64 t.n,.int .i64 t.a,.str t.s,u]]) (fun i=>if i<l.length then ws i else u) (fun i=>if i<l.length then iL i else T) ?_ (by simp [hu]) (by rw [List.length_append,List.length_singleton];omega) (fun i s q=>?_) (fun i s q=>?_) (fun b z=>?_) (fun i b av z=>?_) (fun i j b av bH lK z=>?_),aK,bG⟩
   · rw [List.length_append,List.length_singleton,List.flatten_append]
     simpa using aq
   · rcases snoc i s q with ⟨aa,ae⟩ | ⟨aa,rfl⟩
     · rw [if_pos aa,List.getElem?_append_left (by omega)]
       exact cells i s ae
     · subst aa
       rw [if_neg (by omega),List.getElem?_append_right (by omega),hu,Nat.sub_self]
       exact ⟨rfl,aR⟩
   · rcases snoc i s q with ⟨aa,ae⟩ | ⟨aa,rfl⟩
     · simp only [if_pos aa]
       exact (kids i s ae).mod aK fun b z=>(dD i b aa z).2
     · subst aa
       simp only [Nat.lt_irrefl,if_false]
       exact E.mod aK fun b z z2=>BB b (bs b z2) z
   · have aU:=aq.v.b0 z
     rcases di b z with z | z
     · exact .inl (bs b z)
     · exact .inr (.inr (by unfold Old at aU;omega))
   · by_cases aa:i<l.length
     · rw [if_pos aa] at z
       obtain ⟨a,c⟩:=dD i b aa z
       exact ⟨.inl a,fun z2=>N_ b z2 c (nV b a)⟩
     · rw [if_neg aa] at z
       exact ⟨.inr (.inl z),fun z2=>N_ b z2 (fun z3=>BB b (bs b z3) z) (vw b z)⟩
   · rw [List.length_append,List.length_singleton] at av bH
     by_cases aa:i<l.length
     · rw [if_pos aa] at z
       by_cases ae:j<l.length
       · rw [if_pos ae]
         exact apart i j b aa ae lK z
       · rw [if_neg ae]
         exact BB b (dD i b aa z).1
     · rw [if_neg aa] at z
       rw [if_pos (by omega)]
       exact fun z2=>BB b (dD j b (by omega) z2).1 z
end
def i_ (a b:Nat) (p:aQ):Prop:=a≤cd p∧cd p<b
set_option maxHeartbeats 2000000 in
theorem Qg:∀(N:Nat) (t:aM),t.size≤N→N≤1000000000→∀(ad:List V) (h:af),bZ Any h t.enc ad→bB Tryz.prog 19 [.agg ad] h fun x ab=>∃w,x=.agg [.int .i64 t.k,.int .i64 t.n,.int .i64 0,.str t.s,w]∧eW ab (i_ h.next ab.next) (t.l.map aM.plain) w∧Ext h ab
 | 0,t,aR,_,_,_,_=>by have:=mE t;omega
 | N+1,t,aR,vv,ad,h,H=>by
   obtain ⟨cl,rfl,L,_⟩:=aM.open H
   have bD:N≤1000000000:=by omega
   have ol:=L.one
   have ak:=L.len
   have hle:=L.le
   rw [List.length_map] at ak hle
   have b7:=size_eq t
   have hX:=l3 t.l
   refine Vq rfl (cR ?_)
   unfold ES
   obtain ⟨aa,al,aB,ch⟩:=fo h [.int .i64 t.k,.int .i64 t.n,.int .i64 t.a,.str t.s,cl]
   obtain ⟨ae,aq,aO,xn⟩:=fo aa [.int .i64 0,.int .i64 0,.int .i64 0,.str [],.bW]
   obtain ⟨aI,aK,cc,KA⟩:=ja ae [.int .i64 0,.int .i64 0,.int .i64 0,.str [],.bW] [.int .i64 t.k,.int .i64 t.n,.int .i64 0,.str t.s,.bW]
   have cO:=ch.ext aO
   have lh:=cO.ext cc
   have Tf:=xn.ext cc
   have dc:=aB.next
   have hJ:=aO.next
   have bM:=ch.lt
   have bT:=xn.lt
   have r6:=KA.lt
   simp +contextual only [ol.1,ol.2.1,al,aq,aK,ch.g,cO.g,lh.g,ak,↓ah,ao,simprocAttr]
   refine fD (fun r g=>r 2=.ptr (aC aa.next) 0∧r 3=.ptr (aC ae.next) 0∧r 14=cl∧r 15=.int .i64 t.l.length∧∃(i:Nat) (w:V),r 16=.int .i64 i∧i≤t.l.length∧Has g aa.next [.int .i64 0,.int .i64 0,.int .i64 0,.str [],.bW]∧Has g ae.next [.int .i64 t.k,.int .i64 t.n,.int .i64 0,.str t.s,w]∧
    eW g (i_ aI.next g.next) ((t.l.take i).map aM.plain) w∧Ext h g∧aI.next≤g.next) (fun r g=>t.l.length - (r 16).toN) ?_ ?_
   · exact ⟨by simp only [↓ah,bA,simprocAttr],by simp only [↓ah,bA,simprocAttr],by simp only [↓ah,bA,simprocAttr],by simp only [↓ah,bA,simprocAttr],0,.bW,by simp only [↓ah,bA,simprocAttr]<;>rfl,by omega,Tf,KA,eW.nil _ _,(aB.trans aO).trans cc,Nat.le_refl _⟩
   rintro r g ⟨zt,I_,uc,sb,i,w,r16,av,R,O,W,E,aH⟩
   unfold Li
   by_cases aN:i<t.l.length
   · have g0:((i:Int) < (t.l.length:Int))=True:=eq_true (by omega)
     obtain ⟨b,off,wl,b_,X,gr,ld⟩:=aM.jV (L.ext E) (k:=.i64) aN
     have h7:=ld g (Ext.refl g)
     have ej:=gr.one
     have dM:=ik aN (by unfold top at hle;omega)
     have NH:=mD (t:=t) (List.getElem_mem aN)
     obtain ⟨g1,d_,bo,Z⟩:=ja g [.int .i64 0,.int .i64 0,.int .i64 0,.str [],.bW] [.int .i64 t.l[i].k,.int .i64 t.l[i].n,.int .i64 t.l[i].a,.str t.l[i].s,wl]
     have rk:=O.ext bo
     have Dw:=W.one
     simp +contextual only [zt,I_,uc,sb,r16,g0,b_,h7,d_,Z.g,O.g,rk.g,ej.1,ej.2.1,Dw.1,Dw.2.1,↓ah,ao,simprocAttr]
     refine bK (Qg N t.l[i] (by omega) bD _ g1 (X.ext bo)) ?_
     rintro x g2 ⟨u,rfl,U,dR⟩
     have w2:=bo.trans dR
     have Kz:=O.ext w2
     have Te:=R.ext w2
     have alK:=Z.lt
     have mC:=bo.next
     have qK:=dR.next
     have tY:=U.one
     have hi:t.l[i].s.length≤top:=by obtain ⟨_,_,_,q⟩:=aM.open X;exact q
     have lQ:(t.l[i].plain).s=t.l[i].s:=by rw [pw];rfl
     have abL:(t.l[i].plain).l=t.l[i].l.map aM.plain:=by rw [pw];rfl
     obtain ⟨ar,g3,b1,cg,cZ,fX⟩:=(W.ext w2).add (t:=t.l[i].plain) (T:=i_ g1.next g2.next) (u:=u) (by rw [abL];exact U) (fun b q z=>by unfold i_ at q z;omega) (fun b q=>by unfold i_ at q;unfold Old;omega) (fun b q=>by unfold i_ at q;unfold Old;omega) (by rw [List.length_map,List.length_take];unfold top;omega) (by rw [lQ];exact hi)
     rw [show (t.l[i].plain).k=t.l[i].k from by rw [pw];rfl,show (t.l[i].plain).n=t.l[i].n from by rw [pw];rfl,show (t.l[i].plain).a=0 from by rw [pw];rfl,lQ] at b1
     have NU:∀n,n<aI.next→¬w.a7 (aC n):=fun n aX q=>by have:=W.bs _ q;unfold i_ at this;rw [c6] at this;omega
     have KB:=Kz.mod cZ (NU _ r6)
     have Tg:=Te.mod cZ (NU _ (by omega))
     have P5:=cg.one
     have f_:Ext h g3:=(E.trans w2).h0 cZ fun b q=>by have:=W.bs _ q;unfold i_ at this;have:=aB.next;have:=cc.next;omega
     have f1:(g2.next=ae.next)=False:=eq_false (by omega)
     have f2:(ae.next=g2.next)=False:=eq_false (by omega)
     simp +contextual only [f1,f2,if_false,zt,I_,uc,sb,r16,Z.g,O.g,rk.g,Kz.g,KB.g,tY.1,tY.2.1,Dw.1,Dw.2.1,P5.1,P5.2.1,b1,dM,↓ah,ao,simprocAttr]
     refine ⟨⟨i+1,ar,rfl,aN,Tg.set (by omega) _,KB.put _,?_,f_.set (by omega) _,by omega⟩,by omega⟩
     rw [take_one aN,List.map_append]
     refine (cg.hQ fun b q=>?_).mod ((Mod.refl (fun x=>x=aC ae.next) g3).set (fun _=>rfl) _) fun b q z=>?_
     · unfold i_ at q ⊢;have:=cZ.next;omega
     · rw [show b=aC ae.next from z] at q;unfold i_ at q;rw [c6] at q;omega
   · have g0:((i:Int) < (t.l.length:Int))=False:=eq_false (by omega)
     rw [List.take_of_length_le (by omega)] at W
     have ej:=W.one
     have f1:(aa.next=ae.next)=False:=eq_false (by omega)
     have f2:(ae.next=aa.next)=False:=eq_false (by omega)
     simp +contextual only [zt,I_,uc,sb,r16,g0,R.g,O.g,ej.1,ej.2.1,f1,f2,↓ah,ao,simprocAttr]
     refine ⟨_,rfl,(W.mod ((Mod.refl (fun x=>x=aC aa.next) g).set (fun _=>rfl) _) fun b q z=>?_).hQ fun b q=>?_,E.set (by omega) _⟩
     · rw [show b=aC aa.next from z] at q;unfold i_ at q;rw [c6] at q;omega
     · unfold i_ at q ⊢;have:=aB.next;have:=cc.next;exact ⟨by omega,q.2⟩
end Go.Proofs.YtkehcalakofigaaGreatDoor
namespace Go.Proofs.YtkehcalakofigaaGreatDoor
open Go aS
set_option maxHeartbeats 4000000 in
theorem Q0:∀(N:Nat) (t:aM),t.size≤N→N≤1000000000→∀(ad:List V) (h:af),bZ Any h t.enc ad→bB Tryz.prog 21 [.agg ad] h fun x ab=>(∃w,x=.agg [.int .i64 t.k,.int .i64 t.n,.int .i64 0,.str t.s,w]∧bI (jG h) ab 5 (t.l.map fun u=>u.plain.enc) w)∧Ext h ab
 | 0,t,aR,_,_,_,_=>by have:=mE t;omega
 | N+1,t,aR,vv,ad,h,H=>by
   obtain ⟨cl,rfl,L,hi⟩:=aM.open H
   have bD:N≤1000000000:=by omega
   have ol:=L.one
   have ak:=L.len
   have hle:=L.le
   rw [List.length_map] at ak hle
   have b7:=size_eq t
   have hX:=l3 t.l
   refine Vw rfl (cR ?_)
   unfold c21
   obtain ⟨aa,al,aB,ch⟩:=fo h [.int .i64 t.k,.int .i64 t.n,.int .i64 t.a,.str t.s,cl]
   obtain ⟨ae,aq,aO,xn⟩:=fo aa [.int .i64 0,.int .i64 0,.int .i64 0,.str [],.bW]
   have cO:=ch.ext aO
   have dc:=aB.next
   have hJ:=aO.next
   have bM:=ch.lt
   have zt:=xn.lt
   simp +contextual only [ol.1,ol.2.1,al,aq,↓ah,ao,simprocAttr]
   refine fD (fun r g=>r 1=.ptr (aC h.next) 0∧r 2=.ptr (aC aa.next) 0∧∃(i:Nat) (w:V),r 3=w∧r 4=.int .i64 i∧i≤t.l.length∧im ae.next (jG ae) g 5 ((t.l.take i).map fun u=>u.plain.enc) w∧Ext ae g) (fun r g=>t.l.length - (r 4).toN) ?_ ?_
   · exact ⟨by simp only [↓ah,bA,simprocAttr],by simp only [↓ah,bA,simprocAttr],0,.bW,by simp only [↓ah,bA,simprocAttr],by simp only [↓ah,bA,simprocAttr]<;>rfl,by omega,im.nil _ _ _ _,Ext.refl _⟩
   rintro r g ⟨bp,bT,i,w,bX,ew,av,W,E⟩
   unfold Lj
   have hn:=cO.ext E
   have Ti:=xn.ext E
   have mO:=L.ext ((aB.trans aO).trans E)
   have tU:=E.next
   have ej:=W.one
   by_cases aN:i<t.l.length
   · have g0:((i:Int) < (t.l.length:Int))=True:=eq_true (by omega)
     obtain ⟨b,off,wl,b_,X,gr,ld⟩:=aM.jV mO (k:=.i64) aN
     have d1:=ld g (Ext.refl g)
     have dM:=ik aN (by unfold top at hle;omega)
     have bj:=mD (t:=t) (List.getElem_mem aN)
     obtain ⟨_,_,_,qy⟩:=aM.open X
     simp +contextual only [bp,bT,bX,ew,hn.g,ak,g0,b_,d1,↓ah,ao,simprocAttr]
     refine bK (Q0 N t.l[i] (by omega) bD _ g X) ?_
     rintro x g2 ⟨⟨u,rfl,U⟩,dR⟩
     have tY:=U.one
     have qK:=dR.next
     have Tw:=W.ext dR
     have Tt:bZ (fun b=>jG ae b∧¬w.a7 b) g2 (t.l[i].plain).enc [.int .i64 t.l[i].k,.int .i64 t.l[i].n,.int .i64 0,.str t.l[i].s,u]:=by
      rw [pw,wI]
      simp only [aM.k,aM.n,aM.a,aM.s,aM.l,List.map_map]
      refine .i (.i (.i (.s qy ((U.hQ fun b q=>?_).cons .nil))))
      refine ⟨?_,fun z=>?_⟩
      · unfold jG at q ⊢;omega
      · have:=W.tX z;unfold jG at q;unfold Old at this;omega
     obtain ⟨cG,g3,b1,cg,cZ,fX,iV⟩:=Tw.add Tt (by omega) (by omega) (by rw [List.length_map,List.length_take];unfold top;omega) rfl
     have l1:=cg.one
     have f_:Ext ae g3:=(E.trans dR).h0 cZ fun b q=>W.base q
     simp +contextual only [bp,bT,bX,ew,tY.1,tY.2.1,b1,l1.1,l1.2.1,dM,↓ah,ao,simprocAttr]
     refine ⟨⟨i+1,rfl,aN,?_,f_⟩,by omega⟩
     rw [take_one aN,List.map_append]
     exact cg
   · have g0:((i:Int) < (t.l.length:Int))=False:=eq_false (by omega)
     rw [List.take_of_length_le (by omega)] at W
     have f1:(aa.next=h.next)=False:=eq_false (by omega)
     have f2:(h.next=aa.next)=False:=eq_false (by omega)
     simp +contextual only [bp,bT,bX,ew,hn.g,Ti.g,ak,g0,ej.1,ej.2.1,ej.2.2,f1,f2,↓ah,ao,simprocAttr]
     have fQ:=(aB.trans aO).trans E
     refine ⟨⟨_,rfl,?_⟩,fQ.set (by omega) _⟩
     have m:aS.Mod (fun b=>b=aC aa.next) g (g.set (aC aa.next) (b3.bh [.int .i64 t.k,.int .i64 t.n,.int .i64 0,.str t.s,w] 0 false)):=(Mod.refl (fun b=>b=aC aa.next) g).set (fun _=>rfl) _
     refine (W.eC (F:=jG ae) (by rw [List.length_map];exact hle) (fun b q=>q) fun b q=>q).mod m fun b q _=>⟨fun z=>?_,?_⟩
     · unfold jG at q;rw [show b=aC aa.next from z,c6] at q;omega
     · unfold jG at q ⊢;omega
theorem RA (l m:List Nm) (v w:V) (h:af) (L:bI Any h 1 (l.map aS.encS) v) (M:bI Any h 1 (m.map aS.encS) w):bB Tryz.prog 24 [v,w] h fun x ab=>x=.bool (decide (l=m))∧ab=h:=by
 have ak:=L.len
 have hm:=M.len
 have hle:=L.le
 rw [List.length_map] at ak hm hle
 refine VF rfl (cR ?_)
 unfold EW
 by_cases aF:l.length=m.length
 · have f0:((l.length:Int)=(m.length:Int))=True:=eq_true (by omega)
   simp +contextual only [ak,hm,f0,decide_true,decide_false,↓ah,ao,simprocAttr]
   refine fD (fun r g=>r 0=v∧r 1=w∧g=h∧∃i:Nat,r 5=.int .i64 i∧i≤l.length∧(l=m↔l.drop i=m.drop i)) (fun r g=>l.length - (r 5).toN) ?_ ?_
   · exact ⟨by simp only [↓ah,bA,simprocAttr],by simp only [↓ah,bA,simprocAttr],rfl,0,by simp only [↓ah,bA,simprocAttr]<;>rfl,by omega,by simp⟩
   rintro r g ⟨bF,bp,rfl,i,cu,av,aj⟩
   unfold Ll
   by_cases aN:i<l.length
   · have g0:((i:Int) < (l.length:Int))=True:=eq_true (by omega)
     have vI:i<m.length:=by omega
     obtain ⟨b,off,b_,aR,ld⟩:=bI.JI L (k:=.i64) aN
     obtain ⟨cb,wC,iB,akL,mw⟩:=bI.JI M (k:=.i64) vI
     have d1:=ld g (Ext.refl g)
     have d2:=mw g (Ext.refl g)
     have dM:=ik aN (by unfold top at hle;omega)
     have td:l.drop i=l[i]::l.drop (i+1):=List.drop_eq_getElem_cons aN
     have te:m.drop i=m[i]::m.drop (i+1):=List.drop_eq_getElem_cons vI
     by_cases c:l[i]=m[i]
     · simp +contextual only [bF,bp,cu,ak,g0,b_,iB,d1,d2,eq_true c,decide_true,dM,↓ah,ao,simprocAttr]
       refine ⟨⟨i+1,rfl,aN,?_⟩,by omega⟩
       rw [aj,td,te,c,List.cons.injEq];simp
     · simp +contextual only [bF,bp,cu,ak,g0,b_,iB,d1,d2,eq_false c,decide_false,dM,↓ah,ao,simprocAttr]
       rw [decide_eq_false (fun q=>c (by have:=aj.1 q;rw [td,te,List.cons.injEq] at this;exact this.1))]
   · have g0:((i:Int) < (l.length:Int))=False:=eq_false (by omega)
     have:l=m:=aj.2 (by rw [List.drop_eq_nil_of_le (by omega),List.drop_eq_nil_of_le (by omega)])
     simp +contextual only [bF,bp,cu,ak,g0,↓ah,ao,simprocAttr]
     rw [decide_eq_true this]
 · have f0:((l.length:Int)=(m.length:Int))=False:=eq_false (by omega)
   simp +contextual only [ak,hm,f0,decide_true,decide_false,↓ah,ao,simprocAttr]
   rw [decide_eq_false (fun q=>aF (by rw [q]))]
theorem ZE {size:Nat} (us:List (List V)) (i:Nat) (u:List V) (av:i<us.length) (hu:u.length=size) (h:∀w ∈ us,w.length=size):gp us.flatten (i * size) u=(us.set i u).flatten:=by
 unfold gp
 rw [List.set_eq_take_append_cons_drop,if_pos av,List.flatten_append,List.flatten_cons,Gb _ _ h,Ga _ _ h,hu,List.append_assoc,show (i+1) * size=i * size+size from Nat.succ_mul _ _]
abbrev IU:aM:=.mk 77 0 0 [] []
abbrev u5:List V:=[.int .i64 77,.int .i64 0,.int .i64 0,.str [],.bW]
section
variable [Lay]
theorem eW.over {h:af} {S:aQ→Prop} {l:List aM} {v:V} (H:eW h S l v) {i:Nat} (av:i<l.length):
 ∃(T:aQ→Prop) (w:V) (b:aQ) (off:Nat),eW h T l[i].l w∧(∀x,T x→S x)∧hY 5 v (.int .i64 i)=some (.ptr b (off+i * 5))∧hj (h.get b) (off+i * 5+4)=some w∧
  ∀aa,Mod T h aa→∃ae,oC 5 aa (.ptr b (off+i * 5)) (.agg u5)=some ae∧eW ae S (l.set i IU) v∧Mod v.a7 aa ae:=by
 cases H with
 | mk us ws iL o hu aX cells kids bs dD apart=>
   obtain ⟨bz,bN⟩:=cells i l[i] (List.getElem?_eq_getElem av)
   have bj:∀u ∈ us,u.length=5:=fun u q=>by
    obtain ⟨j,bH,rfl⟩:=List.getElem_of_mem q
    have:=(cells j l[j] (List.getElem?_eq_getElem (by omega))).1
    rw [List.getElem?_eq_getElem bH] at this
    rw [Option.some.inj this];rfl
   have hf:=Bk us bj
   obtain ⟨b,off,aB,aO⟩:=o.v.b_ (k:=.i64) av
   have yd:i<us.length:=by omega
   refine ⟨iL i,ws i,b,off,kids i _ (List.getElem?_eq_getElem av),fun x q=>(dD i x av q).1,aB,?_,fun aa m=>?_⟩
   · have:=aO.gl (i:=i * 5+4) (by rw [hf];omega)
     rw [Nat.add_assoc,this]
     have aA:=F_ us i _ bj bz
     have:us.flatten[i * 5+4]? =(((us.flatten.drop (i * 5)).take 5)[4]?):=by rw [List.getElem?_take_of_lt (by omega),List.getElem?_drop]
     rw [←List.getElem?_eq_getElem,this,aA]
     rfl
   · have c_:dx 0 aa 5 v l.length us.flatten:=o.mod m fun x q z=>(dD i x av z).2 q
     obtain ⟨bJ,j0,ae,f1,f2,f3,f4,f5⟩:=c_.put (i:=i) av (k:=.i64) (y:=.agg u5) rfl rfl
     have ai:V.ptr b (off+i * 5)=.ptr bJ (j0+i * 5):=Option.some.inj (aB.symm.trans f1)
     refine ⟨ae,by rw [ai];exact f3,?_,f5⟩
     have sp:gp us.flatten (i * 5) (V.agg u5).cells=(us.set i u5).flatten:=ZE us i u5 yd rfl bj
     rw [sp] at f4
     refine .mk (us.set i u5) (fun j=>if j=i then .bW else ws j) iL (by rw [List.length_set];exact f4) (by rw [List.length_set,List.length_set];exact hu) (by rw [List.length_set];exact aX) (fun j t q=>?_) (fun j t q=>?_) bs (fun j x q=>dD j x (by rw [List.length_set] at q;exact q)) (fun j k x al aq=>apart j k x (by rw [List.length_set] at al;exact al) (by rw [List.length_set] at aq;exact aq))
     · by_cases o_:j=i
       · subst o_
         rw [List.getElem?_set_self av] at q
         cases q
         rw [if_pos rfl,List.getElem?_set_self yd]
         exact ⟨rfl,Nat.zero_le _⟩
       · rw [List.getElem?_set_ne (fun z=>o_ z.symm)] at q ⊢
         rw [if_neg o_]
         exact cells j t q
     · by_cases o_:j=i
       · subst o_
         rw [List.getElem?_set_self av] at q
         cases q
         rw [if_pos rfl]
         exact eW.nil _ _
       · rw [List.getElem?_set_ne (fun z=>o_ z.symm)] at q
         rw [if_neg o_]
         have bH:j<l.length:=(List.getElem?_eq_some_iff.1 q).1
         exact ((kids j t q).mod m fun x z z2=>apart j i x bH av o_ z z2).mod f5 fun x z z2=>(dD j x bH z).2 z2
end
theorem Qr:∀(l:List aM) (i:Nat),dt (l.set i IU)≤dt l
 | [],_=>by simp
 | t::l,0=>by rw [List.set_cons_zero,dt,dt];have:=mE t;simp only [aM.size,dt];omega
 | t::l,i+1=>by rw [List.set_cons_succ,dt,dt];have:=Qr l i;omega
set_option maxHeartbeats 2000000 in
theorem P3:∀(N:Nat) (l:List aM),dt l≤N→∀(S:aQ→Prop) (v:V) (h:af),eW h S l v→bB Tryz.prog 29 [v] h fun x ab=>Mod S h ab
 | N,l,aR,S,v,h,H=>by
   have hle:l.length≤top:=by cases H;assumption
   refine VU rfl (cR ?_)
   unfold kK
   simp +contextual only [↓ah,ao,simprocAttr]
   refine fD (fun r g=>r 0=v∧∃(i:Nat) (dL:List aM),r 2=.int .i64 i∧i≤l.length∧dL.length=l.length∧dt dL≤N∧eW g S dL v∧Mod S h g) (fun r g=>l.length - (r 2).toN) ?_ ?_
   · exact ⟨by simp only [↓ah,bA,simprocAttr],0,l,by simp only [↓ah,bA,simprocAttr]<;>rfl,by omega,rfl,aR,H,Mod.refl _ _⟩
   rintro r g ⟨bF,i,dL,bT,av,eA,gT,W,E⟩
   unfold Ln
   have ak:=W.len
   rw [eA] at ak
   by_cases aN:i<l.length
   · have g0:((i:Int) < (l.length:Int))=True:=eq_true (by omega)
     have lM:i<dL.length:=by omega
     obtain ⟨T,w,b,off,K,dH,b_,ld,st⟩:=W.over lM
     have dM:=ik aN (by unfold top at hle;omega)
     have bj:=I8 lM
     simp +contextual only [bF,bT,ak,g0,b_,ld,↓ah,ao,simprocAttr]
     match N,gT with
     | 0,gT=>omega
     | N+1,gT=>
     refine bK (P3 N dL[i].l (by omega) T w g K) ?_
     rintro x g2 m
     obtain ⟨g3,s1,s2,ky⟩:=st g2 m
     have ah1:wg 5 g2 b (off+i * 5) (.agg [.int .i64 77,.int .i64 0,.int .i64 0,.str [],.bW]) (g2.get b)=some g3:=s1
     simp +contextual only [bF,bT,b_,ah1,dM,↓ah,ao,simprocAttr]
     refine ⟨⟨i+1,dL.set i IU,rfl,aN,by rw [List.length_set];exact eA,Nat.le_trans (Qr dL i) gT,s2,?_⟩,by omega⟩
     exact E.trans ((m.mono fun x _ q=>dH x q).trans (ky.mono fun x _ q=>s2.bs x q))
   · have g0:((i:Int) < (l.length:Int))=False:=eq_false (by omega)
     simp +contextual only [bF,bT,ak,g0,↓ah,ao,simprocAttr]
     exact E
end Go.Proofs.YtkehcalakofigaaGreatDoor
namespace Go.Proofs.YtkehcalakofigaaGreatDoor
open Go aS Go.RowKit
set_option maxRecDepth 100000 in
theorem Ui:JS ctx 100000 9 []=true:=by kernel_rfl
theorem Uh (h:af):eM Tryz.prog 9 [] h (.bool true) h:=
 Yn (by kernel_rfl) (fun E x q=>by subst q;simp [Rel]) ⟨_,Tryz.func9,by kernel_rfl⟩ (fun w hw=>ai8 (C:=ctx) follows cP hw I5 (by kernel_rfl) (by kernel_rfl) Ui) h
theorem K0 (h:af):bB Tryz.prog 9 [] h fun x ab=>x=.bool true∧ab=h:=⟨_,_,Uh h,rfl,rfl⟩
end Go.Proofs.YtkehcalakofigaaGreatDoor
namespace Go.Proofs.YtkehcalakofigaaGreatDoor
open Go aS
theorem afq [Lay] {h:af} {T:aQ→Prop} {t:aM} {w:V} (K:eW h T t.l w) (dH:∀b,T b→Old h b) (aR:t.s.length≤top):
 ∃g,h.new (.bh [.int .i64 t.k,.int .i64 t.n,.int .i64 t.a,.str t.s,w] 0 false)=g∧Ext h g∧eW g (fun b=>T b∨b=aC h.next) [t] (.slice (aC h.next) 0 1 1):=by
 obtain ⟨g,al,aq,aK⟩:=ns h 5 1 [.int .i64 t.k,.int .i64 t.n,.int .i64 t.a,.str t.s,w] rfl (by unfold top;simp)
 refine ⟨g,al,aq,.mk [[.int .i64 t.k,.int .i64 t.n,.int .i64 t.a,.str t.s,w]] (fun _=>w) (fun _=>T) (aK.mono (Nat.zero_le _)) rfl (by unfold top;simp) (fun i u q=>?_) (fun i u q=>?_) (fun b q=>.inr q) (fun i b _ q=>⟨.inl q,fun z=>?_⟩) (fun i j b aa ae aI=>?_)⟩
 · cases i with
   | zero=>cases q;exact ⟨rfl,aR⟩
   | succ i=>simp at q
 · cases i with
   | zero=>cases q;exact K.ext aq
   | succ i=>simp at q
 · have:=dH b q;rw [show b=aC h.next from z] at this;exact Cz (Nat.le_refl _) this
 · simp at aa ae;omega
set_option maxHeartbeats 16000000 in
theorem afY (t u:aM) (aG:t.size≤50000000) (hu:u.size≤50000000) (ad ws:List V) (h:af) (H:bZ Any h t.enc ad) (K:bZ Any h u.enc ws):bB Tryz.prog 5 [.agg ad,.agg ws] h fun x ab=>x=.bool true:=by
 have hE:=H
 have D6:=K
 obtain ⟨cl,rfl,L,hi⟩:=aM.open H
 obtain ⟨wl,rfl,M,HG⟩:=aM.open K
 have ol:=L.one
 have gX:=M.one
 refine WY rfl (cR ?_)
 unfold c5
 obtain ⟨aa,al,aB,ch⟩:=fo h [.int .i64 t.k,.int .i64 t.n,.int .i64 t.a,.str t.s,cl]
 obtain ⟨ae,aq,aO,eh⟩:=fo aa [.int .i64 u.k,.int .i64 u.n,.int .i64 u.a,.str u.s,wl]
 have cO:=ch.ext aO
 have bV:=aB.trans aO
 obtain ⟨aI,aK,cc,Tm⟩:=afo (F:=Any) (h:=ae) (size:=5) rfl rfl (hE.ext bV) (D6.ext bV) trivial
 have Tn:bI Any aI 5 ([t,u].map aM.enc) (.slice (aC ae.next) 0 2 2):=Tm
 have lh:=cO.ext cc
 have w7:=eh.ext cc
 have f_:=bV.trans cc
 simp only [List.cons_append,List.nil_append] at aK
 simp +contextual only [ol.1,ol.2.1,gX.1,gX.2.1,al,aq,aK,cO.g,eh.g,List.cons_append,List.nil_append,↓ah,ao,simprocAttr]
 refine bK (aeU [t,u] 300 _ aI Tn) ?_
 rintro x Gp ⟨⟨afk,rfl⟩,ba⟩
 rw [ba]
 cases afk with
 | true=>
   simp +contextual only [↓ah,ao,simprocAttr]
   refine bK (K0 _) ?_
   rintro x g ⟨rfl,rfl⟩
   simp +contextual only [↓ah,ao,simprocAttr]
 | false=>
 obtain ⟨bu,bG,fy,Av⟩:=O_ (F:=Any) (h:=aI) (size:=5) rfl (hE.ext f_) trivial
 have To:bI Any bu 5 ([t].map aM.enc) (.slice (aC aI.next) 0 1 1):=Av
 have oG:=lh.ext fy
 have Sk:=w7.ext fy
 have iX:=f_.trans fy
 simp +contextual only [ol.1,ol.2.1,bG,lh.g,↓ah,ao,simprocAttr]
 refine bK (LW (dt [t]+1) [t] (Nat.lt_succ_self _) (by rw [dt,dt];omega) _ bu To) ?_
 rintro w cf ⟨ma,ir⟩
 have W:=ma.zd
 have Tx:bI Any cf 5 ([t].map aM.enc) w:=ma.hQ fun _ _=>trivial
 have sx:=oG.ext ir
 have pJ:=Sk.ext ir
 have ga:=iX.trans ir
 have ej:=W.one
 obtain ⟨b,off,alE,b_,X,gr,ld⟩:=aM.jV Tx (k:=.i64) (i:=0) (by simp)
 simp only [List.getElem_cons_zero,Nat.zero_mul,Nat.add_zero] at b_ X gr ld
 have d5:=ld cf (Ext.refl _)
 have yL:hY 5 w (.int .i64 0)=some (.ptr b off):=b_
 simp +contextual only [yL,d5,↓ah,ao,simprocAttr]
 refine bK (Qg t.size t (Nat.le_refl _) (by omega) _ cf X) ?_
 rintro x fp ⟨pl,rfl,Ea,xR⟩
 have op:=Ea.one
 have Sg:=sx.ext xR
 have Sl:=pJ.ext xR
 have SF:=ga.trans xR
 obtain ⟨hF,hM,p7,zU⟩:=ja fp [.int .i64 0,.int .i64 0,.int .i64 0,.str [],.bW] [.int .i64 t.k,.int .i64 t.n,.int .i64 0,.str t.s,pl]
 have zN:=Sg.ext p7
 have Sm:=Sl.ext p7
 have Kf:=SF.trans p7
 have Eb:=Ea.ext p7
 have ib:∀(wl:V) (F:aQ→Prop) (g:af),bI F g 5 (t.l.map fun u=>u.plain.enc) wl→bZ F g t.plain.enc [.int .i64 t.k,.int .i64 t.n,.int .i64 0,.str t.s,wl]:=fun wl F g q=>by
  rw [pw,wI]
  simp only [aM.k,aM.n,aM.a,aM.s,aM.l,List.map_map]
  exact .i (.i (.i (.s hi (q.cons .nil))))
 have Ty:bZ Any hF t.plain.enc [.int .i64 t.k,.int .i64 t.n,.int .i64 0,.str t.s,pl]:=ib pl _ _ (by
  have:=Eb.eC (F:=Any) fun _ _=>trivial
  rw [List.map_map] at this
  exact this)
 simp +contextual only [op.1,op.2.1,ol.1,ol.2.1,hM,zN.g,zU.g,↓ah,ao,simprocAttr]
 refine bK (Q0 t.size t (Nat.le_refl _) (by omega) _ hF (hE.ext Kf)) ?_
 rintro x qb ⟨⟨ahJ,rfl,Th⟩,p8⟩
 have zO:=zN.ext p8
 have Sn:=Sm.ext p8
 have zV:=zU.ext p8
 have SG:=Kf.trans p8
 simp +contextual only [zO.g,zV.g,↓ah,ao,simprocAttr]
 refine bK (ah8 t.plain _ _ qb (Ty.ext p8) (ib ahJ _ _ (Th.hQ fun _ _=>trivial))) ?_
 rintro x vq ⟨rfl,va⟩
 have DA:=zO.ext va
 have DD:=Sn.ext va
 have DE:=zV.ext va
 have Kg:=SG.trans va
 have A7:=((xR.trans p7).trans p8).trans va
 have d9:=ld vq A7
 simp +contextual only [zN.g,zO.g,DA.g,DD.g,zU.g,zV.g,DE.g,yL,d9,↓ah,ao,simprocAttr]
 refine bK (ai' t u _ _ vq (X.ext A7) (D6.ext Kg)) ?_
 rintro x Na ⟨rfl,sU⟩
 have Dy:=DA.ext sU
 have DC:=DD.ext sU
 have Su:=DE.ext sU
 have DF:=Kg.trans sU
 have d10:=ld Na (A7.trans sU)
 simp +contextual only [Dy.g,DC.g,↓ah,ao,simprocAttr]
 refine bK (Q1 t.size t u (Nat.le_refl _) _ _ Na (hE.ext DF) (D6.ext DF)) ?_
 rintro x x0 ⟨rfl,u'⟩
 have w4:=Dy.ext u'
 have Sj:=DC.ext u'
 have Sv:=Su.ext u'
 have SA:=DF.trans u'
 have FU:=(A7.trans sU).trans u'
 have x4:(t.same u == t.same u)=true:=beq_self_eq_true _
 have d11:=ld x0 FU
 simp +contextual only [zN.g,zO.g,DA.g,Dy.g,w4.g,DD.g,DC.g,Sj.g,zU.g,zV.g,DE.g,yL,d9,d10,d11,x4,↓ah,ao,simprocAttr]
 refine bK (Co t (by omega) _ x0 (X.ext FU)) ?_
 rintro dc Gm ⟨oO,eX⟩
 have n_:=Cp t
 have S6:bI Any Gm 1 (t.names.map aS.encS) dc:=oO.eC (by unfold top;omega) fun _ _=>trivial
 have zL:=w4.ext eX
 have Sw:=Sv.ext eX
 have Kd:=SA.trans eX
 have Mh:=FU.trans eX
 have d12:=ld Gm Mh
 simp +contextual only [w4.g,zL.g,↓ah,ao,simprocAttr]
 refine bK (zx t.size t (Nat.le_refl _) (by omega) _ Gm (hE.ext Kd)) ?_
 rintro hJ Bv ⟨Ar,nO⟩
 have S7:bI Any Bv 1 (t.names.map aS.encS) hJ:=Ar.eC (by unfold top;omega) fun _ _=>trivial
 have zM:=zL.ext nO
 have Sx:=Sw.ext nO
 have SB:=Kd.trans nO
 have FV:=Mh.trans nO
 have d13:=ld Bv FV
 simp +contextual only [↓ah,ao,simprocAttr]
 refine bK (RA t.names t.names dc hJ Bv (S6.ext nO) S7) ?_
 rintro x akq ⟨rfl,ba⟩
 rw [ba,decide_eq_true rfl]
 simp +contextual only [w4.g,zL.g,zM.g,yL,d11,d12,d13,↓ah,ao,simprocAttr]
 refine bK (ag6 t (by omega) _ Bv (X.ext FV)) ?_
 rintro n3 Nb ⟨As,xQ⟩
 have Dz:=zM.ext xQ
 have Sy:=Sx.ext xQ
 have Ke:=SB.trans xQ
 have Mi:=FV.trans xQ
 have d14:=ld Nb Mi
 simp +contextual only [zM.g,Dz.g,↓ah,ao,simprocAttr]
 refine bK (ahE t (by omega) _ Nb (hE.ext Ke)) ?_
 rintro n4 x1 ⟨D9,sV⟩
 have J5:=Dz.ext sV
 have Sz:=Sy.ext sV
 have SC:=Ke.trans sV
 have FW:=Mi.trans sV
 have d15:=ld x1 FW
 simp +contextual only [↓ah,ao,simprocAttr]
 refine bK (RA t.free t.free n3 n4 x1 (As.ext sV) D9) ?_
 rintro x akr ⟨rfl,ba⟩
 rw [ba,decide_eq_true rfl]
 have Dv:Ext fp x1:=(((((((p7.trans p8).trans va).trans sU).trans u').trans eX).trans nO).trans xQ).trans sV
 have PG:=Dv.next
 have S_:=Ea.ext Dv
 obtain ⟨aaq,QF,A6,S9⟩:=afq (t:=t.plain) (T:=i_ cf.next fp.next) (w:=pl) (h:=x1) (by rw [pw];exact S_) (fun b q=>by unfold i_ at q;unfold Old;omega) (by rw [pw];exact hi)
 have CR:t.plain.k=t.k∧t.plain.n=t.n∧t.plain.a=0∧t.plain.s=t.s:=by rw [pw];exact ⟨rfl,rfl,rfl,rfl⟩
 rw [CR.1,CR.2.1,CR.2.2.1,CR.2.2.2] at QF
 simp +contextual only [w4.g,zL.g,zM.g,Dz.g,J5.g,Sz.g,yL,d11,d12,d13,d14,d15,op.1,op.2.1,QF,↓ah,ao,simprocAttr]
 refine bK (P3 (dt [t.plain]) [t.plain] (Nat.le_refl _) _ _ aaq S9) ?_
 rintro x Bw m17
 have n5:=ir.next
 have n6:=xR.next
 have n15:=sV.next
 have n16:=A6.next
 have n17:=m17.next
 have ak4:=FW.next
 have SD:=SC.trans A6
 have dD:∀n,n<cf.next→¬(i_ cf.next fp.next (aC n)∨aC n=aC x1.next):=fun n aX q=>by
  rcases q with q | q
  · unfold i_ at q;rw [c6] at q;omega
  · have:=g' q;omega
 have SE:Ext h Bw:=SD.h0 m17 fun b q=>by
  have:=ga.next
  rcases q with q | q
  · unfold i_ at q;omega
  · rw [q,c6];omega
 have aeT:=sx.lt
 have Sf:=(J5.ext A6).mod m17 (dD _ aeT)
 have Y3:=FW.trans A6
 have Tv:bI Any Bw 5 ([t].map aM.enc) w:=(W.ext Y3).mod m17 fun b q _=>⟨fun z=>by
  unfold Old at q
  rcases z with z | z
  · unfold i_ at z;omega
  · rw [z,c6] at q;omega,trivial⟩
 obtain ⟨Nc,ahh,Y2,Tk⟩:=O_ (F:=Any) (h:=Bw) (size:=5) rfl (hE.ext SE) trivial
 have Tl:bI Any Nc 5 ([t].map aM.enc) (.slice (aC Bw.next) 0 1 1):=Tk
 simp +contextual only [Sf.g,ol.1,ol.2.1,ahh,↓ah,ao,simprocAttr]
 refine bK (ah9 [t] w _ Nc (Tv.ext Y2) Tl) ?_
 rintro x aks ⟨rfl,aka⟩
 simp +contextual only [↓ah,ao,simprocAttr]
 refine bK (K0 _) ?_
 rintro x akt ⟨rfl,rfl⟩
 simp +contextual only [↓ah,ao,simprocAttr]
end Go.Proofs.YtkehcalakofigaaGreatDoor
