/- The chapter's functions, walked by the abstract machine: plain lemmas, no condition. Printed by a program from longer texts: names made short. -/
import Derived.Test.YthemdhlheglhoaaGreatDoorM12
import Derived.Test.YthemdhlheglhoaaGreatDoorM13
import Derived.Test.YthemdhlheglhoaaGreatDoorM11
set_option linter.unusedSectionVars false
set_option linter.unusedSimpArgs false
set_option linter.unusedVariables false
namespace Go.Proofs.YthemdhlheglhoaaGreatDoor
open Go aY
section
variable [Lay]
inductive fr (h:af):(aN→Prop)→List aB→V→Prop
 | mk {S:aN→Prop} {l:List aB} {v:V} (us:List (List V)) (ws:Nat→V) (lD:Nat→aN→Prop) (o:dL 0 h 4 v l.length us.flatten) (hu:us.length=l.length) (aS:l.length≤top)
    (cells:∀(i:Nat) (t:aB),l[i]? =some t→us[i]? =some [.int .i64 t.k,.int .i64 t.n,.str t.s,ws i]∧t.s.length≤top)
    (kids:∀(i:Nat) (t:aB),l[i]? =some t→fr h (lD i) t.l (ws i)) (br:∀b,v.bc b→S b) (eo:∀(i:Nat) (b:aN),i<l.length→lD i b→S b∧¬v.bc b)
    (apart:∀(i j:Nat) (b:aN),i<l.length→j<l.length→i≠j→lD i b→¬lD j b):fr h S l v
variable {h ab:af} {S:aN→Prop} {l:List aB} {v:V}
theorem fr.nil (h:af) (S:aN→Prop):fr h S [] .cq:=
 .mk [] (fun _=>.cq) (fun _ _=>False) ⟨by simp,rfl⟩ rfl (Nat.zero_le _) (fun i t q=>by simp at q) (fun i t q=>by simp at q) (fun b q=>q.elim) (fun i b q=>absurd q (Nat.not_lt_zero _)) (fun i j b q=>absurd q (Nat.not_lt_zero _))
theorem fr.mod {M:aN→Prop} (H:fr h S l v) (m:Mod M h ab) (cO:∀b,S b→¬M b):fr ab S l v:=by
 induction H with
 | mk us ws lD o hu aS cells kids br eo apart bj=>
   exact .mk us ws lD (o.mod m fun b q=>cO b (br b q)) hu aS cells (fun i t q=>bj i t q fun b z=>cO b (eo i b (by obtain ⟨au,_⟩:=List.getElem?_eq_some_iff.1 q;exact au) z).1) br eo apart
theorem fr.ext (H:fr h S l v) (e:Ext h ab):fr ab S l v:=by
 induction H with
 | mk us ws lD o hu aS cells kids br eo apart bj=>exact .mk us ws lD (o.ext e) hu aS cells bj br eo apart
theorem fr.je {zL:aN→Prop} (H:fr h S l v) (w:∀b,S b→zL b):fr h zL l v:=by
 cases H with
 | mk us ws lD o hu aS cells kids br eo apart=>exact .mk us ws lD o hu aS cells kids (fun b q=>w b (br b q)) (fun i b q z=>⟨w b (eo i b q z).1,(eo i b q z).2⟩) apart
theorem fr.hf {F:aN→Prop} (H:fr h S l v) (w:∀b,S b→F b):eg F h 4 (l.map aB.enc) v:=by
 induction H with
 | mk us ws lD o hu aS cells kids br eo apart bj=>
   refine ⟨o.room,by rw [List.length_map];exact aS,⟨us,by rw [List.length_map];exact o.v,by rw [List.length_map];exact hu,fun u q=>?_,fun i e u au az=>?_⟩,fun b q=>w b (br b q)⟩
   · obtain ⟨i,aF,rfl⟩:=List.getElem_of_mem q
     have:=(cells i _ (List.getElem?_eq_getElem (by omega))).1
     rw [List.getElem?_eq_getElem aF] at this
     rw [Option.some.inj this];rfl
   · rw [List.getElem?_map] at au
     cases ax:(_:List aB)[i]? with
     | none=>rw [ax] at au;cases au
     | some t=>
       rw [ax] at au
       simp only [Option.map_some,Option.some.injEq] at au
       subst au
       obtain ⟨bL,b0⟩:=cells i t ax
       rw [bL] at az
       cases az
       rw [wF]
       have aF:i<_:=(List.getElem?_eq_some_iff.1 ax).1
       exact .i (.i (.s b0 ((bj i t ax fun b z=>w b (eo i b aF z).1).cons .nil)))
theorem fr.one (H:fr h S l v):v.one=true∧v.cells=[v]∧v.gb=true:=by
 cases H with
 | mk us ws lD o hu aS cells kids br eo apart=>exact o.v.one
theorem fr.br (H:fr h S l v):∀b,v.bc b→S b:=by
 cases H with
 | mk us ws lD o hu aS cells kids br eo apart=>exact br
theorem fr.add {T:aN→Prop} {t:aB} {u:V} (H:fr h S l v) (E:fr h T t.l u) (AR:∀b,S b→¬T b) (oL:∀b,S b→Old h b) (vv:∀b,T b→Old h b) (hlen:(l.length+1) * 4≤top) (aO:t.s.length≤top):
 ∃e4 ab,mY 4 v (.slice (ai h.next) 0 1 1) (h.new (.bg [.int .i64 t.k,.int .i64 t.n,.str t.s,u] 0 false))=.val e4 ab∧fr ab (fun b=>S b∨T b∨(h.next≤e9 b∧e9 b<ab.next)) (l++[t]) e4∧Mod v.bc h ab∧h.next+1≤ab.next:=by
 have h':=E.one
 cases H with
 | mk us ws lD o hu aS cells kids br eo apart=>
   obtain ⟨e4,ab,au,az,aM,bU,ey⟩:=zR (cs:=[.int .i64 t.k,.int .i64 t.n,.str t.s,u]) (by omega) o (Nat.zero_le _) hlen rfl (by simp only [gh,NI,NJ,h'.1,Bool.and_self,Bool.and_true])
   have L6:∀b,e4.bc b→¬v.bc b→¬Old h b:=fun b z z2=>by
    rcases ey b z with z | z
    · exact absurd z z2
    · unfold Old;omega
   have snoc:∀(i:Nat) (s:aB),(l++[t])[i]? =some s→(i<l.length∧l[i]? =some s)∨(i=l.length∧s=t):=fun i s q=>VU q
   refine ⟨e4,ab,au,.mk (us++[[.int .i64 t.k,.int .i64 t.n,.str t.s,u]]) (fun i=>if i<l.length then ws i else u) (fun i=>if i<l.length then lD i else T) ?_ (by simp [hu]) (by rw [List.length_append,List.length_singleton];omega) (fun i s q=>?_) (fun i s q=>?_) (fun b z=>?_) (fun i b aF z=>?_) (fun i j b aF bK nQ z=>?_),aM,bU⟩
   · rw [List.length_append,List.length_singleton,List.flatten_append]
     simpa using az
   · rcases snoc i s q with ⟨aa,ae⟩ | ⟨aa,rfl⟩
     · rw [if_pos aa,List.getElem?_append_left (by omega)]
       exact cells i s ae
     · subst aa
       rw [if_neg (by omega),List.getElem?_append_right (by omega),hu,Nat.sub_self]
       exact ⟨rfl,aO⟩
   · rcases snoc i s q with ⟨aa,ae⟩ | ⟨aa,rfl⟩
     · simp only [if_pos aa]
       exact (kids i s ae).mod aM fun b z=>(eo i b aa z).2
     · subst aa
       simp only [Nat.lt_irrefl,if_false]
       exact E.mod aM fun b z z2=>AR b (br b z2) z
   · have aQ:=az.v.bY z
     rcases ey b z with z | z
     · exact .inl (br b z)
     · exact .inr (.inr (by unfold Old at aQ;omega))
   · by_cases aa:i<l.length
     · rw [if_pos aa] at z
       obtain ⟨a,c⟩:=eo i b aa z
       exact ⟨.inl a,fun z2=>L6 b z2 c (oL b a)⟩
     · rw [if_neg aa] at z
       exact ⟨.inr (.inl z),fun z2=>L6 b z2 (fun z3=>AR b (br b z3) z) (vv b z)⟩
   · rw [List.length_append,List.length_singleton] at aF bK
     by_cases aa:i<l.length
     · rw [if_pos aa] at z
       by_cases ae:j<l.length
       · rw [if_pos ae]
         exact apart i j b aa ae nQ z
       · rw [if_neg ae]
         exact AR b (eo i b aa z).1
     · rw [if_neg aa] at z
       rw [if_pos (by omega)]
       exact fun z2=>AR b (eo j b (by omega) z2).1 z
end
def fw (a b:Nat) (p:aN):Prop:=a≤e9 p∧e9 p<b
section
variable [Lay]
end
end Go.Proofs.YthemdhlheglhoaaGreatDoor
namespace Go.Proofs.YthemdhlheglhoaaGreatDoor
open Go aY
theorem afx {P:Program} {cA:List V} {b:aN} {d:Option Nat} {os:List bI} {D:Option ie} {aK:List hW} {r:aT} {h:af} {Q:c'→aT→af→Prop} {K:V→af→Prop}
 (c:zM P cA b h K) (H:∀v ab,K v ab→bm P (.os (iy D r h v) os::aK) .normal (r.set d v) ab Q):CJ P (cA++[.ptr b 0]) d D os aK r h Q:=by
 obtain ⟨v,ab,q,k⟩:=c
 exact ⟨cA,b,rfl,v,ab,q,H v ab k⟩
abbrev Grow (X f':aN→Prop) (h:af):Prop:=∀b,f' b→X b∨h.next≤e9 b
theorem AM {X f':aN→Prop} {h:af} {n:Nat} (c4:Grow X f' h) (aS:n<h.next) (a6:¬X (ai n)):¬f' (ai n):=fun q=>by
 rcases c4 _ q with q | q
 · exact a6 q
 · rw [c8] at q;omega
theorem abu {X f':aN→Prop} {h ab lI:af} (a:Mod X h ab) (c:Mod f' ab lI) (g:Grow X f' h):Mod X h lI:=
 ⟨Nat.le_trans a.next c.next,fun b ah q=>(c.get b (a.bY ah) fun z=>by
   rcases g b z with z | z
   · exact q z
   · unfold Old at ah;omega).trans (a.get b ah q)⟩
abbrev Inv:=List (Nat × aB)→(aN→Prop)→af→Prop
structure w5 (gl:Nat) (iS:aN) (I J:Inv):Prop where
 ext:∀{d:List (Nat × aB)} {X:aN→Prop} {h ab:af},I d X h→Ext h ab→I d X ab
 Ak:∀{d:List (Nat × aB)} {X:aN→Prop} {h:af} (k:Nat) (p:aB) {ad:List V},I d X h→d.length+1≤1000000000→k≤1000000000→p.size≤1000000000→b5 (fun b=>e9 b<gl) h p.enc ad→
  zM Tryz.prog [.int .i64 k,.agg ad] iS h fun x ab=>∃f',Mod X h ab∧Grow X f' h∧(x=.bool true∧I (d++[(k,p)]) f' ab∨x=.bool false∧J (d++[(k,p)]) f' ab)
 bY:∀{d:List (Nat × aB)} {X:aN→Prop} {h:af},I d X h→∀b,X b→Old h b
 bG:∀{d:List (Nat × aB)} {X:aN→Prop} {h:af},I d X h→∀b,X b→gl≤e9 b
def Left (I J:Inv) (d:List (Nat × aB)) (X:aN→Prop) (h:af) (x:V) (ab:af):Prop:=
 ∃f',Mod X h ab∧Grow X f' h∧(x=.bool true∧I d f' ab∨x=.bool false∧∃ig,ig <+:d∧J ig f' ab)
theorem Hp (d:List (Nat × aB)) (k:Nat) (p:aB):d++p.pred k=d++[(k,p)]++ia (k+1) p.l:=by rw [acT];simp
set_option maxHeartbeats 2000000 in
theorem Mj {gl:Nat} {iS:aN} {I J:Inv} (E:w5 gl iS I J) {sH r':Nat}:∀(N:Nat) (p:aB),p.size≤N→∀(k:Nat) (d:List (Nat × aB)) (X:aN→Prop) (ad:List V) (h:af),d.length+p.size≤1000000000→k+p.size≤1000000000→¬X (ai sH)→¬X (ai r')→b5 (fun b=>e9 b<gl) h p.enc ad→
 Has h sH [.func 4294967296 [.ptr iS 0]]→Has h r' [.func 87 [.ptr (ai sH) 0,.ptr (ai r') 0]]→I d X h→b_ Tryz.prog 87 [.int .i64 k,.agg ad,.ptr (ai sH) 0,.ptr (ai r') 0] h (Left I J (d++p.pred k) X h)
 | 0,p,aO,_,_,_,_,_,_,_,_,_,_,_,_,_=>by have:=y2 p;omega
 | N+1,p,aO,k,d,X,ad,h,WV,nR,a7,aF,H,Y,B,K=>by
   have tR:=size_eq p
   obtain ⟨cF,rfl,L,_⟩:=aB.open H
   have ol:=L.one
   have ao:=L.len
   have hle:=L.le
   rw [List.length_map] at ao hle
   refine TR rfl (eA ?_)
   unfold El
   obtain ⟨aa,au,aP,cw⟩:=gY h (cJ p cF)
   have tN:¬X (ai h.next):=fun q=>G' (Nat.le_refl _) (E.bY K _ q)
   have q6:=aP.next
   have xl:=Y.ext aP
   simp +contextual only [ol.1,ol.2.1,au,cw.g,xl.g,s8,List.cons_append,List.nil_append,if_true,↓aA,aI,simprocAttr]
   refine afx (cA:=[_,_]) (E.Ak k p (E.ext K aP) (by omega) (by omega) (by omega) (H.ext aP)) ?_
   rintro x ae ⟨Dj,m2,s2,ak⟩
   have fR:=AM s2 xl.lt a7
   have i2:=AM s2 (B.ext aP).lt aF
   have O2:Grow X Dj h:=fun b q=>by
    rcases s2 b q with q | q
    · exact .inl q
    · exact .inr (by omega)
   have cf:=cw.mod m2 tN
   have Q1:=xl.mod m2 a7
   have dd:=(B.ext aP).mod m2 aF
   have M':Mod X h ae:=(aP.mod X).trans m2
   rcases ak with ⟨rfl,C3⟩ | ⟨rfl,C3⟩
   rotate_left
   · simp +contextual only [↓aA,aI,simprocAttr]
     exact ⟨Dj,M',O2,.inr ⟨rfl,d++[(k,p)],by rw [Hp];exact List.prefix_append _ _,C3⟩⟩
   simp +contextual only [cf.g,ao,↓aA,aI,simprocAttr]
   refine ll (fun r g=>r 0=.int .i64 k∧r 2=.ptr (ai sH) 0∧r 3=.ptr (ai r') 0∧r 15=cF∧r 16=.int .i64 p.l.length∧∃i:Nat,r 17=.int .i64 i∧i≤p.l.length∧Has g sH [.func 4294967296 [.ptr iS 0]]∧Has g r' [.func 87 [.ptr (ai sH) 0,.ptr (ai r') 0]]∧
    ∃f',I (d++[(k,p)]++ia (k+1) (p.l.take i)) f' g∧Mod X h g∧Grow X f' h∧¬f' (ai sH)∧¬f' (ai r')) (fun r g=>p.l.length - (r 17).toN) ?_ ?_
   · exact ⟨by simp only [↓aA,cX,simprocAttr],by simp only [↓aA,cX,simprocAttr],by simp only [↓aA,cX,simprocAttr],by simp only [↓aA,cX,simprocAttr],by simp only [↓aA,cX,simprocAttr],0,by simp only [↓aA,cX,simprocAttr]<;>rfl,by omega,Q1,dd,Dj,by rw [List.take_zero,ia,List.append_nil];exact C3,M',O2,fR,i2⟩
   rintro r g ⟨bQ,b7,cT,gx,r16,i,ko,agd,Q2,Qc,f',C5,BJ,HZ,Iw,Gr⟩
   unfold JP
   have Qs:=L.mod (ej:=fun b=>e9 b<gl) BJ fun b q _=>⟨fun z=>by have:=E.bG K b z;omega,q⟩
   by_cases aW:i<p.l.length
   · have g0:((i:Int) < (p.l.length:Int))=True:=eq_true (by omega)
     obtain ⟨b,off,wl,fz,QZ,mW,ld⟩:=aB.q1 Qs (k:=.i64) aW
     have GI:=ld g (Ext.refl g)
     have bz:=mW.one
     have ks:=sF aW (by unfold top at hle;omega)
     have ae_:IntKind.i64.wrap ((k:Int)+1)=((k+1:Nat):Int):=by rw [wrap_i64 (by omega) (by omega)];rfl
     have cc:=Hv (t:=p) (List.getElem_mem aW)
     obtain ⟨g1,eR,bx,Z⟩:=gD g z4 (cJ p.l[i] wl)
     have zq:=Qc.ext bx
     have Dm:=Q2.ext bx
     simp +contextual only [bQ,b7,cT,gx,r16,ko,g0,fz,GI,eR,Z.g,zq.g,bz.1,bz.2.1,ae_,s8,List.cons_append,List.nil_append,show (87=4294967296)=False from by simp,if_false,↓aA,aI,simprocAttr]
     have agp:=ac0 (l:=p.l) aW
     have agq:=ac1 p.l (i+1)
     refine bM (Mj E N p.l[i] (by omega) (k+1) _ f' _ g1 (by rw [List.length_append,List.length_append,List.length_singleton,acU];omega) (by omega) Iw Gr (QZ.ext bx) Dm zq (E.ext C5 bx)) ?_
     rintro x g2 ⟨xk,m3,kQ,ak⟩
     have o5:=bx.next
     have yL:=BJ.next
     have O3:Grow X xk h:=fun b q=>by
      rcases kQ b q with q | q
      · exact HZ b q
      · exact .inr (by omega)
     have M_:=abu BJ ((bx.mod f').trans m3) HZ
     have iP:d++[(k,p)]++ia (k+1) (p.l.take i)++p.l[i].pred (k+1)=d++[(k,p)]++ia (k+1) (p.l.take (i+1)):=by
      rw [take_one aW,Hq,acV,←List.append_assoc]
     rcases ak with ⟨rfl,C4⟩ | ⟨rfl,ig,vA,C4⟩
     · simp +contextual only [bQ,b7,cT,gx,r16,ko,ks,↓aA,aI,simprocAttr]
       exact ⟨⟨i+1,rfl,aW,Dm.mod m3 Iw,zq.mod m3 Gr,xk,by rw [←iP];exact C4,M_,O3,AM kQ Dm.lt Iw,AM kQ zq.lt Gr⟩,by omega⟩
     · simp +contextual only [bQ,b7,cT,gx,r16,ko,ks,↓aA,aI,simprocAttr]
       refine ⟨xk,M_,O3,.inr ⟨rfl,ig,?_,C4⟩⟩
       rw [iP] at vA
       refine vA.trans ?_
       rw [Hp]
       refine (List.prefix_append_right_inj _).2 ?_
       conv=>rhs;rw [←List.take_append_drop (i+1) p.l,Hq]
       exact List.prefix_append _ _
   · have g0:((i:Int) < (p.l.length:Int))=False:=eq_false (by omega)
     rw [List.take_of_length_le (by omega)] at C5
     simp +contextual only [bQ,b7,cT,gx,r16,ko,g0,↓aA,aI,simprocAttr]
     exact ⟨f',BJ,HZ,.inl ⟨rfl,by rw [Hp];exact C5⟩⟩
theorem Ip (ad:List V) (h:af) (aQ:gh ad=true) (ao:ad.length≤top):b_ Tryz.prog 56 [.agg ad] h fun x ab=>∃n,x=.func 86 [.ptr (ai n) 0]∧Has ab n ad∧Ext h ab:=by
 refine Tx rfl (eA ?_)
 unfold Ee
 obtain ⟨aa,au,aP,cw⟩:=gY h ad
 have hl:(ad.length≤17179869184)=True:=eq_true ao
 simp +contextual only [au,aQ,hl,↓aA,aI,simprocAttr]
 exact ⟨_,rfl,cw,aP⟩
set_option maxHeartbeats 1000000 in
theorem Io {gl:Nat} {iS:aN} {I J:Inv} (E:w5 gl iS I J) {wD:Nat} (p:aB) (ag:p.size≤900000000) (X:aN→Prop) (ad:List V) (h:af) (H:b5 (fun b=>e9 b<gl) h p.enc ad) (Qd:Has h wD ad) (K:I [] X h):
 b_ Tryz.prog 86 [.func 4294967296 [.ptr iS 0],.ptr (ai wD) 0] h fun _ ab=>∃x,Left I J (p.pred 1) X h x ab:=by
 obtain ⟨cF,rfl,L,_⟩:=aB.open H
 refine TO rfl (eA ?_)
 unfold Ek
 obtain ⟨aa,au,aP,xl⟩:=gY h [.func 4294967296 [.ptr iS 0]]
 obtain ⟨ae,az,bl,dd⟩:=gD aa [.lp] [.func 87 [.ptr (ai h.next) 0,.ptr (ai aa.next) 0]]
 have e0:=aP.trans bl
 have QD:=Qd.ext e0
 have cz:¬X (ai h.next):=fun q=>G' (Nat.le_refl _) (E.bY K _ q)
 have ha:¬X (ai aa.next):=fun q=>G' (Nat.le_refl _) (E.bY (E.ext K aP) _ q)
 have ol:=L.one
 have Hy:=az
 simp +contextual only [au,az,dd.g,QD.g,ol.1,ol.2.1,s8,List.cons_append,List.nil_append,show (87=4294967296)=False from by simp,if_false,↓aA,aI,simprocAttr]
 refine bM (Mj E p.size p (Nat.le_refl _) 1 [] X _ ae (by simp;omega) (by omega) cz ha (H.ext e0) (xl.ext bl) dd (E.ext K e0)) ?_
 rintro x aH ⟨xk,m3,kQ,ak⟩
 have BS:=e0.next
 simp +contextual only [↓aA,aI,simprocAttr]
 exact ⟨x,xk,(e0.mod X).trans m3,fun b q=>by
  rcases kQ b q with q | q
  · exact .inl q
  · exact .inr (by omega),ak⟩
theorem wJ {a b:Nat} (v w:V) (r:aT) {j:Nat} (aa:j≠a) (ae:j≠b) (aH:j≠d'):l0 [a,b] [v,w] r j=r j:=by
 simp [l0,aT.so,aT.set,aa,ae,aH]
theorem adD {a b:Nat} (v w:V) (r:aT) (aa:a≠b) (aH:a≠d'):l0 [a,b] [v,w] r a=v:=by
 simp [l0,aT.so,aT.set,aa,aH]
theorem OV {a b:Nat} (v w:V) (r:aT) (aH:b≠d'):l0 [a,b] [v,w] r b=w:=by
 simp [l0,aT.so,aT.set,aH]
theorem GM {l:j7} (a6:l.st=0) (ag:l.c6=none):l.go 0 none=l:=by
 obtain ⟨st,c6,_,_,_,_,_,_⟩:=l;simp only at a6 ag;subst a6 ag;rfl
structure IE (bO eG j4 eZ m:Nat) (l:j7) (d:List (Nat × aB)) (X:aN→Prop) (h:af):Prop where
 fn:Has h bO [.int .i64 (d.length:Nat)]
 Av:Has h eG [.int .i64 (maxD d:Nat)]
 rU:Has h j4 [.int .i64 0]
 bG:m<h.next
 k2:h.get (ai m)=.cg l
 j':eZ<h.next
 fd:h.get (ai eZ)=.eD
 EX:∀x ∈ d,x.2.own=true
 dO:maxD d≤1000000000
 kd:∀p,X p↔p=ai bO∨p=ai eG∨p=ai j4∨p=ai m
structure Qg (bO eG j4 eZ m:Nat) (l:j7) (d:List (Nat × aB)) (X:aN→Prop) (h:af):Prop where
 rU:Has h j4 [.int .i64 2]
 bG:m<h.next
 k2:h.get (ai m)=.cg (l.go 2 (some .ret))
 j':eZ<h.next
 fd:h.get (ai eZ)=.eD
 bad:∃x ∈ d,x.2.own=false
set_option maxHeartbeats 4000000 in
theorem Uo {gl bO eG j4 eZ m:Nat} {l:j7} {r:aT} (oK:gl≤bO) (rY:gl≤eG) (K_:gl≤j4) (Wh:gl≤m) (cz:bO≠eG) (ha:bO≠j4) (n3:bO≠m) (n4:bO≠eZ) (n5:eG≠j4) (n6:eG≠m) (n7:eG≠eZ) (n8:j4≠m) (n9:j4≠eZ) (n10:m≠eZ)
 (F:uU Tryz.prog l 25 r [9,10] D4 D5) (a6:l.st=0) (ag:l.c6=none) (b7:r 2=.ptr (ai j4) 0) (cT:r 3=.ptr (ai bO) 0) (fB:r 4=.ptr (ai eG) 0):
 w5 gl (ai m) (fun d X h=>IE bO eG j4 eZ m l d X h) (fun d X h=>Qg bO eG j4 eZ m l d X h) where
 ext:=fun {d X h ab} K e=>⟨K.fn.ext e,K.Av.ext e,K.rU.ext e,Nat.lt_of_lt_of_le K.bG e.next,(e.get _ (e3 K.bG)).trans K.k2,Nat.lt_of_lt_of_le K.j' e.next,(e.get _ (e3 K.j')).trans K.fd,K.EX,K.dO,K.kd⟩
 bY:=fun {d X h} K b ah=>by
  rcases (K.kd b).1 ah with rfl | rfl | rfl | rfl
  · exact e3 K.fn.lt
  · exact e3 K.Av.lt
  · exact e3 K.rU.lt
  · exact e3 K.bG
 bG:=fun {d X h} K b ah=>by
  rcases (K.kd b).1 ah with rfl | rfl | rfl | rfl<;>rw [c8]<;>assumption
 Ak:=fun {d X h} k p ad K aX ay vP H=>by
  have j6:=H
  obtain ⟨cF,rfl,L,nV⟩:=aB.open H
  have ol:=L.one
  have hm:=GM a6 ag
  refine Ix (by decide) follows eQ F K.k2 a6 rfl ?_
  obtain ⟨aa,au,aP,cw⟩:=gD h z4 (cJ p cF)
  have ch:aa.get (ai m)=.cg l:=(aP.get _ (e3 K.bG)).trans K.k2
  have bG:=K.bG
  have j':=K.j'
  have q6:=aP.next
  have g9:=adD (a:=9) (b:=10) (.int .i64 k) (.agg (cJ p cF)) r (by decide) (by decide)
  have g10:=OV (a:=9) (b:=10) (.int .i64 k) (.agg (cJ p cF)) r (by decide)
  have g2:=wJ (a:=9) (b:=10) (.int .i64 k) (.agg (cJ p cF)) r (j:=2) (by decide) (by decide) (by decide)
  have g3:=wJ (a:=9) (b:=10) (.int .i64 k) (.agg (cJ p cF)) r (j:=3) (by decide) (by decide) (by decide)
  have g4:=wJ (a:=9) (b:=10) (.int .i64 k) (.agg (cJ p cF)) r (j:=4) (by decide) (by decide) (by decide)
  rw [b7] at g2
  rw [cT] at g3
  rw [fB] at g4
  generalize l0 [9,10] [V.int .i64 k,.agg (cJ p cF)] r=bQ at *
  refine eA ?_
  unfold D4
  simp +contextual only [g9,g10,au,ol.1,ol.2.1,↓aA,aI,simprocAttr]
  refine ⟨ch,eA ?_⟩
  have cf:=cw.set (m:=m) (by omega) (.cg (l.go 1 l.c6))
  have mR:=(K.fn.ext aP).set (m:=m) n3 (.cg (l.go 1 l.c6))
  have dd:=(K.Av.ext aP).set (m:=m) n6 (.cg (l.go 1 l.c6))
  have hI:=(K.rU.ext aP).set (m:=m) n8 (.cg (l.go 1 l.c6))
  have xJ:(aa.set (ai m) (.cg (l.go 1 l.c6))).get (ai m)=.cg (l.go 1 l.c6):=by rw [c0,if_pos rfl]
  have vn:(aa.set (ai m) (.cg (l.go 1 l.c6))).get (ai eZ)=.eD:=by rw [c0,if_neg (fun q=>n10 (dR q))];exact (aP.get _ (e3 j')).trans K.fd
  have M2:Mod X h (aa.set (ai m) (.cg (l.go 1 l.c6))):=(aP.mod X).set (fun _=>(K.kd _).2 (.inr (.inr (.inr rfl)))) _
  have cG:b5 Any (aa.set (ai m) (.cg (l.go 1 l.c6))) p.enc (cJ p cF):=(j6.ext aP).mod (M:=fun b=>b=ai m) (((Mod.refl (fun b=>b=ai m) aa).set (fun _=>rfl) _)) fun b q _=>⟨fun z=>by rw [show b=ai m from z,c8] at q;omega,trivial⟩
  have vK:(aa.set (ai m) (.cg (l.go 1 l.c6))).next=aa.next:=rfl
  generalize aa.set (ai m) (.cg (l.go 1 l.c6))=ae at *
  unfold D5
  simp +contextual only [cf.g,↓aA,aI,simprocAttr]
  refine bM (acC p _ ae cG) ?_
  rintro x aH ⟨rfl,bW⟩
  have dt:=cf.ext bW
  have rF:=mR.ext bW
  have eT:=dd.ext bW
  have jk:=hI.ext bW
  have yL:=bW.next
  have AL:aH.get (ai m)=.cg (l.go 1 l.c6):=(bW.get _ (e3 (by omega))).trans xJ
  have AJ:aH.get (ai eZ)=.eD:=(bW.get _ (e3 (by omega))).trans vn
  have rD:=M2.trans (bW.mod X)
  cases c:p.own with
  | false=>
    simp +contextual only [g2,jk.g,↓aA,aI,simprocAttr]
    refine ⟨by rw [if_neg n8];exact AL,X,(rD.set (fun _=>(K.kd _).2 (.inr (.inr (.inl rfl)))) _).set (fun _=>(K.kd _).2 (.inr (.inr (.inr rfl)))) _,fun b q=>.inl q,.inr ⟨(jk.put _).set n8 _,?_,?_,?_,?_,(k,p),by simp,c⟩⟩
    · show m<aH.next;omega
    · rw [c0,if_pos rfl]
    · show eZ<aH.next;omega
    · rw [c0,if_neg (fun q=>n10 (dR q)),c0,if_neg (fun q=>n9 (dR q))];exact AJ
  | true=>
    have bT:IntKind.i64.wrap ((d.length:Int)+1)=((d.length+1:Nat):Int):=by rw [wrap_i64 (by omega) (by omega)];rfl
    simp +contextual only [g2,g3,g4,rF.g,eT.g,dt.g,bT,eq_false cz,if_false,abq,↓aA,aI,simprocAttr]
    have iO:maxD (d++[(k,p)])=max (maxD d) k:=by rw [GX,Nf];unfold maxD;simp
    refine ⟨by rw [if_neg n6,if_neg n3];exact AL,X,((rD.set (fun _=>(K.kd _).2 (.inl rfl)) _).set (fun _=>(K.kd _).2 (.inr (.inl rfl))) _).set (fun _=>(K.kd _).2 (.inr (.inr (.inr rfl)))) _,fun b q=>.inl q,.inl ⟨?_,?_,?_,?_,?_,?_,?_,?_,?_,K.kd⟩⟩
    · rw [List.length_append,List.length_singleton]
      exact ((rF.put _).set cz _).set n3 _
    · rw [iO]
      exact ((eT.set (m:=bO) (fun q=>cz q.symm) _).put _).set n6 _
    · exact ((jk.set (m:=bO) (fun q=>ha q.symm) _).set (m:=eG) (fun q=>n5 q.symm) _).set n8 _
    · show m<aH.next;omega
    · rw [c0,if_pos rfl,hm]
    · show eZ<aH.next;omega
    · rw [c0,if_neg (fun q=>n10 (dR q)),c0,if_neg (fun q=>n7 (dR q)),c0,if_neg (fun q=>n4 (dR q))];exact AJ
    · intro x ak
      rcases List.mem_append.1 ak with ak | ak
      · exact K.EX x ak
      · rw [List.mem_singleton] at ak;subst ak;exact c
    · rw [iO];have:=K.dO;omega
theorem acS {α:Type} {a b:List α} {P:α→Bool} (h:a <+:b) (q:∃x ∈ a,P x=false):b.all P=false:=by
 obtain ⟨x,ak,ag⟩:=q
 rw [List.all_eq_false]
 exact ⟨x,h.subset ak,by simp [ag]⟩
set_option maxHeartbeats 4000000 in
theorem s9 (p:aB) (aO:p.size≤900000000) (ad:List V) (h:af) (H:b5 Any h p.enc ad):b_ Tryz.prog 19 [.agg ad] h fun x ab=>x=.int .i64 p.check∧Ext h ab:=by
 have j6:=H.p8
 have aQ:=H.gh
 obtain ⟨cF,cR,L,_⟩:=aB.open H
 have ni:ad.length≤top:=by rw [cR];simp [top]
 have cB:ad.length=4:=by rw [cR];rfl
 have yf:(ad.length≤17179869184)=True:=eq_true ni
 refine S8 rfl (eA ?_)
 unfold D3
 obtain ⟨aa,au,aP,cw⟩:=gY h ad
 obtain ⟨ae,az,bl,hI⟩:=gY aa [.int .i64 0]
 obtain ⟨aH,aM,bW,rF⟩:=gY ae [.int .i64 0]
 obtain ⟨bf,bU,eu,eU⟩:=gY aH [.int .i64 0]
 have eS:=((cw.ext bl).ext bW).ext eu
 have sX:=rF.ext eu
 have pv:=(hI.ext bW).ext eu
 have cz:=aP.next
 have ha:=bl.next
 have n3:=bW.next
 have n4:=eu.next
 have fO:=cw.lt
 have h7:=hI.lt
 have yu:=rF.lt
 have GG:=eU.lt
 have g4:mB 4 (b4.bg ad 0 false) 0=some (.agg ad):=by rw [yx,if_pos (by omega),List.drop_zero,List.take_of_length_le (by omega)]
 have f1:(ae.next=aH.next)=False:=eq_false (by omega)
 have f2:(aH.next=ae.next)=False:=eq_false (by omega)
 have f3:(aH.next=h.next)=False:=eq_false (by omega)
 have f4:(ae.next=h.next)=False:=eq_false (by omega)
 simp +contextual only [au,az,aM,bU,aQ,yf,eS.g,sX.g,eU.g,pv.g,g4,f1,f2,f3,f4,if_false,↓aA,aI,simprocAttr]
 have jJ:Ext h bf:=((aP.trans bl).trans bW).trans eu
 have ji:Ext h ((bf.set (ai ae.next) (b4.bg [V.int .i64 0] 0 false)).set (ai aH.next) (b4.bg [V.int .i64 0] 0 false)):=(jJ.set (by omega) _).set (by omega) _
 have QB:=(sX.put [V.int .i64 0]).set (m:=aH.next) (by omega) (b4.bg [V.int .i64 0] 0 false)
 have eV:=(eU.set (m:=ae.next) (by omega) (b4.bg [V.int .i64 0] 0 false)).put [V.int .i64 0]
 have qn:=(pv.set (m:=ae.next) (by omega) (b4.bg [V.int .i64 0] 0 false)).set (m:=aH.next) (by omega) (b4.bg [V.int .i64 0] 0 false)
 have G_:((bf.set (ai ae.next) (b4.bg [V.int .i64 0] 0 false)).set (ai aH.next) (b4.bg [V.int .i64 0] 0 false)).next=bf.next:=rfl
 generalize (bf.set (ai ae.next) (b4.bg [V.int .i64 0] 0 false)).set (ai aH.next) (b4.bg [V.int .i64 0] 0 false)=cB at *
 refine bM (Ip ad cB aQ ni) ?_
 rintro x b8 ⟨n,rfl,nC,ih⟩
 simp +contextual only [↓aA,aI,simprocAttr]
 refine HE (g:=86) (cs:=[.ptr (ai n) 0]) (by simp only [↓aA,cX,simprocAttr]) (by decide) ⟨_,Tryz.func86,by kernel_rfl⟩ ?_
 intro l F a6 ag
 have n6:=ih.next
 have lH:Ext b8 ((b8.new .eD).new (.cg l)):=((Ext.refl b8).new _).new _
 have hv:=(ji.trans ih).trans lH
 have xc:=(QB.ext ih).ext lH
 have dE:=(eV.ext ih).ext lH
 have QJ:=(qn.ext ih).ext lH
 have E:=Uo (gl:=h.next) (bO:=ae.next) (eG:=aH.next) (j4:=aa.next) (eZ:=b8.next) (m:=b8.next+1) (l:=l) (by omega) (by omega) (by omega) (by omega) (by omega) (by omega) (by omega) (by omega) (by omega) (by omega) (by omega) (by omega) (by omega) (by omega) F a6 ag (by simp only [↓aA,cX,simprocAttr]) (by simp only [↓aA,cX,simprocAttr]) (by simp only [↓aA,cX,simprocAttr])
 have xa:IE ae.next aH.next aa.next b8.next (b8.next+1) l [] (fun b=>b=ai ae.next∨b=ai aH.next∨b=ai aa.next∨b=ai (b8.next+1)) ((b8.new .eD).new (.cg l)):=by
  refine ⟨xc,dE,QJ,by rw [fs,fs];omega,m' _,by rw [fs,fs];omega,?_,(fun x ak=>by cases ak),Nat.zero_le _,fun p=>Iff.rfl⟩
  rw [h1,if_neg (fun q=>by have:=dR q;rw [fs] at this;omega),m']
 refine (Io E p aO _ ad _ (j6.ext hv) (nC.ext lH) xa).mono ?_
 rintro _ ij ⟨x,Ja,m8,O4,ak⟩
 have Be:p.shape=(p.pred 1).all fun x=>x.2.own:=by
  rw [O_,←B8 1 p,List.all_map];rfl
 have hU:Ext h ij:=hv.od m8 fun b ah=>by
  rcases ah with rfl | rfl | rfl | rfl<;>rw [c8]<;>omega
 rcases ak with ⟨rfl,hh⟩ | ⟨rfl,ig,vA,hh⟩
 · refine ⟨l,hh.k2,by rw [a6];decide,?_⟩
   rw [ag]
   have eK:=hh.bG
   have qk:=hh.fn.set (m:=b8.next+1) (by omega) .dead
   have db:=hh.Av.set (m:=b8.next+1) (by omega) .dead
   have xe:=hh.rU.set (m:=b8.next+1) (by omega) .dead
   have hV:Ext h (ij.set (ai (b8.next+1)) .dead):=hU.set (by omega) _
   have qG:(ij.set (ai (b8.next+1)) .dead).get (ai b8.next)=.eD:=by rw [c0,if_neg (fun q=>by have:=dR q;omega)];exact hh.fd
   generalize ij.set (ai (b8.next+1)) .dead=vq at *
   have pb:p.shape=true:=by rw [Be,List.all_eq_true];exact hh.EX
   have jv:(p.pred 1).length=p.size:=N6 1 p
   have LQ:maxD (p.pred 1)=p.deep:=by have:=N7 1 p;omega
   rw [jv] at qk
   rw [LQ] at db
   have WV:=J9 p
   have f6:(b8.next=aa.next)=False:=eq_false (by omega)
   have f7:(aa.next=b8.next)=False:=eq_false (by omega)
   rw [Up,if_pos pb]
   by_cases bL:p.size≤4096
   · have f8:((4096:Int) < (p.size:Int))=False:=eq_false (by omega)
     by_cases b0:p.deep≤200
     · have f9:((200:Int) < (p.deep:Int))=False:=eq_false (by omega)
       simp +contextual only [Option.getD_none,qk.g,db.g,xe.g,f6,f7,f8,f9,eq_true bL,eq_true b0,if_false,if_true,decide_true,decide_false,d',V.list,aT.bg,lX,qG,↓aA,aI,simprocAttr]
       exact (hV.set (by omega) _).set (by omega) _
     · have f9:((200:Int) < (p.deep:Int))=True:=eq_true (by omega)
       simp +contextual only [Option.getD_none,qk.g,db.g,xe.g,f6,f7,f8,f9,eq_true bL,eq_false b0,if_false,if_true,decide_true,decide_false,d',V.list,aT.bg,lX,qG,↓aA,aI,simprocAttr]
       exact (hV.set (by omega) _).set (by omega) _
   · have f8:((4096:Int) < (p.size:Int))=True:=eq_true (by omega)
     simp +contextual only [Option.getD_none,qk.g,db.g,xe.g,f6,f7,f8,eq_false bL,if_false,if_true,decide_true,decide_false,d',V.list,aT.bg,lX,qG,↓aA,aI,simprocAttr]
     exact (hV.set (by omega) _).set (by omega) _
 · refine ⟨l.go 2 (some .ret),hh.k2,(by show (2:Nat)≠1;decide),?_⟩
   have pb:p.shape=false:=by rw [Be];exact acS (P:=fun x:Nat × aB=>x.2.own) vA hh.bad
   have aD:p.check=2:=by unfold aB.check;rw [pb];rfl
   rw [aD]
   have eK:=hh.bG
   have xe:=hh.rU.set (m:=b8.next+1) (by omega) .dead
   have hV:Ext h (ij.set (ai (b8.next+1)) .dead):=hU.set (by omega) _
   have qG:(ij.set (ai (b8.next+1)) .dead).get (ai b8.next)=.eD:=by rw [c0,if_neg (fun q=>by have:=dR q;omega)];exact hh.fd
   generalize ij.set (ai (b8.next+1)) .dead=vq at *
   have f6:(b8.next=aa.next)=False:=eq_false (by omega)
   simp +contextual only [j7.go,Option.getD_some,xe.g,f6,if_false,d',V.list,aT.bg,lX,qG,↓aA,aI,simprocAttr]
   exact hV.set (by omega) _
structure IF (bO eZ m:Nat) (l:j7) (d:List (Nat × aB)) (X:aN→Prop) (h:af):Prop where
 fn:Has h bO [.int .i64 (d.length:Nat)]
 bG:m<h.next
 k2:h.get (ai m)=.cg l
 j':eZ<h.next
 fd:h.get (ai eZ)=.eD
 kd:∀p,X p↔p=ai bO∨p=ai m
abbrev I4:Inv:=fun _ _ _=>False
set_option maxHeartbeats 4000000 in
theorem Uu {gl bO eZ m:Nat} {l:j7} {r:aT} (oK:gl≤bO) (Wh:gl≤m) (n3:bO≠m) (n4:bO≠eZ) (n10:m≠eZ)
 (F:uU Tryz.prog l 11 r [6,7] D_ Ea) (a6:l.st=0) (ag:l.c6=none) (cT:r 3=.ptr (ai bO) 0):
 w5 gl (ai m) (fun d X h=>IF bO eZ m l d X h) I4 where
 ext:=fun {d X h ab} K e=>⟨K.fn.ext e,Nat.lt_of_lt_of_le K.bG e.next,(e.get _ (e3 K.bG)).trans K.k2,Nat.lt_of_lt_of_le K.j' e.next,(e.get _ (e3 K.j')).trans K.fd,K.kd⟩
 bY:=fun {d X h} K b ah=>by
  rcases (K.kd b).1 ah with rfl | rfl
  · exact e3 K.fn.lt
  · exact e3 K.bG
 bG:=fun {d X h} K b ah=>by
  rcases (K.kd b).1 ah with rfl | rfl<;>rw [c8]<;>assumption
 Ak:=fun {d X h} k p ad K aX ay vP H=>by
  have hm:=GM a6 ag
  refine Ix (by decide) follows eQ F K.k2 a6 rfl ?_
  have bG:=K.bG
  have j':=K.j'
  have g3:=wJ (a:=6) (b:=7) (.int .i64 k) (.agg ad) r (j:=3) (by decide) (by decide) (by decide)
  rw [cT] at g3
  generalize l0 [6,7] [V.int .i64 k,.agg ad] r=bQ at *
  have mR:=K.fn.set (m:=m) n3 (.cg (l.go 1 l.c6))
  unfold D_
  refine ⟨rfl,K.k2,eA ?_⟩
  unfold Ea
  have bT:IntKind.i64.wrap ((d.length:Int)+1)=((d.length+1:Nat):Int):=by rw [wrap_i64 (by omega) (by omega)];rfl
  simp +contextual only [g3,mR.g,bT,↓aA,aI,simprocAttr]
  refine ⟨by rw [if_neg n3],X,((((Mod.refl X h).set (fun _=>(K.kd _).2 (.inr rfl)) _).set (fun _=>(K.kd _).2 (.inl rfl)) _).set (fun _=>(K.kd _).2 (.inr rfl)) _),fun b q=>.inl q,.inl ⟨?_,bG,?_,j',?_,K.kd⟩⟩
  · rw [List.length_append,List.length_singleton]
    exact (mR.put _).set n3 _
  · rw [c0,if_pos rfl,hm]
  · rw [c0,if_neg (fun q=>n10 (dR q)),c0,if_neg (fun q=>n4 (dR q)),c0,if_neg (fun q=>n10 (dR q))]
    exact K.fd
set_option maxHeartbeats 4000000 in
theorem ad3 (p:aB) (aO:p.size≤900000000) (ad:List V) (h:af) (H:b5 Any h p.enc ad):b_ Tryz.prog 30 [.agg ad] h fun x ab=>x=.int .i64 (p.size:Nat)∧Ext h ab:=by
 have j6:=H.p8
 have aQ:=H.gh
 obtain ⟨cF,cR,L,_⟩:=aB.open H
 have ni:ad.length≤top:=by rw [cR];simp [top]
 have cB:ad.length=4:=by rw [cR];rfl
 have yf:(ad.length≤17179869184)=True:=eq_true ni
 refine Tm rfl (eA ?_)
 unfold D'
 obtain ⟨aa,au,aP,cw⟩:=gY h ad
 obtain ⟨ae,az,bl,mR⟩:=gD aa [.int .i64 0] [.int .i64 0]
 have cf:=cw.ext bl
 have g4:mB 4 (b4.bg ad 0 false) 0=some (.agg ad):=by rw [yx,if_pos (by omega),List.drop_zero,List.take_of_length_le (by omega)]
 simp +contextual only [au,az,aQ,yf,cf.g,g4,↓aA,aI,simprocAttr]
 refine bM (Ip ad ae aQ ni) ?_
 rintro x b8 ⟨n,rfl,nC,ih⟩
 simp +contextual only [↓aA,aI,simprocAttr]
 refine HE (g:=86) (cs:=[.ptr (ai n) 0]) (by simp only [↓aA,cX,simprocAttr]) (by decide) ⟨_,Tryz.func86,by kernel_rfl⟩ ?_
 intro l F a6 ag
 have cz:=aP.next
 have ha:=bl.next
 have n6:=ih.next
 have fO:=cw.lt
 have h7:=mR.lt
 have lH:Ext b8 ((b8.new .eD).new (.cg l)):=((Ext.refl b8).new _).new _
 have hv:=((aP.trans bl).trans ih).trans lH
 have xc:=(mR.ext ih).ext lH
 have E:=Uu (gl:=h.next) (bO:=aa.next) (eZ:=b8.next) (m:=b8.next+1) (l:=l) (by omega) (by omega) (by omega) (by omega) (by omega) F a6 ag (by simp only [↓aA,cX,simprocAttr])
 have xa:IF aa.next b8.next (b8.next+1) l [] (fun b=>b=ai aa.next∨b=ai (b8.next+1)) ((b8.new .eD).new (.cg l)):=by
  refine ⟨xc,by rw [fs,fs];omega,m' _,by rw [fs,fs];omega,?_,fun p=>Iff.rfl⟩
  rw [h1,if_neg (fun q=>by have:=dR q;rw [fs] at this;omega),m']
 refine (Io E p aO _ ad _ (j6.ext hv) (nC.ext lH) xa).mono ?_
 rintro _ ij ⟨x,Ja,m8,O4,ak⟩
 have hU:Ext h ij:=hv.od m8 fun b ah=>by
  rcases ah with rfl | rfl<;>rw [c8]<;>omega
 rcases ak with ⟨rfl,hh⟩ | ⟨rfl,ig,vA,hh⟩
 · refine ⟨l,hh.k2,by rw [a6];decide,?_⟩
   rw [ag]
   have eK:=hh.bG
   have qk:=hh.fn.set (m:=b8.next+1) (by omega) .dead
   have hV:Ext h (ij.set (ai (b8.next+1)) .dead):=hU.set (by omega) _
   have qG:(ij.set (ai (b8.next+1)) .dead).get (ai b8.next)=.eD:=by rw [c0,if_neg (fun q=>by have:=dR q;omega)];exact hh.fd
   generalize ij.set (ai (b8.next+1)) .dead=vq at *
   rw [N6] at qk
   simp +contextual only [Option.getD_none,qk.g,d',V.list,aT.bg,lX,qG,↓aA,aI,simprocAttr]
   exact hV.set (by omega) _
 · exact hh.elim
abbrev kW [Lay] (B:Nat) (h:af) (l:List Int) (v:V):Prop:=dL B h 1 v l.length (p1 l)
section
variable [Lay] {B:Nat} {h ab:af} {l:List Int} {v:V}
theorem kW.nil (B:Nat) (h:af):kW B h [] .cq:=⟨rfl,rfl⟩
theorem kW.add (H:kW B h l v) (c9:B≤h.next) (hlen:l.length+1≤top) (n:Int):
 ∃e4 ab,mY 1 v (.slice (ai h.next) 0 1 1) (h.new (.bg [.int .i64 n] 0 false))=.val e4 ab∧kW B ab (l++[n]) e4∧Mod v.bc h ab∧h.next+1≤ab.next∧e4.one=true∧e4.cells=[e4]∧∀b,e4.bc b→v.bc b∨h.next<e9 b:=by
 obtain ⟨e4,ab,au,az,aM,bU,ey⟩:=zR (cs:=[.int .i64 n]) (Nat.le_refl _) H c9 (by omega) rfl rfl
 exact ⟨e4,ab,au,by (show dL B ab 1 e4 (l++[n]).length (p1 (l++[n])));rw [YG,List.length_append];exact az,aM,bU,az.v.one.1,az.v.one.2.1,ey⟩
end
structure Di (B bO l1 eZ m:Nat) (sm:aN) (l:j7) (d:List (Nat × aB)) (X:aN→Prop) (h:af):Prop where
 ex:∃v,Has h bO [v]∧kW B h ((d.map Prod.snd).foldl gC []) v∧(∀b,X b↔b=ai bO∨b=ai m∨b=sm∨v.bc b)
 mp:∃cQ:List (Int × Bool),ky V.bool h sm cQ∧(∀n,cl n cQ=if n ∈ (d.map Prod.snd).foldl gC [] then some true else none)
 l1:Has h l1 [.map sm]
 bG:m<h.next
 k2:h.get (ai m)=.cg l
 j':eZ<h.next
 fd:h.get (ai eZ)=.eD
 KF:B≤h.next
theorem AF (d:List (Nat × aB)) (k:Nat) (p:aB):((d++[(k,p)]).map Prod.snd).foldl gC []=gC ((d.map Prod.snd).foldl gC []) p:=by
 rw [List.map_append,List.foldl_append];rfl
set_option maxHeartbeats 8000000 in
theorem ae2 {gl B bO l1 eZ m:Nat} {sm:aN} {l:j7} {r:aT} (c9:gl≤bO) (rY:gl≤m) (K_:gl≤e9 sm) (cz:m≠bO) (ha:eZ≠bO) (n3:eZ≠m) (n4:l1≠bO) (n5:l1≠m) (s1:sm≠ai bO) (s2:sm≠ai m) (kQ:sm≠ai eZ) (sz:sm≠ai l1)
 (cx:bO<B) (cn:m<B) (hZ:eZ<B) (kZ:l1<B) (lE:e9 sm<B) (rM:gl≤B) (F:uU Tryz.prog l 31 r [10,11] Eb Ec) (a6:l.st=0) (ag:l.c6=none) (cT:r 3=.ptr (ai bO) 0) (fB:r 4=.ptr (ai l1) 0):
 w5 gl (ai m) (fun d X h=>Di B bO l1 eZ m sm l d X h) I4 where
 ext:=fun {d X h ab} K e=>by
  obtain ⟨v,bE,a2,a3⟩:=K.ex
  obtain ⟨cQ,bX,b'⟩:=K.mp
  exact ⟨⟨v,bE.ext e,a2.ext e,a3⟩,⟨cQ,bX.ext e,b'⟩,K.l1.ext e,Nat.lt_of_lt_of_le K.bG e.next,(e.get _ (e3 K.bG)).trans K.k2,Nat.lt_of_lt_of_le K.j' e.next,(e.get _ (e3 K.j')).trans K.fd,Nat.le_trans K.KF e.next⟩
 bY:=fun {d X h} K b ah=>by
  obtain ⟨v,bE,a2,a3⟩:=K.ex
  obtain ⟨cQ,bX,b'⟩:=K.mp
  rcases (a3 b).1 ah with rfl | rfl | rfl | ah
  · exact e3 bE.lt
  · exact e3 K.bG
  · exact bX.bY
  · exact a2.v.bY ah
 bG:=fun {d X h} K b ah=>by
  obtain ⟨v,bE,a2,a3⟩:=K.ex
  rcases (a3 b).1 ah with rfl | rfl | rfl | ah
  · rw [c8];exact c9
  · rw [c8];exact rY
  · exact K_
  · have:=a2.base ah;omega
 Ak:=fun {d X h} k p ad K aX ay vP H=>by
  obtain ⟨v,bE,a2,a3⟩:=K.ex
  obtain ⟨cQ,bX,b'⟩:=K.mp
  obtain ⟨cF,rfl,L,nV⟩:=aB.open H
  have ol:=L.one
  have hm:=GM a6 ag
  refine Ix (by decide) follows eQ F K.k2 a6 rfl ?_
  obtain ⟨aa,au,aP,cw⟩:=gD h z4 (cJ p cF)
  have ch:aa.get (ai m)=.cg l:=(aP.get _ (e3 K.bG)).trans K.k2
  have bG:=K.bG
  have j':=K.j'
  have agT:=K.l1.lt
  have afN:=bE.lt
  have af_:=K.KF
  have q6:=aP.next
  have g11:=OV (a:=10) (b:=11) (.int .i64 k) (.agg (cJ p cF)) r (by decide)
  have g3:=wJ (a:=10) (b:=11) (.int .i64 k) (.agg (cJ p cF)) r (j:=3) (by decide) (by decide) (by decide)
  have g4:=wJ (a:=10) (b:=11) (.int .i64 k) (.agg (cJ p cF)) r (j:=4) (by decide) (by decide) (by decide)
  rw [cT] at g3
  rw [fB] at g4
  generalize l0 [10,11] [V.int .i64 k,.agg (cJ p cF)] r=bQ at *
  refine eA ?_
  unfold Eb
  simp +contextual only [g11,au,ol.1,ol.2.1,↓aA,aI,simprocAttr]
  refine ⟨ch,eA ?_⟩
  have qV:∀k:Nat,k<B→¬v.bc (ai k):=fun k ay q=>by have:=a2.base q;rw [c8] at this;omega
  have Bi:¬v.bc sm:=fun q=>by have:=a2.base q;omega
  have cf:=cw.set (m:=m) (by omega) (.cg (l.go 1 l.c6))
  have mR:=(bE.ext aP).set (m:=m) (fun q=>cz q.symm) (.cg (l.go 1 l.c6))
  have nE:=(K.l1.ext aP).set (m:=m) n5 (.cg (l.go 1 l.c6))
  have m1:Mod (fun b=>b=ai m) aa (aa.set (ai m) (.cg (l.go 1 l.c6))):=(Mod.refl (fun b=>b=ai m) aa).set (fun _=>rfl) _
  have fM:kW B (aa.set (ai m) (.cg (l.go 1 l.c6))) _ v:=dL.mod m1 (dL.ext aP a2) fun b q z=>qV m cn (by rw [←show b=ai m from z];exact q)
  have M2:=(bX.ext aP).mod m1 (fun z=>s2 z)
  have xJ:(aa.set (ai m) (.cg (l.go 1 l.c6))).get (ai m)=.cg (l.go 1 l.c6):=by rw [c0,if_pos rfl]
  have vn:(aa.set (ai m) (.cg (l.go 1 l.c6))).get (ai eZ)=.eD:=by rw [c0,if_neg (fun q=>n3 (dR q).symm)];exact (aP.get _ (e3 j')).trans K.fd
  have I1:Mod X h (aa.set (ai m) (.cg (l.go 1 l.c6))):=(aP.mod X).set (fun _=>(a3 _).2 (.inr (.inl rfl))) _
  have vK:(aa.set (ai m) (.cg (l.go 1 l.c6))).next=aa.next:=rfl
  generalize aa.set (ai m) (.cg (l.go 1 l.c6))=ae at *
  have hlen:((d.map Prod.snd).foldl gC []).length≤d.length:=by have:=EY (d.map Prod.snd) [];simpa using this
  have iT:=M2.look p.n (.bool false) false
  rw [b'] at iT
  unfold Ec
  have gS:∀(vx:gC ((d.map Prod.snd).foldl gC []) p=(d.map Prod.snd).foldl gC []),∃f',Mod X h (ae.set (ai m) (.cg (l.go 0 none)))∧Grow X f' h∧Di B bO l1 eZ m sm l (d++[(k,p)]) f' (ae.set (ai m) (.cg (l.go 0 none))):=by
   intro vx
   have m9:Mod (fun b=>b=ai m) ae (ae.set (ai m) (.cg (l.go 0 none))):=(Mod.refl (fun b=>b=ai m) ae).set (fun _=>rfl) _
   refine ⟨X,I1.set (fun _=>(a3 _).2 (.inr (.inl rfl))) _,fun b q=>.inl q,⟨⟨v,mR.set (fun q=>cz q.symm) _,?_,a3⟩,⟨cQ,M2.mod m9 (fun z=>s2 z),?_⟩,nE.set n5 _,?_,?_,?_,?_,?_⟩⟩
   · rw [AF,vx]
     exact dL.mod m9 fM fun b q z=>qV m cn (by rw [←show b=ai m from z];exact q)
   · intro n;rw [AF,vx];exact b' n
   · show m<ae.next;omega
   · rw [c0,if_pos rfl,hm]
   · show eZ<ae.next;omega
   · rw [c0,if_neg (fun q=>n3 (dR q).symm)];exact vn
   · show B≤ae.next;omega
  by_cases c:p.k=1
  · by_cases b0:p.n ∈ (d.map Prod.snd).foldl gC []
    · rw [if_pos b0] at iT
      simp only [cond_false] at iT
      simp +contextual only [cf.g,eq_true c,g4,nE.g,jO.eq,iT,↓aA,aI,simprocAttr]
      obtain ⟨f',bx,c1,iE⟩:=gS (by unfold gC;rw [if_neg (fun q=>q.2 b0)])
      exact ⟨xJ,f',bx,c1,.inl iE⟩
    · rw [if_neg b0] at iT
      simp only [cond_false] at iT
      obtain ⟨aH,l4,ly,jc,zj⟩:=M2.lz p.n true
      have dt:=cf.mod jc fun q=>by have:=bX.bY;unfold Old at this;rw [←q,c8] at this;omega
      have rF:=mR.mod jc fun q=>s1 q.symm
      have QQ:=nE.mod jc fun q=>sz q.symm
      have gq:kW B aH _ v:=dL.mod jc fM fun b q z=>Bi (by rw [←show b=sm from z];exact q)
      have AL:aH.get (ai m)=.cg (l.go 1 l.c6):=(jc.get _ (e3 (by omega)) (fun q=>s2 q.symm)).trans xJ
      have AJ:aH.get (ai eZ)=.eD:=(jc.get _ (e3 (by omega)) (fun q=>kQ q.symm)).trans vn
      obtain ⟨e4,bf,bu,I',dP,kP,ab1,fj,rU⟩:=kW.add gq (by omega) (by unfold top;omega) p.n
      have sX:=rF.mod dP (qV bO cx)
      have rK:=QQ.mod dP (qV l1 kZ)
      have xb:=ly.mod dP Bi
      have VV:bf.get (ai m)=.cg (l.go 1 l.c6):=(dP.get _ (e3 (by omega)) (qV m cn)).trans AL
      have VT:bf.get (ai eZ)=.eD:=(dP.get _ (e3 (by omega)) (qV eZ hZ)).trans AJ
      have vx:gC ((d.map Prod.snd).foldl gC []) p=(d.map Prod.snd).foldl gC []++[p.n]:=by unfold gC;rw [if_pos ⟨c,b0⟩]
      have L7:∀k:Nat,k<B→¬e4.bc (ai k):=fun k ay q=>by have:=I'.base q;rw [c8] at this;omega
      simp +contextual only [cf.g,dt.g,eq_true c,g3,g4,nE.g,rF.g,sX.g,jO.eq,iT,l4,bu,ab1,fj,↓aA,aI,simprocAttr]
      have BF:Mod (fun b=>b=ai bO) bf (bf.set (ai bO) (.bg [e4] 0 false)):=(Mod.refl (fun b=>b=ai bO) bf).set (fun _=>rfl) _
      have GQ:∀g:af,Mod (fun b=>b=ai m) g (g.set (ai m) (.cg (l.go 0 none))):=fun g=>(Mod.refl (fun b=>b=ai m) g).set (fun _=>rfl) _
      refine ⟨by rw [if_neg (fun q=>cz q.symm)];exact VV,fun b=>b=ai bO∨b=ai m∨b=sm∨e4.bc b,?_,?_,.inl ⟨⟨e4,(sX.put _).set (fun q=>cz q.symm) _,?_,fun b=>Iff.rfl⟩,⟨_,(xb.mod BF (fun z=>s1 z)).mod (GQ _) (fun z=>s2 z),?_⟩,(rK.set (m:=bO) n4 _).set n5 _,?_,?_,?_,?_,?_⟩⟩
      · exact (((I1.trans (jc.mono fun b _ q=>(a3 b).2 (.inr (.inr (.inl q))))).trans (dP.mono fun b _ q=>(a3 b).2 (.inr (.inr (.inr q))))).set (fun _=>(a3 _).2 (.inl rfl)) _).set (fun _=>(a3 _).2 (.inr (.inl rfl))) _
      · intro b q
        rcases q with q | q | q | q
        · exact .inl ((a3 b).2 (.inl q))
        · exact .inl ((a3 b).2 (.inr (.inl q)))
        · exact .inl ((a3 b).2 (.inr (.inr (.inl q))))
        · by_cases z:v.bc b
          · exact .inl ((a3 b).2 (.inr (.inr (.inr z))))
          · rcases rU b q with z2 | z2
            · exact absurd z2 z
            · exact .inr (by omega)
      · rw [AF,vx]
        exact dL.mod (GQ _) (dL.mod BF I' fun b q z=>L7 bO cx (by rw [←show b=ai bO from z];exact q)) fun b q z=>L7 m cn (by rw [←show b=ai m from z];exact q)
      · intro n
        rw [AF,vx,M1,b']
        by_cases aS:n=p.n
        · subst aS;simp
        · rw [if_neg aS]
          by_cases vK:n ∈ (d.map Prod.snd).foldl gC []
          · rw [if_pos vK,if_pos (by simp [vK])]
          · rw [if_neg vK,if_neg (by simp [vK,aS])]
      · show m<bf.next;omega
      · rw [c0,if_pos rfl,hm]
      · show eZ<bf.next;omega
      · rw [c0,if_neg (fun q=>n3 (dR q).symm),c0,if_neg (fun q=>ha (dR q).symm)];exact VT
      · show B≤bf.next;omega
  · simp +contextual only [cf.g,eq_false c,↓aA,aI,simprocAttr]
    obtain ⟨f',bx,c1,iE⟩:=gS (by unfold gC;rw [if_neg (fun q=>c q.1)])
    exact ⟨xJ,f',bx,c1,.inl iE⟩
set_option maxHeartbeats 8000000 in
theorem ae3 (p:aB) (aO:p.size≤900000000) (ad:List V) (h:af) (H:b5 Any h p.enc ad):b_ Tryz.prog 34 [.agg ad] h fun x ab=>kW h.next ab p.vars x∧Ext h ab:=by
 have j6:=H.p8
 have aQ:=H.gh
 obtain ⟨cF,cR,L,_⟩:=aB.open H
 have ni:ad.length≤top:=by rw [cR];simp [top]
 have cB:ad.length=4:=by rw [cR];rfl
 have yf:(ad.length≤17179869184)=True:=eq_true ni
 refine Tp rfl (eA ?_)
 unfold c34
 obtain ⟨aa,au,aP,cw⟩:=gY h ad
 obtain ⟨ae,az,bl,mR⟩:=gY aa [.cq]
 have bW:Ext ae (ae.new (.mp [] 0)):=(Ext.refl _).new _
 have rD:=ky.new V.bool ae
 have BS:(ae.new (.mp [] 0)).next=ae.next+1:=rfl
 obtain ⟨bf,bU,eu,rK⟩:=gD (ae.new (.mp [] 0)) [.kk] [.map (ai ae.next)]
 rw [BS] at rK bU
 have eS:=((cw.ext bl).ext bW).ext eu
 have sX:=(mR.ext bW).ext eu
 have xb:=rD.ext eu
 have jJ:=((aP.trans bl).trans bW).trans eu
 have g4:mB 4 (b4.bg ad 0 false) 0=some (.agg ad):=by rw [yx,if_pos (by omega),List.drop_zero,List.take_of_length_le (by omega)]
 simp +contextual only [au,az,bU,BS,aQ,yf,eS.g,g4,o4,uj,aR.opt,↓aA,aI,simprocAttr]
 refine bM (Ip ad bf aQ ni) ?_
 rintro x b8 ⟨n,rfl,nC,ih⟩
 simp +contextual only [↓aA,aI,simprocAttr]
 refine HE (g:=86) (cs:=[.ptr (ai n) 0]) (by simp only [↓aA,cX,simprocAttr]) (by decide) ⟨_,Tryz.func86,by kernel_rfl⟩ ?_
 intro l F a6 ag
 have cz:=aP.next
 have ha:=bl.next
 have n4:=eu.next
 have n6:=ih.next
 have fO:=cw.lt
 have h7:=mR.lt
 have GG:=rK.lt
 have lH:Ext b8 ((b8.new .eD).new (.cg l)):=((Ext.refl b8).new _).new _
 have hv:=(jJ.trans ih).trans lH
 have xc:=(sX.ext ih).ext lH
 have QR:=(rK.ext ih).ext lH
 have Qz:=(xb.ext ih).ext lH
 have us:e9 (ai ae.next)=ae.next:=c8 _
 have E:=ae2 (gl:=h.next) (B:=b8.next+2) (bO:=aa.next) (l1:=ae.next+1) (eZ:=b8.next) (m:=b8.next+1) (sm:=ai ae.next) (l:=l) (by omega) (by omega) (by rw [us];omega) (by omega) (by omega) (by omega) (by omega) (by omega)
  (fun q=>by have:=dR q;omega) (fun q=>by have:=dR q;omega) (fun q=>by have:=dR q;omega) (fun q=>by have:=dR q;omega) (by omega) (by omega) (by omega) (by omega) (by rw [us];omega) (by omega) F a6 ag (by simp only [↓aA,cX,simprocAttr]) (by simp only [↓aA,cX,simprocAttr])
 have xa:Di (b8.next+2) aa.next (ae.next+1) b8.next (b8.next+1) (ai ae.next) l [] (fun b=>b=ai aa.next∨b=ai (b8.next+1)∨b=ai ae.next) ((b8.new .eD).new (.cg l)):=by
  refine ⟨⟨.cq,xc,kW.nil _ _,fun b=>?_⟩,⟨[],Qz,fun n=>by simp [cl]⟩,QR,by rw [fs,fs];omega,m' _,by rw [fs,fs];omega,?_,by rw [fs,fs];omega⟩
  · simp [V.bc]
  · rw [h1,if_neg (fun q=>by have:=dR q;rw [fs] at this;omega),m']
 refine (Io E p aO _ ad _ (j6.ext hv) (nC.ext lH) xa).mono ?_
 rintro _ ij ⟨x,Ja,m8,O4,ak⟩
 have hU:Ext h ij:=hv.od m8 fun b ah=>by
  rcases ah with rfl | rfl | rfl<;>rw [c8]<;>omega
 rcases ak with ⟨rfl,hh⟩ | ⟨rfl,ig,vA,hh⟩
 · refine ⟨l,hh.k2,by rw [a6];decide,?_⟩
   rw [ag]
   have eK:=hh.bG
   obtain ⟨v,bE,a2,a3⟩:=hh.ex
   rw [B8] at a2
   have qV:∀k:Nat,k<b8.next+2→¬v.bc (ai k):=fun k ay q=>by have:=a2.base q;rw [c8] at this;omega
   have qk:=bE.set (m:=b8.next+1) (by omega) .dead
   have md:Mod (fun b=>b=ai (b8.next+1)) ij (ij.set (ai (b8.next+1)) .dead):=(Mod.refl (fun b=>b=ai (b8.next+1)) ij).set (fun _=>rfl) _
   have I_:=dL.mod md a2 fun b q z=>qV (b8.next+1) (by omega) (by rw [←show b=ai (b8.next+1) from z];exact q)
   have hV:Ext h (ij.set (ai (b8.next+1)) .dead):=hU.set (by omega) _
   have qG:(ij.set (ai (b8.next+1)) .dead).get (ai b8.next)=.eD:=by rw [c0,if_neg (fun q=>by have:=dR q;omega)];exact hh.fd
   generalize ij.set (ai (b8.next+1)) .dead=vq at *
   have NO:=I_.v.one
   simp +contextual only [Option.getD_none,qk.g,NO.1,NO.2.1,d',V.list,aT.bg,lX,qG,↓aA,aI,simprocAttr]
   refine ⟨dL.mono (dL.mod ((Mod.refl (fun b=>b=ai b8.next) vq).set (fun _=>rfl) _) I_ fun b q z=>qV b8.next (by omega) (by rw [←show b=ai b8.next from z];exact q)) (by omega),hV.set (by omega) _⟩
 · exact hh.elim
end Go.Proofs.YthemdhlheglhoaaGreatDoor
namespace Go.Proofs.YthemdhlheglhoaaGreatDoor
open Go aY
theorem kW.hf {B:Nat} {h:af} {l:List Int} {v:V} (H:kW B h l v) (ao:l.length≤top):eg Any h 1 (l.map aY.encI) v:=dL.H3 H ao
end Go.Proofs.YthemdhlheglhoaaGreatDoor
namespace Go.Proofs.YthemdhlheglhoaaGreatDoor
open Go aY
set_option maxHeartbeats 4000000 in
theorem JV:∀(N:Nat) (t:aB),t.size≤N→N≤1000000000→∀(ad:List V) (h:af),b5 Any h t.enc ad→b_ Tryz.prog 90 [.agg ad] h fun x ab=>∃w,x=.agg (cJ t w)∧fr ab (fw h.next ab.next) t.l w∧Ext h ab
 | 0,t,aO,_,_,_,_=>by have:=y2 t;omega
 | N+1,t,aO,Wp,ad,h,H=>by
   obtain ⟨cF,rfl,L,_⟩:=aB.open H
   have bD:N≤1000000000:=by omega
   have ol:=L.one
   have ao:=L.len
   have hle:=L.le
   rw [List.length_map] at ao hle
   have cc:=size_eq t
   have jv:=y1 t.l
   refine TX rfl (eA ?_)
   unfold En
   obtain ⟨aa,au,aP,cw⟩:=gY h (cJ t cF)
   obtain ⟨ae,az,bl,hI⟩:=gY aa z4
   have cf:=cw.ext bl
   have cz:=aP.next
   have ha:=bl.next
   have bE:=cw.lt
   have adf:=hI.lt
   have dt:=cf.put (cJ t .cq)
   have jk:=hI.set (m:=h.next) (by omega) (.bg (cJ t .cq) 0 false)
   have fT:Ext h (ae.set (ai h.next) (.bg (cJ t .cq) 0 false)):=(aP.trans bl).set (Nat.le_refl _) _
   have n3:(ae.set (ai h.next) (.bg (cJ t .cq) 0 false)).next=ae.next:=rfl
   simp +contextual only [ol.1,ol.2.1,au,az,cf.g,ao,↓aA,aI,simprocAttr]
   generalize ae.set (ai h.next) (.bg (cJ t .cq) 0 false)=aH at *
   refine ll (fun r g=>r 1=.ptr (ai h.next) 0∧r 2=.ptr (ai aa.next) 0∧r 9=cF∧r 10=.int .i64 t.l.length∧∃(i:Nat) (w:V),r 11=.int .i64 i∧i≤t.l.length∧Has g h.next (cJ t w)∧Has g aa.next z4∧
    fr g (fw aH.next g.next) (t.l.take i) w∧Ext h g∧aH.next≤g.next) (fun r g=>t.l.length - (r 11).toN) ?_ ?_
   · exact ⟨by simp only [↓aA,cX,simprocAttr],by simp only [↓aA,cX,simprocAttr],by simp only [↓aA,cX,simprocAttr],by simp only [↓aA,cX,simprocAttr],0,.cq,by simp only [↓aA,cX,simprocAttr]<;>rfl,by omega,dt,jk,fr.nil _ _,fT,Nat.le_refl _⟩
   rintro r g ⟨bS,b7,HB,Hz,i,w,HA,aF,A,R,W,E,aE⟩
   unfold JQ
   have l6:=W.one
   by_cases aW:i<t.l.length
   · have g0:((i:Int) < (t.l.length:Int))=True:=eq_true (by omega)
     obtain ⟨b,off,wl,fz,X,mW,ld⟩:=aB.q1 (L.ext E) (k:=.i64) aW
     have rQ:=ld g (Ext.refl g)
     have bz:=mW.one
     have ks:=sF aW (by unfold top at hle;omega)
     have Xq:=Hv (t:=t) (List.getElem_mem aW)
     obtain ⟨g1,eR,bx,Z⟩:=gD g z4 (cJ t.l[i] wl)
     have sL:=A.ext bx
     simp +contextual only [bS,b7,HB,Hz,HA,g0,fz,rQ,eR,Z.g,A.g,sL.g,bz.1,bz.2.1,l6.1,l6.2.1,↓aA,aI,simprocAttr]
     refine bM (JV N t.l[i] (by omega) bD _ g1 (X.ext bx)) ?_
     rintro x g2 ⟨u,rfl,U,c1⟩
     have CH:=bx.trans c1
     have wZ:=A.ext CH
     have Db:=R.ext CH
     have Dn:=Z.ext c1
     have afB:=Z.lt
     have q6:=bx.next
     have o5:=c1.next
     have h':=U.one
     have nV:t.l[i].s.length≤top:=by obtain ⟨_,_,_,q⟩:=aB.open X;exact q
     obtain ⟨aj,g3,bu,bB,dP,kP⟩:=(W.ext CH).add (t:=t.l[i]) (T:=fw g1.next g2.next) (u:=u) U (fun b q z=>by unfold fw at q z;omega) (fun b q=>by unfold fw at q;unfold Old;omega) (fun b q=>by unfold fw at q;unfold Old;omega) (by rw [List.length_take];unfold top;omega) nV
     have qP:∀n,n<aH.next→¬w.bc (ai n):=fun n aS q=>by have:=W.br _ q;unfold fw at this;rw [c8] at this;omega
     have w0:=wZ.mod dP (qP _ (by omega))
     have Dc:=Db.mod dP (qP _ (by omega))
     have yS:=bB.one
     have fT:Ext h g3:=(E.trans CH).od dP fun b q=>by have:=W.br _ q;unfold fw at this;omega
     have f1:(g2.next=h.next)=False:=eq_false (by omega)
     simp +contextual only [f1,if_false,bS,b7,HB,Hz,HA,Z.g,Dn.g,A.g,sL.g,wZ.g,w0.g,h'.1,h'.2.1,l6.1,l6.2.1,yS.1,yS.2.1,bu,ks,↓aA,aI,simprocAttr]
     refine ⟨⟨i+1,aj,rfl,aW,w0.put _,Dc.set (by omega) _,?_,fT.set (by omega) _,by omega⟩,by omega⟩
     rw [take_one aW]
     refine (bB.je fun b q=>?_).mod ((Mod.refl (fun x=>x=ai h.next) g3).set (fun _=>rfl) _) fun b q z=>?_
     · unfold fw at q ⊢;have:=dP.next;omega
     · rw [show b=ai h.next from z] at q;unfold fw at q;rw [c8] at q;omega
   · have g0:((i:Int) < (t.l.length:Int))=False:=eq_false (by omega)
     rw [List.take_of_length_le (by omega)] at W
     have f1:(aa.next=h.next)=False:=eq_false (by omega)
     have f2:(h.next=aa.next)=False:=eq_false (by omega)
     simp +contextual only [bS,b7,HB,Hz,HA,g0,R.g,A.g,l6.1,l6.2.1,f1,f2,↓aA,aI,simprocAttr]
     refine ⟨_,rfl,(W.mod ((Mod.refl (fun x=>x=ai aa.next) g).set (fun _=>rfl) _) fun b q z=>?_).je fun b q=>?_,E.set (by omega) _⟩
     · rw [show b=ai aa.next from z] at q;unfold fw at q;rw [c8] at q;omega
     · unfold fw at q ⊢;exact ⟨by omega,q.2⟩
section
variable [Lay]
def mK (F:aN→Prop) (h:af):List (Int × List V)→et→Prop
 | [],[]=>True
 | (n,cs)::cQ,(m,t)::s=>n=m∧b5 F h t.enc cs∧mK F h cQ s
 | _,_=>False
structure hX (F:aN→Prop) (h:af) (b:aN) (s:et):Prop where
 ex:∃cQ,ky V.agg h b cQ∧mK F h cQ s
variable {F:aN→Prop} {h ab:af} {b:aN} {s:et} {cQ:List (Int × List V)}
theorem mK.mod {ej M:aN→Prop} (m:Mod M h ab) (cO:∀b,F b→Old h b→¬M b∧ej b) (A:mK F h cQ s):mK ej ab cQ s:=by
 induction cQ generalizing s with
 | nil=>cases s with
   | nil=>trivial
   | cons p s=>exact A.elim
 | cons p cQ bj=>cases s with
   | nil=>exact A.elim
   | cons q s=>
     obtain ⟨bE,a2,a3⟩:=A
     exact ⟨bE,a2.mod m cO,bj a3⟩
theorem mK.ext (e:Ext h ab) (A:mK F h cQ s):mK F ab cQ s:=A.mod (e.mod fun _=>False) fun b q _=>⟨fun z=>z,q⟩
theorem mK.look (A:mK F h cQ s) (n:Int):(cl n s=none∧cl n cQ=none)∨∃t cs,cl n s=some t∧cl n cQ=some cs∧b5 F h t.enc cs:=by
 induction cQ generalizing s with
 | nil=>cases s with
   | nil=>exact .inl ⟨rfl,rfl⟩
   | cons p s=>exact A.elim
 | cons p cQ bj=>cases s with
   | nil=>exact A.elim
   | cons q s=>
     obtain ⟨a,cs⟩:=p
     obtain ⟨c,t⟩:=q
     obtain ⟨bE,a2,a3⟩:=A
     subst bE
     simp only [cl]
     by_cases aS:n=a
     · rw [if_pos aS,if_pos aS];exact .inr ⟨t,cs,rfl,rfl,a2⟩
     · rw [if_neg aS,if_neg aS];exact bj a3
theorem mK.put (A:mK F h cQ s) (n:Int) {t:aB} {cs:List V} (H:b5 F h t.enc cs):mK F h (nv n cs cQ) (nv n t s):=by
 induction cQ generalizing s with
 | nil=>cases s with
   | nil=>exact ⟨rfl,H,trivial⟩
   | cons p s=>exact A.elim
 | cons p cQ bj=>cases s with
   | nil=>exact A.elim
   | cons q s=>
     obtain ⟨a,s'⟩:=p
     obtain ⟨c,rn⟩:=q
     obtain ⟨bE,a2,a3⟩:=A
     subst bE
     simp only [nv]
     by_cases aS:n=a
     · rw [if_pos aS,if_pos aS];exact ⟨rfl,H,a3⟩
     · rw [if_neg aS,if_neg aS];exact ⟨rfl,a2,bj a3⟩
theorem hX.ext (H:hX F h b s) (e:Ext h ab):hX F ab b s:=by
 obtain ⟨cQ,bE,a2⟩:=H.ex
 exact ⟨cQ,bE.ext e,a2.ext e⟩
theorem hX.mod {ej M:aN→Prop} (H:hX F h b s) (m:Mod M h ab) (ah:¬M b) (cO:∀b,F b→Old h b→¬M b∧ej b):hX ej ab b s:=by
 obtain ⟨cQ,bE,a2⟩:=H.ex
 exact ⟨cQ,bE.mod m ah,a2.mod m cO⟩
theorem hX.look (H:hX F h b s) (n:Int) (z:V) (ok:Bool):(cl n s=none∧oa k1 z ok h (.map b) (.int .i64 n)=some (bif ok then .tuple [z,.bool false] else z))∨
 ∃t cs,cl n s=some t∧b5 F h t.enc cs∧oa k1 z ok h (.map b) (.int .i64 n)=some (bif ok then .tuple [.agg cs,.bool true] else .agg cs):=by
 obtain ⟨cQ,bE,a2⟩:=H.ex
 have iT:=bE.look n z ok
 rcases a2.look n with ⟨aP,bl⟩ | ⟨t,cs,aP,bl,bW⟩
 · rw [bl] at iT;exact .inl ⟨aP,iT⟩
 · rw [bl] at iT;exact .inr ⟨t,cs,aP,bW,iT⟩
theorem hX.lz (H:hX F h b s) (n:Int) {t:aB} {cs:List V} (K:b5 F h t.enc cs) (jS:¬F b):∃ab,nz k1 h (.map b) (.int .i64 n) (.agg cs)=some ab∧hX F ab b (nv n t s)∧Mod (fun p=>p=b) h ab∧ab.next=h.next:=by
 obtain ⟨cQ,bE,a2⟩:=H.ex
 obtain ⟨ab,l4,ly,jc,zj⟩:=bE.lz n cs
 exact ⟨ab,l4,⟨_,ly,(a2.put n K).mod jc fun p q _=>⟨fun z=>jS (by rw [←show p=b from z];exact q),q⟩⟩,jc,zj⟩
theorem hX.new (F:aN→Prop) (h:af):hX F (h.new (.mp [] 0)) (ai h.next) []:=⟨[],ky.new V.agg h,trivial⟩
end
end Go.Proofs.YthemdhlheglhoaaGreatDoor
namespace Go.Proofs.YthemdhlheglhoaaGreatDoor
open Go aY
abbrev Fr (er:Nat):aN→Prop:=fun b=>b≠ai er
theorem ac9 (s:et) {l:List aB} {i:Nat} {ρ:Int} (h:i<l.length) (Yp:¬ρ<0):gi s (l.drop i) ρ=((l[i].gU s ρ).1::(gi s (l.drop (i+1)) (l[i].gU s ρ).2).1,(gi s (l.drop (i+1)) (l[i].gU s ρ).2).2):=by
 rw [List.drop_eq_getElem_cons h,gi,if_neg Yp]
set_option maxHeartbeats 16000000 in
theorem Hw (s:et) (qN:∀n u,cl n s=some u→u.size≤900000000):∀(N:Nat) (t:aB),t.size≤N→N≤900000000→∀(ρ:Int) (eG:aN) (er:Nat) (ad:List V) (h:af),0≤ρ→ρ≤1000000000→eG≠ai er→b5 (Fr er) h t.enc ad→hX (Fr er) h eG s→Has h er [.int .i64 ρ]→
 b_ Tryz.prog 60 [.map eG,.agg ad,.ptr (ai er) 0] h fun x ab=>∃w,x=.agg (cJ (t.gU s ρ).1 w)∧fr ab (fw h.next ab.next) (t.gU s ρ).1.l w∧(t.gU s ρ).1.s.length≤top∧Has ab er [.int .i64 (t.gU s ρ).2]∧Mod (fun b=>b=ai er) h ab
 | 0,t,aO,_,_,_,_,_,_,_,_,_,_,_,_=>by have:=y2 t;omega
 | N+1,t,aO,Wp,ρ,eG,er,ad,h,ags,agt,pR,H,kY,rG=>by
   have j6:=H
   obtain ⟨cF,rfl,L,nV⟩:=aB.open H
   have bD:N≤900000000:=by omega
   have ol:=L.one
   have ao:=L.len
   have hle:=L.le
   rw [List.length_map] at ao hle
   have cc:=size_eq t
   have jv:=y1 t.l
   refine TD rfl (eA ?_)
   unfold Eh
   obtain ⟨aa,au,aP,cw⟩:=gY h (cJ t cF)
   obtain ⟨ae,az,bl,hI⟩:=gY aa z4
   have cf:=cw.ext bl
   have e0:=aP.trans bl
   have cz:=aP.next
   have ha:=bl.next
   have ud:=cw.lt
   have M7:=hI.lt
   have agD:=rG.lt
   have M2:=kY.ext e0
   have De:=rG.ext e0
   rw [ac8]
   have rest:∀(cB:af) (eL:Has cB h.next (cJ t .cq)) (qn:Has cB aa.next z4) (zK:Has cB er [.int .i64 (ρ-1)]) (sW:Mod (fun b=>b=ai er) h cB) (n3:ae.next≤cB.next) {r:aT} {Q:c'→aT→af→Prop} (bQ:r 0=.map eG) (b7:r 2=.ptr (ai er) 0) (fB:r 4=.ptr (ai h.next) 0) (ez:r 6=.ptr (ai aa.next) 0) (su:r 42=cF) (sv:r 43=.int .i64 t.l.length) (sw:r 44=.int .i64 0)
    (c2:∀e r g w,e.ends→r 6=.ptr (ai aa.next) 0→Has g aa.next (cJ (.mk t.k t.n t.s (gi s t.l (ρ-1)).1) w)→fr g (fw h.next g.next) (gi s t.l (ρ-1)).1 w→Has g er [.int .i64 (gi s t.l (ρ-1)).2]→Mod (fun b=>b=ai er) h g→Q e r g),
    yC Tryz.prog Ei [.bc 0,.c (bV.seq (bV.aJ [⟨(some 62),.ki 4 (.t 4),none,[4]⟩,⟨none,.st 4 (.t 6) (.t 62),none,[6,62]⟩]) (bV.ret))] r cB Q:=by
    intro cB eL qn zK sW n3 r Q bQ b7 fB ez su sv sw c2
    refine ll (fun r g=>r 0=.map eG∧r 2=.ptr (ai er) 0∧r 4=.ptr (ai h.next) 0∧r 6=.ptr (ai aa.next) 0∧r 42=cF∧r 43=.int .i64 t.l.length∧∃(i:Nat) (ox:Int) (rQ:List aB) (w:V),r 44=.int .i64 i∧i≤t.l.length∧-900000000≤ox∧ox≤ρ∧rQ.length≤i∧Has g er [.int .i64 ox]∧Has g h.next (cJ t w)∧Has g aa.next z4∧
     fr g (fw cB.next g.next) rQ w∧Mod (fun b=>b=ai er) h g∧cB.next≤g.next∧gi s t.l (ρ-1)=(rQ++(gi s (t.l.drop i) ox).1,(gi s (t.l.drop i) ox).2)) (fun r g=>t.l.length - (r 44).toN) ?_ ?_
    · exact ⟨bQ,b7,fB,ez,su,sv,0,ρ-1,[],.cq,sw,by omega,by omega,by omega,Nat.le_refl _,zK,eL,qn,fr.nil _ _,sW,Nat.le_refl _,by simp⟩
    clear bQ b7 fB ez su sv sw
    rintro r g ⟨bQ,b7,fB,ez,su,sv,i,ox,rQ,w,sw,aF,agu,agv,Ll,rG,A,R,W,M,aE,ag⟩
    unfold Ei
    have l6:=W.one
    have f1:(aa.next=h.next)=False:=eq_false (by omega)
    have f2:(h.next=aa.next)=False:=eq_false (by omega)
    have finish:∀(fN:gi s t.l (ρ-1)=(rQ,ox)) {g1:af} (bx:Ext g g1) {r:aT} {e:c'},e.ends→r 6=.ptr (ai aa.next) 0→Q e r (g1.set (ai aa.next) (.bg [.int .i64 t.k,.int .i64 t.n,.str t.s,w] 0 false)):=by
     intro fN g1 bx r e he adg
     have BS:=bx.next
     refine c2 e r _ w he adg ?_ ?_ ?_ ((M.trans (bx.mod _)).fresh cz _)
     · rw [fN];exact (R.ext bx).put _
     · rw [fN]
       refine ((W.ext bx).mod ((Mod.refl (fun x=>x=ai aa.next) g1).set (fun _=>rfl) _) fun b q z=>?_).je fun b q=>?_
       · rw [show b=ai aa.next from z] at q;unfold fw at q;rw [c8] at q;omega
       · unfold fw at q ⊢;exact ⟨by omega,by rw [nr];omega⟩
     · rw [fN];exact (rG.ext bx).set (by omega) _
    by_cases aW:i<t.l.length
    · have g0:((i:Int) < (t.l.length:Int))=True:=eq_true (by omega)
      obtain ⟨b,off,wl,fz,X,mW,ld⟩:=aB.q1 (L.mod (ej:=Fr er) M fun b q _=>⟨q,q⟩) (k:=.i64) aW
      have Kd:=ld g (Ext.refl g)
      have bz:=mW.one
      have ks:=sF aW (by unfold top at hle;omega)
      have Xq:=Hv (t:=t) (List.getElem_mem aW)
      obtain ⟨g1,eR,bx,Z⟩:=gD g z4 (cJ t.l[i] wl)
      have sL:=A.ext bx
      have zJ:=R.ext bx
      have Dd:=rG.ext bx
      by_cases nS:ox<0
      · rw [y5 s _ _ nS,List.append_nil] at ag
        have Rg:Has g1 aa.next z4:=zJ
        simp +contextual only [bQ,b7,fB,ez,su,sv,sw,g0,fz,Kd,eR,Z.g,A.g,sL.g,zJ.g,rG.g,Dd.g,eq_true nS,bz.1,bz.2.1,l6.1,l6.2.1,f1,f2,↓aA,aI,simprocAttr]
        exact finish ag bx (by trivial) (by simp only [↓aA,cX,simprocAttr,ez])
      · have F4:=ac9 s aW nS
        simp +contextual only [bQ,b7,fB,ez,su,sv,sw,g0,fz,Kd,eR,Z.g,A.g,sL.g,zJ.g,rG.g,Dd.g,eq_false nS,bz.1,bz.2.1,l6.1,l6.2.1,f1,f2,↓aA,aI,simprocAttr]
        have QA:=(kY.mod (ej:=Fr er) M (fun z=>pR z) fun b q _=>⟨q,q⟩).ext bx
        have hlen:=Ol s t.l (ρ-1)
        refine bM (Hw s qN N t.l[i] (by omega) bD ox eG er _ g1 (by omega) (by omega) pR (X.ext bx) QA Dd) ?_
        rintro x g2 ⟨u,rfl,U,pW,QK,m2⟩
        have q6:=bx.next
        have o5:=m2.next
        have afB:=Z.lt
        have F':∀n,n≠er→ai n≠ai er:=fun n aS q=>aS (dR q)
        have wZ:=sL.mod m2 (F' _ (by omega))
        have Db:=zJ.mod m2 (F' _ (by omega))
        have Q3:=Z.mod m2 (F' _ (by omega))
        have fM:=(W.ext bx).mod m2 fun b q z=>by rw [show b=ai er from z] at q;unfold fw at q;rw [c8] at q;omega
        have h':=U.one
        have agf:=Oj s 900000000 (by omega) qN t.l[i] ox (by omega)
        generalize hu:(t.l[i].gU s ox).1=pu at *
        generalize agr:(t.l[i].gU s ox).2=afC at *
        obtain ⟨aj,g3,bu,bB,dP,kP⟩:=fM.add (t:=pu) (T:=fw g1.next g2.next) (u:=u) U (fun b q z=>by unfold fw at q z;omega) (fun b q=>by unfold fw at q;unfold Old;omega) (fun b q=>by unfold fw at q;unfold Old;omega) (by unfold top;omega) pW
        have qP:∀n,n<cB.next→¬w.bc (ai n):=fun n aS q=>by have:=W.br _ q;unfold fw at this;rw [c8] at this;omega
        have w0:=wZ.mod dP (qP _ (by omega))
        have Dc:=Db.mod dP (qP _ (by omega))
        have QL:=QK.mod dP (qP _ (by omega))
        have yS:=bB.one
        have rD:Mod (fun b=>b=ai er) h g3:=((M.trans (bx.mod _)).trans m2).PG dP fun b q=>by have:=W.br _ q;unfold fw at this;omega
        have f3:(g2.next=h.next)=False:=eq_false (by omega)
        have f4:(g2.next=g.next)=False:=eq_false (by omega)
        simp +contextual only [f3,f4,if_false,bQ,b7,fB,ez,su,sv,sw,Z.g,Q3.g,A.g,sL.g,wZ.g,w0.g,h'.1,h'.2.1,l6.1,l6.2.1,yS.1,yS.2.1,bu,ks,↓aA,aI,simprocAttr]
        refine ⟨⟨i+1,afC,rQ++[pu],aj,rfl,aW,by omega,by omega,by rw [List.length_append,List.length_singleton];omega,QL.set (by omega) _,w0.put _,Dc.set (by omega) _,?_,rD.fresh (Nat.le_refl _) _,by omega,?_⟩,by omega⟩
        · refine (bB.je fun b q=>?_).mod ((Mod.refl (fun x=>x=ai h.next) g3).set (fun _=>rfl) _) fun b q z=>?_
          · unfold fw at q ⊢;have:=dP.next;omega
          · rw [show b=ai h.next from z] at q;unfold fw at q;rw [c8] at q;omega
        · rw [ag,F4];simp
    · have g0:((i:Int) < (t.l.length:Int))=False:=eq_false (by omega)
      rw [List.drop_eq_nil_of_le (by omega),gi,List.append_nil] at ag
      simp +contextual only [bQ,b7,fB,ez,su,sv,sw,g0,A.g,R.g,rG.g,l6.1,l6.2.1,f1,f2,↓aA,aI,simprocAttr]
      exact finish ag (Ext.refl _) (by trivial) (by simp only [↓aA,cX,simprocAttr,ez])
   have ss:∀(aH:af) (fT:Ext ae aH),Has (aH.set (ai er) (.bg [V.int .i64 (ρ-1)] 0 false)) h.next (cJ t cF)∧Has ((aH.set (ai er) (.bg [V.int .i64 (ρ-1)] 0 false)).set (ai h.next) (.bg (cJ t .cq) 0 false)) h.next (cJ t .cq)∧
    Has ((aH.set (ai er) (.bg [V.int .i64 (ρ-1)] 0 false)).set (ai h.next) (.bg (cJ t .cq) 0 false)) aa.next z4∧Has ((aH.set (ai er) (.bg [V.int .i64 (ρ-1)] 0 false)).set (ai h.next) (.bg (cJ t .cq) 0 false)) er [.int .i64 (ρ-1)]∧
    Mod (fun b=>b=ai er) h ((aH.set (ai er) (.bg [V.int .i64 (ρ-1)] 0 false)).set (ai h.next) (.bg (cJ t .cq) 0 false)):=by
    intro aH fT
    have dt:=cf.ext fT
    have jk:=hI.ext fT
    have rH:=De.ext fT
    have uL:=dt.set (m:=er) (by omega) (.bg [V.int .i64 (ρ-1)] 0 false)
    refine ⟨uL,uL.put _,(jk.set (m:=er) (by omega) _).set (m:=h.next) (by omega) _,(rH.put _).set (m:=h.next) (by omega) _,?_⟩
    exact (((e0.trans fT).mod (fun b=>b=ai er)).set (fun _=>rfl) _).fresh (Nat.le_refl _) _
   have bT:IntKind.i64.wrap (ρ-1)=ρ-1:=wrap_i64 (by omega) (by omega)
   have look:=M2.look t.n (.agg z4) true
   have found:∀(u:aB) (cs:List V),(if t.k=1 then cl t.n s else none)=some u→t.k=1:=fun u cs q=>by
    by_cases c:t.k=1
    · exact c
    · rw [if_neg c] at q;cases q
   rcases look with ⟨qC,iT⟩ | ⟨u,cs,qC,CT,iT⟩
   · have cZ:(if t.k=1 then cl t.n s else none)=none:=by rw [qC];split<;>rfl
     rw [cZ]
     obtain ⟨aH,aM,bW,rL⟩:=gD ae z4 z4
     have dt:=cf.ext bW
     have rH:=De.ext bW
     obtain ⟨uL,C9,nC,uV,C'⟩:=ss aH bW
     simp +contextual only [ol.1,ol.2.1,au,az,aM,cf.g,dt.g,uL.g,rH.g,bT,ao,jO.eq,iT,cond_true,↓aA,aI,simprocAttr]
     refine rest _ C9 nC uV C' bW.next ?_ ?_ ?_ ?_ ?_ ?_ ?_ fun e r g w he F7 Rg xj Df C7=>?_
     · simp only [↓aA,cX,simprocAttr]
     · simp only [↓aA,cX,simprocAttr]
     · simp only [↓aA,cX,simprocAttr]
     · simp only [↓aA,cX,simprocAttr]
     · simp only [↓aA,cX,simprocAttr]
     · simp only [↓aA,cX,simprocAttr]
     · simp only [↓aA,cX,simprocAttr]
     have bz:=xj.one
     simp +contextual only [F7,Rg.g,bz.1,bz.2.1,he,↓aA,aI,simprocAttr]
     exact ⟨w,rfl,xj,nV,Df,C7⟩
   · obtain ⟨ul,rfl,QX,pW⟩:=aB.open CT
     have h':=QX.one
     obtain ⟨aH,aM,bW,rL⟩:=gD ae z4 (cJ u ul)
     have dt:=cf.ext bW
     have jk:=hI.ext bW
     have rH:=De.ext bW
     have n3:=bW.next
     by_cases c:t.k=1
     · rw [if_pos c,qC]
       have Bg:=qN t.n u qC
       simp +contextual only [ol.1,ol.2.1,h'.1,h'.2.1,au,az,aM,cf.g,dt.g,rH.g,rL.g,jO.eq,iT,cond_true,eq_true c,↓aA,aI,simprocAttr]
       refine bM (ad3 u Bg _ aH ((CT.ext bW).je fun _ _=>trivial)) ?_
       rintro x bf ⟨rfl,eu⟩
       have Je:=rL.ext eu
       have pv:=jk.ext eu
       have I7:=rH.ext eu
       have n4:=eu.next
       have agE:=rL.lt
       have bP:IntKind.i64.wrap (ρ - (u.size:Nat))=ρ - (u.size:Nat):=wrap_i64 (by omega) (by omega)
       have h7:=hI.lt
       have f5:(er=ae.next)=False:=eq_false (by omega)
       have afL:=Je.set (m:=er) (by omega) (.bg [V.int .i64 (ρ - (u.size:Nat))] 0 false)
       have qn:=pv.set (m:=er) (by omega) (.bg [V.int .i64 (ρ - (u.size:Nat))] 0 false)
       have zK:=I7.put [V.int .i64 (ρ - (u.size:Nat))]
       have sW:Mod (fun b=>b=ai er) h (bf.set (ai er) (.bg [V.int .i64 (ρ - (u.size:Nat))] 0 false)):=(((e0.trans bW).trans eu).mod (fun b=>b=ai er)).set (fun _=>rfl) _
       have CR:b5 Any (bf.set (ai er) (.bg [V.int .i64 (ρ - (u.size:Nat))] 0 false)) u.enc (cJ u ul):=((CT.ext (bW.trans eu)).mod (ej:=Fr er) (M:=fun b=>b=ai er) ((Mod.refl (fun b=>b=ai er) bf).set (fun _=>rfl) _) fun b q _=>⟨q,q⟩).je fun _ _=>trivial
       have n5:(bf.set (ai er) (.bg [V.int .i64 (ρ - (u.size:Nat))] 0 false)).next=bf.next:=rfl
       simp +contextual only [rL.g,Je.g,rH.g,I7.g,bP,f5,if_false,↓aA,aI,simprocAttr]
       generalize bf.set (ai er) (.bg [V.int .i64 (ρ - (u.size:Nat))] 0 false)=cB at *
       refine bM (JV _ u (Nat.le_refl _) (by omega) _ cB CR) ?_
       rintro x b8 ⟨w,rfl,W,ih⟩
       have bz:=W.one
       have I6:=qn.ext ih
       have QM:=zK.ext ih
       have agC:=I6.lt
       simp +contextual only [I6.g,bz.1,bz.2.1,↓aA,aI,simprocAttr]
       refine ⟨w,rfl,(W.mod ((Mod.refl (fun x=>x=ai aa.next) b8).set (fun _=>rfl) _) fun b q z=>?_).je fun b q=>?_,pW,QM.set (by omega) _,(sW.trans (ih.mod _)).fresh cz _⟩
       · rw [show b=ai aa.next from z] at q;unfold fw at q;rw [c8] at q;omega
       · unfold fw at q ⊢;have:=sW.next;omega
     · rw [if_neg c]
       obtain ⟨uL,C9,nC,uV,C'⟩:=ss aH bW
       simp +contextual only [ol.1,ol.2.1,h'.1,h'.2.1,au,az,aM,cf.g,dt.g,uL.g,rH.g,bT,ao,jO.eq,iT,cond_true,eq_false c,↓aA,aI,simprocAttr]
       refine rest _ C9 nC uV C' bW.next ?_ ?_ ?_ ?_ ?_ ?_ ?_ fun e r g w he F7 Rg xj Df C7=>?_
       · simp only [↓aA,cX,simprocAttr]
       · simp only [↓aA,cX,simprocAttr]
       · simp only [↓aA,cX,simprocAttr]
       · simp only [↓aA,cX,simprocAttr]
       · simp only [↓aA,cX,simprocAttr]
       · simp only [↓aA,cX,simprocAttr]
       · simp only [↓aA,cX,simprocAttr]
       have bz:=xj.one
       simp +contextual only [F7,Rg.g,bz.1,bz.2.1,he,↓aA,aI,simprocAttr]
       exact ⟨w,rfl,xj,nV,Df,C7⟩
def qD (p:Int × aB):List D:=.i .i64 p.1::p.2.enc
section
variable [Lay] {F:aN→Prop} {h:af}
theorem eg.RI {size:Nat} {es:List (List D)} {v:V} (H:eg F h size es v) {k:IntKind} {i:Nat} (aF:i<es.length):
 ∃b off u,lU size v (.int k i)=some (.ptr b (off+i * size))∧b5 F h es[i] u∧u.length=size∧(∀ab,Ext h ab→∀j n,j+n≤size→mB n (ab.get b) (off+i * size+j)=some (.agg ((u.drop j).take n)))∧∀ab,Ext h ab→∀j,j<size→j0 (ab.get b) (off+i * size+j)=u[j]? :=by
 obtain ⟨us,aa,ae,ao,aH⟩:=H.ex
 have vG:i<us.length:=by omega
 have hu:=List.getElem?_eq_getElem vG
 obtain ⟨b,off,aP,bl⟩:=aa.fz (k:=k) aF
 have ar:=EV us i _ ao hu
 have pL:=AB us ao
 have hle:i * size+size≤us.length * size:=by
  have:=Nat.mul_le_mul_right size (show i+1≤us.length from vG)
  rw [Nat.succ_mul] at this;exact this
 have bs:us[i].length=size:=ao _ (List.getElem_mem vG)
 refine ⟨b,off,us[i],aP,aH i _ _ (List.getElem?_eq_getElem aF) hu,bs,fun ab e j n A5=>?_,fun ab e j bK=>?_⟩
 · have:=(bl.ext e).ki (i:=i * size+j) (n:=n) (by rw [pL];omega)
   rw [Nat.add_assoc,this,←ar]
   congr 2
   rw [List.drop_take,List.take_take,List.drop_drop,Nat.min_eq_left (by omega)]
 · have:=(bl.ext e).jy (i:=i * size+j) (by rw [pL];omega)
   rw [Nat.add_assoc,this,←ar,List.getElem?_take_of_lt bK,List.getElem?_drop,List.getElem?_eq_getElem]
theorem et.q1 {s:et} {v:V} (H:eg F h 5 (s.map qD) v) {k:IntKind} {i:Nat} (aF:i<s.length):
 ∃b off cF,lU 5 v (.int k i)=some (.ptr b (off+i * 5))∧b5 F h s[i].2.enc (cJ s[i].2 cF)∧(∀ab,Ext h ab→j0 (ab.get b) (off+i * 5)=some (.int .i64 s[i].1))∧
  (∀ab,Ext h ab→mB 4 (ab.get b) (off+i * 5+1)=some (.agg (cJ s[i].2 cF)))∧(∀ab,Ext h ab→mB 5 (ab.get b) (off+i * 5)=some (.agg (.int .i64 s[i].1::cJ s[i].2 cF))):=by
 obtain ⟨b,off,u,aP,bl,bW,eu,lG⟩:=eg.RI H (k:=k) (i:=i) (by rw [List.length_map];exact aF)
 rw [List.getElem_map,qD] at bl
 obtain ⟨us,rfl,Kp⟩:=bl.int
 obtain ⟨cF,rfl,L,_⟩:=aB.open Kp
 exact ⟨b,off,cF,aP,Kp,fun ab e=>by simpa using lG ab e 0 (by omega),fun ab e=>by simpa using eu ab e 1 4 (by omega),fun ab e=>by simpa using eu ab e 0 5 (by omega)⟩
end
end Go.Proofs.YthemdhlheglhoaaGreatDoor
namespace Go.Proofs.YthemdhlheglhoaaGreatDoor
open Go aY
mutual
theorem Ov (s:et) (M:Nat) (cO:1≤M) (aO:∀n u,cl n s=some u→u.size≤M):∀t:aB,(t.put s).size≤t.size * M
 | .mk k n x l=>by
   rw [aB.put,aB.size]
   cases av:(if k=1 then cl n s else none) with
   | some u=>
     have:u.size≤M:=by
      by_cases c:k=1
      · rw [if_pos c] at av;exact aO n u av
      · rw [if_neg c] at av;cases av
     simp only
     rw [Nat.add_mul];omega
   | none=>
     have:=OA s M cO aO l
     simp only
     rw [aB.size,Nat.add_mul];omega
theorem OA (s:et) (M:Nat) (cO:1≤M) (aO:∀n u,cl n s=some u→u.size≤M):∀l:List aB,eH (dr s l)≤eH l * M
 | []=>by rw [dr];simp [eH]
 | t::l=>by
   have:=Ov s M cO aO t
   have:=OA s M cO aO l
   rw [dr,eH,eH,Nat.add_mul];omega
end
theorem aer {last:Int} {s:et} {i:Nat} (h:i<s.length):rm last (s.drop i)=(decide (last<s[i].1)&&decide (s[i].1≤1048575)&&decide (s[i].2.check=0)&&rm s[i].1 (s.drop (i+1))):=by
 rw [List.drop_eq_getElem_cons h,show s[i]=(s[i].1,s[i].2) from rfl,rm]
def ue (s:et):Nat→Int
 | 0=>-1
 | i+1=>match s[i]? with
   | some p=>p.1
   | none=>-1
abbrev afz:List V:=[.int .i64 0,.int .i64 0,.int .i64 0,.str [],.cq]
theorem B9 {n:Int} {t:aB}:∀{m:et},cl n m=none→nv n t m=m++[(n,t)]
 | [],_=>rfl
 | (a,u)::m,h=>by
   simp only [cl] at h
   split at h
   · cases h
   · rename_i aS
     simp only [nv,if_neg aS,B9 h,List.cons_append]
theorem M3 {n k:Int} {t:aB}:∀{m:et},cl n m=none→n≠k→cl n (m++[(k,t)])=none
 | [],_,h=>by simp only [List.nil_append,cl,if_neg h]
 | (a,u)::m,h,ay=>by
   simp only [cl] at h
   split at h
   · cases h
   · rename_i aS
     simp only [List.cons_append,cl,if_neg aS,M3 h ay]
theorem ad4 {s:et} {t:aB} (h:¬(t.gU s 4096).2<0):(t.gU s 4096).1.size≤4096:=by
 obtain ⟨a,b⟩:=B_ s t 4096 (by omega)
 by_cases c:((t.put s).size:Int)≤4096
 · rw [a c];simp only;omega
 · exact absurd (b (by omega)) h
set_option maxHeartbeats 16000000 in
theorem u3 (s:et) (aO:∀p ∈ s,p.2.size≤900000000) (t:aB) (ax:t.size≤900000000) (CC:V) (ad:List V) (h:af) (S:eg Any h 5 (s.map qD) CC) (H:b5 Any h t.enc ad):
 b_ Tryz.prog 23 [CC,.agg ad] h fun x ab=>(∃w,x=.tuple [.agg (cJ (hy s t).1 w),.int .i64 (hy s t).2]∧fr ab (fw h.next ab.next) (hy s t).1.l w∧(hy s t).1.s.length≤top)∧Ext h ab:=by
 have j6:=H.p8
 have rJ:=S.p8
 obtain ⟨cF,rfl,L,nV⟩:=aB.open H
 have ol:=L.one
 have os:=S.one
 have ao:=S.len
 have hle:=S.le
 rw [List.length_map] at ao hle
 refine Ta rfl (eA ?_)
 unfold D6
 obtain ⟨aa,au,aP,cw⟩:=gY h (cJ t cF)
 obtain ⟨ae,az,bl,hI⟩:=gY aa z4
 have cf:=cw.ext bl
 have cz:=aP.next
 have ha:=bl.next
 have ud:=cw.lt
 have M7:=hI.lt
 have e0:=aP.trans bl
 have rD:=hX.new (Old h) ae
 have bW:Ext ae (ae.new (.mp [] 0)):=(Ext.refl ae).new _
 have yu:(ae.new (.mp [] 0)).next=ae.next+1:=rfl
 simp +contextual only [show ∀g:af,o4 none g=.val (.map (ai g.next)) (g.new (.mp [] 0)) from fun g=>rfl,ol.1,ol.2.1,os.1,os.2.1,au,az,ao,↓aA,aI,simprocAttr]
 generalize ae.new (.mp [] 0)=aH at *
 have vk:∀{ab:af} (E:Ext h ab) (z:Int),(∃w,V.tuple [.agg z4,.int .i64 z]=.tuple [.agg (cJ jF w),.int .i64 z]∧fr (ab.set (ai aa.next) (.bg z4 0 false)) (fw h.next (ab.set (ai aa.next) (.bg z4 0 false)).next) jF.l w∧jF.s.length≤top)∧Ext h (ab.set (ai aa.next) (.bg z4 0 false)):=fun E z=>⟨⟨_,rfl,fr.nil _ _,Nat.zero_le _⟩,E.set cz _⟩
 refine ll (fun r g=>r 0=CC∧r 3=.ptr (ai h.next) 0∧r 4=.ptr (ai aa.next) 0∧r 6=.map (ai ae.next)∧r 13=CC∧r 14=.int .i64 s.length∧∃i:Nat,r 7=.int .i64 (ue s i)∧r 15=.int .i64 i∧i≤s.length∧Has g h.next (cJ t cF)∧Has g aa.next z4∧hX (Old h) g (ai ae.next) (s.take i)∧Ext h g∧aH.next≤g.next∧
  (∀n,ue s i<n→cl n (s.take i)=none)∧Ic s=rm (ue s i) (s.drop i)) (fun r g=>s.length - (r 15).toN) ?_ ?_
 · exact ⟨by simp only [↓aA,cX,simprocAttr],by simp only [↓aA,cX,simprocAttr],by simp only [↓aA,cX,simprocAttr],by simp only [↓aA,cX,simprocAttr],by simp only [↓aA,cX,simprocAttr],by simp only [↓aA,cX,simprocAttr],0,by simp only [↓aA,cX,simprocAttr]<;>rfl,by simp only [↓aA,cX,simprocAttr]<;>rfl,by omega,cf.ext bW,hI.ext bW,rD,e0.trans bW,Nat.le_refl _,fun n _=>rfl,rfl⟩
 rintro r g ⟨bQ,cT,fB,ez,lv,lx,i,jD,gx,aF,A,R,kY,E,aE,Lr,ay⟩
 unfold JM
 by_cases aW:i<s.length
 · have g0:((i:Int) < (s.length:Int))=True:=eq_true (by omega)
   obtain ⟨b,off,wl,fz,X,GI,MR,aaU⟩:=et.q1 (rJ.ext E) (k:=.i64) aW
   have d5:=aaU g (Ext.refl g)
   have ks:=sF aW (by unfold top at hle;omega)
   obtain ⟨afa,h4,mW,agn⟩:=aB.open X
   have bz:=mW.one
   obtain rfl:wl=afa:=by simpa using h4
   have bs:=aO _ (List.getElem_mem aW)
   rw [aer aW] at ay
   have GN:ue s (i+1)=s[i].1:=by rw [ue,List.getElem?_eq_getElem aW]
   obtain ⟨g1,eR,bx,Z⟩:=gD g afz (.int .i64 s[i].1::cJ s[i].2 wl)
   have cw:=A.ext bx
   have sZ:=R.ext bx
   have eX:=E.trans bx
   by_cases bL:s[i].1≤ue s i
   · have hz:hy s t=(jF,2):=by unfold hy;rw [ay,decide_eq_false (by omega)];simp
     rw [hz]
     simp +contextual only [bQ,cT,fB,ez,jD,lv,lx,gx,g0,fz,d5,eR,Z.g,sZ.g,bz.1,bz.2.1,eq_true bL,↓aA,aI,simprocAttr]
     exact vk eX 2
   by_cases b0:1048575<s[i].1
   · have hz:hy s t=(jF,2):=by unfold hy;rw [ay,decide_eq_false (p:=s[i].1≤1048575) (by omega)];simp
     rw [hz]
     simp +contextual only [bQ,cT,fB,ez,jD,lv,lx,gx,g0,fz,d5,eR,Z.g,sZ.g,bz.1,bz.2.1,eq_false bL,eq_true b0,↓aA,aI,simprocAttr]
     exact vk eX 2
   simp +contextual only [bQ,cT,fB,ez,jD,lv,lx,gx,g0,fz,d5,eR,Z.g,sZ.g,bz.1,bz.2.1,eq_false bL,eq_false b0,↓aA,aI,simprocAttr]
   refine bM (s9 s[i].2 bs _ g1 ((X.ext bx).je fun _ _=>trivial)) ?_
   rintro x g2 ⟨rfl,c1⟩
   have cf:=cw.ext c1
   have hI:=sZ.ext c1
   have Dn:=Z.ext c1
   have b9:=eX.trans c1
   by_cases c3:s[i].2.check=0
   · rw [decide_eq_true c3,decide_eq_true (show ue s i<s[i].1 by omega),decide_eq_true (show s[i].1≤1048575 by omega),←GN] at ay
     have cZ:=Lr s[i].1 (by omega)
     have q6:=bx.next
     have o5:=c1.next
     obtain ⟨g3,l4,ly,jc,zj⟩:=((kY.ext bx).ext c1).lz s[i].1 (t:=s[i].2) ((X.ext bx).ext c1) (fun q=>by unfold Old at q;rw [c8] at q;omega)
     rw [B9 cZ] at ly
     have dt:=cf.mod jc (fun q=>by have:=dR q;omega)
     have jk:=hI.mod jc (fun q=>by have:=dR q;omega)
     have fT:=b9.od jc fun b q=>by rw [show b=ai ae.next from q,c8];omega
     simp +contextual only [bQ,cT,fB,ez,jD,lv,lx,gx,Dn.g,bz.1,bz.2.1,eq_true c3,decide_true,decide_false,jO.eq,l4,gI,ks,↓aA,aI,simprocAttr]
     refine ⟨⟨i+1,by rw [GN],rfl,aW,dt,jk,?_,fT,by omega,fun n aS=>?_,by simpa using ay⟩,by omega⟩
     · rw [List.take_succ_eq_append_getElem aW];exact ly
     · rw [GN] at aS
       rw [List.take_succ_eq_append_getElem aW]
       exact M3 (k:=s[i].1) (t:=s[i].2) (Lr n (by omega)) (show n≠s[i].1 by omega)
   · have hz:hy s t=(jF,2):=by unfold hy;rw [ay,decide_eq_false c3];simp
     rw [hz]
     simp +contextual only [bQ,cT,fB,ez,jD,lv,lx,gx,hI.g,eq_false c3,decide_true,decide_false,↓aA,aI,simprocAttr]
     exact vk b9 2
 · have g0:((i:Int) < (s.length:Int))=False:=eq_false (by omega)
   rw [List.drop_eq_nil_of_le (by omega),rm] at ay
   rw [List.take_of_length_le (by omega)] at kY
   simp +contextual only [bQ,cT,fB,ez,jD,lv,lx,gx,g0,A.g,ol.1,ol.2.1,↓aA,aI,simprocAttr]
   refine bM (s9 t ax _ g ((j6.ext E).je fun _ _=>trivial)) ?_
   rintro x g1 ⟨rfl,bx⟩
   have cw:=A.ext bx
   have sZ:=R.ext bx
   have eX:=E.trans bx
   have q6:=bx.next
   have xL:∀{m:Nat} (b:aN),Old h b→h.next≤m→b≠ai m:=fun b q hm z=>by unfold Old at q;rw [z,c8] at q;omega
   by_cases b0:t.check=0
   · have hz:=Ru ay b0
     obtain ⟨g2,fR,c1,dd⟩:=gD g1 [.int .i64 0] [.int .i64 4096]
     have cf:=cw.ext c1
     have hI:=sZ.ext c1
     have b9:=eX.trans c1
     have o5:=c1.next
     have iS:=dd.lt
     have rE:=((kY.ext bx).ext c1).mod (ej:=Fr g1.next) (Mod.refl (fun _=>False) g2) (fun z=>z) fun b q _=>⟨fun z=>z,xL b q (by omega)⟩
     have qN:∀n u,cl n s=some u→u.size≤900000000:=fun n u q=>by have:=(kB (CA ay n u q).1).2.1;omega
     simp +contextual only [bQ,cT,fB,ez,jD,lv,lx,gx,fR,cf.g,dd.g,ol.1,ol.2.1,eq_true b0,decide_true,decide_false,↓aA,aI,simprocAttr]
     refine bM (Hw s qN t.size t (Nat.le_refl _) ax 4096 (ai ae.next) g1.next _ g2 (by omega) (by omega) (fun q=>by have:=dR q;omega) ((j6.ext b9).je fun b q=>xL b q (by omega)) rE dd) ?_
     rintro x g3 ⟨u,rfl,U,pW,eT,m3⟩
     have yL:=m3.next
     have jk:=hI.mod m3 (fun q=>by have:=dR q;omega)
     have fT:=b9.od m3 fun b q=>by rw [show b=ai g1.next from q,c8];omega
     have h':=U.one
     have cc:=@ad4 s t
     rw [hz]
     generalize agl:t.gU s 4096=pu at *
     obtain ⟨p,ρ⟩:=pu
     simp only at *
     obtain ⟨g4,y4,lA,CL⟩:=gD g3 z4 (cJ p u)
     have eU:=eT.ext lA
     have pv:=jk.ext lA
     have jJ:=fT.trans lA
     have Nu:=lA.next
     have f1:(g3.next=aa.next)=False:=eq_false (by omega)
     have Vr:∀{tp:af},Ext g4 tp→fr (tp.set (ai aa.next) (.bg (cJ p u) 0 false)) (fw h.next (tp.set (ai aa.next) (.bg (cJ p u) 0 false)).next) p.l u:=fun {tp} iF=>by
      have G_:=iF.next
      refine ((U.ext (lA.trans iF)).mod ((Mod.refl (fun x=>x=ai aa.next) _).set (fun _=>rfl) _) fun b q z=>?_).je fun b q=>?_
      · rw [show b=ai aa.next from z] at q;unfold fw at q;rw [c8] at q;omega
      · unfold fw at q ⊢;rw [nr];omega
     by_cases fj:ρ<0
     · rw [if_pos fj]
       simp +contextual only [bQ,cT,fB,ez,jD,lv,lx,gx,y4,CL.g,eU.g,pv.g,h'.1,h'.2.1,eq_true fj,decide_true,decide_false,↓aA,aI,simprocAttr]
       exact vk jJ 3
     · rw [if_neg fj]
       have tR:=cc fj
       simp +contextual only [bQ,cT,fB,ez,jD,lv,lx,gx,y4,CL.g,eU.g,pv.g,h'.1,h'.2.1,eq_false fj,decide_true,decide_false,↓aA,aI,simprocAttr]
       have QE:b5 Any g4 p.enc (cJ p u):=by
        rw [wF]
        exact .i (.i (.s pW (((U.ext lA).hf fun _ _=>trivial).cons .nil)))
       refine bM (s9 p (by omega) _ g4 QE) ?_
       rintro x g5 ⟨rfl,iF⟩
       have qn:=pv.ext iF
       have II:=CL.ext iF
       have ji:=jJ.trans iF
       by_cases c5:p.check=0
       · rw [if_pos c5]
         simp +contextual only [bQ,cT,fB,ez,jD,lv,lx,gx,qn.g,II.g,h'.1,h'.2.1,eq_true c5,decide_true,decide_false,f1,↓aA,aI,simprocAttr]
         exact ⟨⟨_,rfl,Vr iF,pW⟩,ji.set cz _⟩
       · rw [if_neg c5]
         simp +contextual only [bQ,cT,fB,ez,jD,lv,lx,gx,qn.g,II.g,h'.1,h'.2.1,eq_false c5,decide_true,decide_false,f1,↓aA,aI,simprocAttr]
         exact vk ji 3
   · have hz:hy s t=(jF,2):=by unfold hy;rw [if_neg (fun q=>b0 q.2)]
     rw [hz]
     simp +contextual only [bQ,cT,fB,ez,jD,lv,lx,gx,sZ.g,eq_false b0,decide_true,decide_false,↓aA,aI,simprocAttr]
     exact vk eX 2
abbrev iC (i:Int):aB:=.mk 1 i [] []
def fC (i:Int):List Int→et
 | []=>[]
 | n::l=>(n,iC i)::fC (i+1) l
def cS (t:aB):aB:=if t.check=0 then t.put (fC 0 t.vars) else jF
theorem aeZ [Lay] (F:aN→Prop) (h:af) (i:Int):b5 F h (iC i).enc [.int .i64 1,.int .i64 i,.str [],.cq]:=by
 rw [wF]
 exact .i (.i (.s (Nat.zero_le _) ((eg.nil _ _ _).cons .nil)))
theorem ads (l m:List Int):∀i:Int,fC i (l++m)=fC i l++fC (i+l.length) m:=by
 induction l with
 | nil=>intro i;simp [fC]
 | cons n l bj=>
   intro i
   rw [List.cons_append,fC,fC,bj,List.cons_append,List.length_cons,show i+1 + (l.length:Int)=i + ((l.length+1:Nat):Int) by omega]
theorem adt {l:List Int} {i:Nat} (h:i<l.length):fC 0 (l.take (i+1))=fC 0 (l.take i)++[(l[i],iC i)]:=by
 rw [List.take_succ_eq_append_getElem h,ads,fC,fC,List.length_take,Nat.min_eq_left (by omega)]
 simp
theorem HH {n:Int} {u:aB}:∀{l:List Int} {i:Int},cl n (fC i l)=some u→∃j:Int,u=iC j
 | [],i,h=>by cases h
 | m::l,i,h=>by
   simp only [fC,cl] at h
   split at h
   · cases h;exact ⟨_,rfl⟩
   · exact HH h
theorem HI {n:Int}:∀{l:List Int} {i:Int},¬n ∈ l→cl n (fC i l)=none
 | [],i,h=>rfl
 | m::l,i,h=>by
   simp only [fC,cl]
   rw [if_neg (fun q=>h (by rw [q];exact List.mem_cons_self)),HI (fun q=>h (List.mem_cons_of_mem _ q))]
theorem Rl {out:List Int} (t:aB) (h:out.Nodup):(gC out t).Nodup:=by
 unfold gC
 split
 · rename_i q
   rw [List.nodup_append]
   exact ⟨h,by simp,fun a bd b ah az=>by rw [List.mem_singleton] at ah;subst ah;subst az;exact q.2 bd⟩
 · exact h
theorem KT:∀(l:List aB) {out:List Int},out.Nodup→(l.foldl gC out).Nodup
 | [],out,h=>h
 | t::l,out,h=>by rw [List.foldl_cons];exact KT l (Rl t h)
theorem ae4 (t:aB):t.vars.Nodup:=KT _ List.nodup_nil
theorem abT {l:List Int} (h:l.Nodup) {i:Nat} (aF:i<l.length):¬l[i] ∈ l.take i:=by
 have aa:(l.take (i+1)).Nodup:=h.sublist (List.take_sublist _ _)
 rw [List.take_succ_eq_append_getElem aF,List.nodup_append] at aa
 exact fun q=>aa.2.2 _ q _ (List.mem_singleton.2 rfl) rfl
theorem OO (t:aB):(t.put (fC 0 t.vars)).size≤t.size:=by
 have:=Ov (fC 0 t.vars) 1 (Nat.le_refl _) (fun n u h=>by obtain ⟨j,rfl⟩:=HH h;simp [aB.size,eH]) t
 omega
theorem adu {t:aB} (h:t.check=0):t.gU (fC 0 t.vars) 4096=(cS t,(4096:Int) - ((cS t).size:Int)):=by
 have aa:=(kB h).2.1
 have ae:=OO t
 unfold cS
 rw [if_pos h]
 exact (B_ _ t 4096 (by omega)).1 (by omega)
set_option maxHeartbeats 8000000 in
theorem fQ (t:aB) (ax:t.size≤900000000) (ad:List V) (h:af) (H:b5 Any h t.enc ad):
 b_ Tryz.prog 29 [.agg ad] h fun x ab=>(∃w,x=.agg (cJ (cS t) w)∧fr ab (fw h.next ab.next) (cS t).l w∧(cS t).s.length≤top)∧Ext h ab:=by
 have j6:=H.p8
 obtain ⟨cF,rfl,L,nV⟩:=aB.open H
 have ol:=L.one
 refine Tj rfl (eA ?_)
 unfold D9
 obtain ⟨aa,au,aP,cw⟩:=gY h (cJ t cF)
 obtain ⟨ae,az,bl,hI⟩:=gY aa z4
 have cf:=cw.ext bl
 have cz:=aP.next
 have ha:=bl.next
 have ud:=cw.lt
 have M7:=hI.lt
 have e0:=aP.trans bl
 simp +contextual only [ol.1,ol.2.1,au,az,cf.g,↓aA,aI,simprocAttr]
 refine bM (s9 t ax _ ae ((j6.ext e0).je fun _ _=>trivial)) ?_
 rintro x aH ⟨rfl,bW⟩
 have dt:=cf.ext bW
 have jk:=hI.ext bW
 have Ko:=e0.trans bW
 have n3:=bW.next
 by_cases aD:¬t.check=0
 · have aG:cS t=jF:=by unfold cS;rw [if_neg aD]
   rw [aG]
   simp +contextual only [jk.g,eq_false aD,decide_true,decide_false,↓aA,aI,simprocAttr]
   exact ⟨⟨_,rfl,fr.nil _ _,Nat.zero_le _⟩,Ko.set cz _⟩
 have aD:t.check=0:=by simpa using aD
 have F4:=adu aD
 have mw:=ae4 t
 have ni:=PX t
 have jr:=kB aD
 have xb:=hX.new (Old h) aH
 have eu:Ext aH (aH.new (.mp [] 0)):=(Ext.refl aH).new _
 have GG:(aH.new (.mp [] 0)).next=aH.next+1:=rfl
 have eS:=dt.ext eu
 have pv:=jk.ext eu
 simp +contextual only [show ∀g:af,o4 none g=.val (.map (ai g.next)) (g.new (.mp [] 0)) from fun g=>rfl,eq_true aD,decide_true,decide_false,dt.g,eS.g,ol.1,ol.2.1,↓aA,aI,simprocAttr]
 generalize aH.new (.mp [] 0)=bf at *
 have td:=Ko.trans eu
 refine bM (ae3 t ax _ bf ((j6.ext td).je fun _ _=>trivial)) ?_
 rintro y cB ⟨Y,lG⟩
 have n5:=lG.next
 have Jb:eg Any cB 1 (t.vars.map aY.encI) y:=kW.hf Y (by unfold top;omega)
 have h_:=Jb.one
 have ao:=Jb.len
 rw [List.length_map] at ao
 simp +contextual only [h_.1,h_.2.1,ao,↓aA,aI,simprocAttr]
 refine ll (fun r g=>r 1=.ptr (ai h.next) 0∧r 2=.ptr (ai aa.next) 0∧r 3=.map (ai aH.next)∧r 13=y∧r 14=.int .i64 t.vars.length∧∃i:Nat,r 15=.int .i64 i∧i≤t.vars.length∧Has g h.next (cJ t cF)∧Has g aa.next z4∧hX (Old h) g (ai aH.next) (fC 0 (t.vars.take i))∧kW bf.next g t.vars y∧Ext h g∧cB.next≤g.next) (fun r g=>t.vars.length - (r 15).toN) ?_ ?_
 · exact ⟨by simp only [↓aA,cX,simprocAttr],by simp only [↓aA,cX,simprocAttr],by simp only [↓aA,cX,simprocAttr],by simp only [↓aA,cX,simprocAttr],by simp only [↓aA,cX,simprocAttr],0,by simp only [↓aA,cX,simprocAttr]<;>rfl,by omega,eS.ext lG,pv.ext lG,xb.ext lG,Y,td.trans lG,Nat.le_refl _⟩
 rintro r g ⟨bS,b7,cT,lv,lx,i,gx,aF,A,R,kY,Dk,E,aE⟩
 unfold JN
 by_cases aW:i<t.vars.length
 · have g0:((i:Int) < (t.vars.length:Int))=True:=eq_true (by omega)
   obtain ⟨b,off,fz,ld⟩:=(kW.hf Dk (by unfold top;omega)).YF (k:=.i64) aW
   have d1:=ld g (Ext.refl g)
   have ks:=sF aW (by omega)
   have cZ:cl t.vars[i] (fC 0 (t.vars.take i))=none:=HI (abT mw aW)
   obtain ⟨g3,l4,ly,jc,zj⟩:=kY.lz t.vars[i] (t:=iC i) (aeZ _ _ _) (fun q=>by unfold Old at q;rw [c8] at q;omega)
   rw [B9 cZ,←adt aW] at ly
   have dt:=A.mod jc (fun q=>by have:=dR q;omega)
   have jk:=R.mod jc (fun q=>by have:=dR q;omega)
   have fT:=E.od jc fun b q=>by rw [show b=ai aH.next from q,c8];omega
   simp +contextual only [bS,b7,cT,lv,lx,gx,g0,fz,d1,jO.eq,l4,gI,ks,↓aA,aI,simprocAttr]
   refine ⟨⟨i+1,rfl,aW,dt,jk,ly,?_,fT,by omega⟩,by omega⟩
   exact dL.mod jc Dk fun b q z=>by have:=Dk.base q;rw [show b=ai aH.next from z,c8] at this;omega
 · have g0:((i:Int) < (t.vars.length:Int))=False:=eq_false (by omega)
   rw [List.take_of_length_le (by omega)] at kY
   have xL:∀{m:Nat} (b:aN),Old h b→h.next≤m→b≠ai m:=fun b q hm z=>by unfold Old at q;rw [z,c8] at q;omega
   obtain ⟨g2,fR,c1,dd⟩:=gD g [.int .i64 0] [.int .i64 4096]
   have cf:=A.ext c1
   have hI:=R.ext c1
   have b9:=E.trans c1
   have o5:=c1.next
   have iS:=dd.lt
   have rE:=(kY.ext c1).mod (ej:=Fr g.next) (Mod.refl (fun _=>False) g2) (fun z=>z) fun b q _=>⟨fun z=>z,xL b q (by omega)⟩
   have qN:∀n u,cl n (fC 0 t.vars)=some u→u.size≤900000000:=fun n u q=>by obtain ⟨j,rfl⟩:=HH q;simp [aB.size,eH]
   simp +contextual only [bS,b7,cT,lv,lx,gx,g0,fR,cf.g,dd.g,ol.1,ol.2.1,↓aA,aI,simprocAttr]
   refine bM (Hw _ qN t.size t (Nat.le_refl _) ax 4096 (ai aH.next) g.next _ g2 (by omega) (by omega) (fun q=>by have:=dR q;omega) ((j6.ext b9).je fun b q=>xL b q (by omega)) rE dd) ?_
   rintro x g3 ⟨u,rfl,U,pW,eT,m3⟩
   rw [F4] at U pW ⊢
   simp only at U pW ⊢
   have yL:=m3.next
   have jk:=hI.mod m3 (fun q=>by have:=dR q;omega)
   have fT:=b9.od m3 fun b q=>by rw [show b=ai g.next from q,c8];omega
   have h':=U.one
   simp +contextual only [bS,b7,cT,lv,lx,gx,jk.g,h'.1,h'.2.1,↓aA,aI,simprocAttr]
   refine ⟨⟨_,rfl,?_,pW⟩,fT.set cz _⟩
   refine (U.mod ((Mod.refl (fun x=>x=ai aa.next) _).set (fun _=>rfl) _) fun b q z=>?_).je fun b q=>?_
   · rw [show b=ai aa.next from z] at q;unfold fw at q;rw [c8] at q;omega
   · unfold fw at q ⊢;omega
mutual
def aB.more:aB→aB→et→Option et
 | .mk k n x l,u,m=>if k=1 then (match cl n m with
    | some w=>if w.same u then some m else none
    | none=>some (m++[(n,u)]))
   else if u.k=k∧x=u.s then hP l u.l m else none
def hP:List aB→List aB→et→Option et
 | [],[],m=>some m
 | t::l,u::cE,m=>match t.more u m with
   | some b3=>hP l cE b3
   | none=>none
 | [],_::_,_=>none
 | _::_,[],_=>none
end
theorem abv (t u:aB) (m:et):t.more u m=if t.k=1 then (match cl t.n m with
 | some w=>if w.same u then some m else none
 | none=>some (m++[(t.n,u)]))
 else if u.k=t.k∧t.s=u.s then hP t.l u.l m else none:=by cases t;rw [aB.more];rfl
theorem No:∀{l cE:List aB} {m b3:et},hP l cE m=some b3→l.length=cE.length
 | [],[],_,_,_=>rfl
 | t::l,u::cE,m,b3,h=>by
   rw [hP] at h
   cases av:t.more u m with
   | none=>rw [av] at h;cases h
   | some m2=>rw [av] at h;rw [List.length_cons,List.length_cons,No h]
 | [],_::_,_,_,h=>by rw [hP] at h;cases h
 | _::_,[],_,_,h=>by rw [hP] at h;cases h
theorem aby {l cE:List aB} {i:Nat} (h:i<l.length) (ab:i<cE.length) (m:et):hP (l.drop i) (cE.drop i) m=match l[i].more cE[i] m with
 | some b3=>hP (l.drop (i+1)) (cE.drop (i+1)) b3
 | none=>none:=by
 rw [List.drop_eq_getElem_cons h,List.drop_eq_getElem_cons ab,hP]
def kj (t u:aB):Bool:=decide (t.check=0)&&decide (u.check=0)&&(t.more u []).isSome
def zG [Lay] (F:aN→Prop) (eG:aN) (h:af) (r:Option et) (ok:Bool):Prop:=match r with
 | some m=>ok=true∧hX F h eG m
 | none=>ok=false
set_option maxHeartbeats 16000000 in
theorem Ni (F:aN→Prop) (eG:aN) (pm og:Nat) (jS:¬F eG) (LC:eG≠ai pm) (lN:eG≠ai og):∀N:Nat,
 (∀(t u:aB),t.size≤N→∀(m:et) (ad ws:List V) (h:af),b5 F h t.enc ad→b5 F h u.enc ws→hX F h eG m→Has h pm [.map eG]→Has h og [.func 65 [.ptr (ai pm) 0,.ptr (ai og) 0]]→
   b_ Tryz.prog 65 [.agg ad,.agg ws,.ptr (ai pm) 0,.ptr (ai og) 0] h fun x ab=>∃ok,x=.bool ok∧zG F eG ab (t.more u m) ok∧Mod (fun b=>b=eG) h ab)∧
 (∀(l cE:List aB),eH l≤N→∀(m:et) (v w:V) (h:af),eg F h 4 (l.map aB.enc) v→eg F h 4 (cE.map aB.enc) w→hX F h eG m→Has h pm [.map eG]→Has h og [.func 65 [.ptr (ai pm) 0,.ptr (ai og) 0]]→
   b_ Tryz.prog 66 [v,w,.func 65 [.ptr (ai pm) 0,.ptr (ai og) 0]] h fun x ab=>∃ok,x=.bool ok∧zG F eG ab (hP l cE m) ok∧Mod (fun b=>b=eG) h ab)
 | 0=>by
   refine ⟨fun t u aO=>by have:=y2 t;omega,fun l cE aO m v w h L M kY zI zH=>?_⟩
   have ng:l.length=0:=by have:=y1 l;omega
   obtain rfl:=List.eq_nil_of_length_eq_zero ng
   have ao:=L.len
   have hm:=M.len
   rw [List.length_map] at ao hm
   refine z_ rfl (eA ?_)
   unfold u9
   by_cases av:cE.length=0
   · obtain rfl:=List.eq_nil_of_length_eq_zero av
     simp +contextual only [ao,hm,decide_true,decide_false,↓aA,aI,simprocAttr]
     refine ll (fun r g=>r 17=.int .i64 0∧r 16=.int .i64 0∧g=h) (fun r g=>0) ?_ ?_
     · exact ⟨by simp only [↓aA,cX,simprocAttr],by simp only [↓aA,cX,simprocAttr]<;>rfl,rfl⟩
     rintro r g ⟨ko,r16,rfl⟩
     unfold xz
     simp +contextual only [r16,ko,show ((0:Int)<0)=False from by simp,↓aA,aI,simprocAttr]
     refine ⟨?_,Mod.refl _ _⟩
     rw [hP];exact ⟨rfl,kY⟩
   · have f0:((0:Int)=(cE.length:Int))=False:=eq_false (by omega)
     simp only [List.length_nil,Int.ofNat_zero,Int.natCast_zero] at ao
     simp +contextual only [ao,hm,f0,decide_true,decide_false,↓aA,aI,simprocAttr]
     refine ⟨?_,Mod.refl _ _⟩
     match cE,av with
     | u::cE,_=>rw [hP];rfl
     | [],av=>exact absurd rfl av
 | N+1=>by
   obtain ⟨Gs,yl⟩:=Ni F eG pm og jS LC lN N
   have H1:∀(t u:aB),t.size≤N+1→∀(m:et) (ad ws:List V) (h:af),b5 F h t.enc ad→b5 F h u.enc ws→hX F h eG m→Has h pm [.map eG]→Has h og [.func 65 [.ptr (ai pm) 0,.ptr (ai og) 0]]→
    b_ Tryz.prog 65 [.agg ad,.agg ws,.ptr (ai pm) 0,.ptr (ai og) 0] h fun x ab=>∃ok,x=.bool ok∧zG F eG ab (t.more u m) ok∧Mod (fun b=>b=eG) h ab:=by
    intro t u aO m ad ws h H cG kY zI zH
    have IP:=cG
    obtain ⟨cF,rfl,L,_⟩:=aB.open H
    obtain ⟨wl,rfl,M,_⟩:=aB.open cG
    have ol:=L.one
    have fX:=M.one
    have cc:=size_eq t
    refine TG rfl (eA ?_)
    unfold Ej
    obtain ⟨aa,au,aP,cw⟩:=gY h (qB t cF)
    obtain ⟨ae,az,bl,dd⟩:=gY aa (qB u wl)
    have cf:=cw.ext bl
    have e0:=aP.trans bl
    have xd:=zI.ext e0
    have I5:=zH.ext e0
    have rE:=kY.ext e0
    rw [abv]
    by_cases bL:t.k=1
    · rw [if_pos bL]
      rcases rE.look t.n (.agg z4) true with ⟨qC,iT⟩ | ⟨w,cs,qC,IW,iT⟩
      · rw [qC]
        obtain ⟨aH,aM,bW,rL⟩:=gD ae z4 z4
        have C_:=xd.ext bW
        have eT:=dd.ext bW
        have dt:=cf.ext bW
        obtain ⟨g3,l4,ly,jc,zj⟩:=(rE.ext bW).lz t.n (t:=u) ((IP.ext e0).ext bW) jS
        rw [B9 qC] at ly
        simp +contextual only [au,az,aM,ol.1,ol.2.1,fX.1,fX.2.1,cf.g,dd.g,dt.g,eT.g,xd.g,C_.g,eq_true bL,jO.eq,iT,cond_true,l4,gI,decide_true,decide_false,↓aA,aI,simprocAttr]
        exact ⟨⟨rfl,ly⟩,((e0.trans bW).mod _).trans jc⟩
      · rw [qC]
        obtain ⟨Uq,rfl,W,_⟩:=aB.open IW
        have bn:=W.one
        obtain ⟨aH,aM,bW,rL⟩:=gD ae z4 (qB w Uq)
        have C_:=xd.ext bW
        have eT:=dd.ext bW
        have dt:=cf.ext bW
        simp +contextual only [au,az,aM,ol.1,ol.2.1,fX.1,fX.2.1,bn.1,bn.2.1,rL.g,cf.g,dd.g,dt.g,eT.g,xd.g,C_.g,eq_true bL,jO.eq,iT,cond_true,decide_true,decide_false,↓aA,aI,simprocAttr]
        refine bM (nx w u _ _ aH ((IW.ext bW).je fun _ _=>trivial) (((IP.ext e0).ext bW).je fun _ _=>trivial)) ?_
        rintro x bf ⟨rfl,eu⟩
        simp +contextual only [↓aA,aI,simprocAttr]
        refine ⟨?_,((e0.trans bW).trans eu).mod _⟩
        cases ah:w.same u with
        | true=>exact ⟨rfl,(rE.ext bW).ext eu⟩
        | false=>rfl
    · rw [if_neg bL]
      by_cases b0:u.k=t.k
      · by_cases c3:t.s=u.s
        · rw [if_pos ⟨b0,c3⟩]
          simp +contextual only [au,az,ol.1,ol.2.1,fX.1,fX.2.1,cf.g,dd.g,I5.g,eq_false bL,eq_true b0,eq_true c3,decide_true,decide_false,Bool.true_and,↓aA,aI,simprocAttr]
          refine bM (yl t.l u.l (by omega) m cF wl ae (L.ext e0) (M.ext e0) rE xd I5) ?_
          rintro x aH ⟨ok,rfl,aQ,bW⟩
          simp +contextual only [↓aA,aI,simprocAttr]
          exact ⟨aQ,(e0.mod _).trans bW⟩
        · rw [if_neg (fun q=>c3 q.2)]
          simp +contextual only [au,az,ol.1,ol.2.1,fX.1,fX.2.1,cf.g,dd.g,eq_false bL,eq_true b0,eq_false c3,decide_true,decide_false,Bool.true_and,Bool.false_and,↓aA,aI,simprocAttr]
          exact ⟨rfl,e0.mod _⟩
      · rw [if_neg (fun q=>b0 q.1)]
        simp +contextual only [au,az,ol.1,ol.2.1,fX.1,fX.2.1,cf.g,dd.g,eq_false bL,eq_false b0,decide_true,decide_false,Bool.true_and,Bool.false_and,↓aA,aI,simprocAttr]
        exact ⟨rfl,e0.mod _⟩
   refine ⟨H1,fun l m aO st v w h L M kY zI zH=>?_⟩
   have ao:=L.len
   have hm:=M.len
   have hle:=L.le
   rw [List.length_map] at ao hm hle
   refine z_ rfl (eA ?_)
   unfold u9
   by_cases av:l.length=m.length
   · have f0:((l.length:Int)=(m.length:Int))=True:=eq_true (by omega)
     simp +contextual only [ao,hm,f0,decide_true,decide_false,↓aA,aI,simprocAttr]
     refine ll (fun r g=>r 1=w∧r 2=.func 65 [.ptr (ai pm) 0,.ptr (ai og) 0]∧r 15=v∧r 16=.int .i64 l.length∧∃(i:Nat) (s:et),r 17=.int .i64 i∧i≤l.length∧hP l m st=hP (l.drop i) (m.drop i) s∧hX F g eG s∧Mod (fun b=>b=eG) h g) (fun r g=>l.length - (r 17).toN) ?_ ?_
     · exact ⟨by simp only [↓aA,cX,simprocAttr],by simp only [↓aA,cX,simprocAttr],by simp only [↓aA,cX,simprocAttr],by simp only [↓aA,cX,simprocAttr],0,st,by simp only [↓aA,cX,simprocAttr]<;>rfl,by omega,rfl,kY,Mod.refl _ _⟩
     rintro r g ⟨bS,b7,gx,r16,i,s,ko,aF,ag,I0,E⟩
     unfold xz
     have La:∀b,F b→Old h b→¬(b=eG)∧F b:=fun b q _=>⟨fun z=>jS (by rw [←z];exact q),q⟩
     by_cases aW:i<l.length
     · have g0:((i:Int) < (l.length:Int))=True:=eq_true (by omega)
       have mr:i<m.length:=by omega
       obtain ⟨b,off,cF,fz,X,mW,ld⟩:=aB.q1 (L.mod E La) (k:=.i64) aW
       obtain ⟨cn,ab7,wl,Gq,Y,Dl,GJ⟩:=aB.q1 (M.mod E La) (k:=.i64) mr
       have d1:=ld g (Ext.refl g)
       have ol:=mW.one
       have fX:=Dl.one
       have ks:=sF aW (by unfold top at hle;omega)
       obtain ⟨g1,eR,bx,cw⟩:=gD g z4 (qB l[i] cF)
       obtain ⟨g2,fR,c1,dd⟩:=gD g1 z4 (qB m[i] wl)
       have d2:=GJ g1 bx
       have cf:=cw.ext c1
       have dW:=bx.trans c1
       have bs:=y0 (List.getElem_mem aW)
       simp +contextual only [bS,b7,gx,r16,ko,g0,fz,Gq,d1,d2,eR,fR,ol.1,ol.2.1,fX.1,fX.2.1,cw.g,cf.g,dd.g,s8,List.cons_append,List.nil_append,show (65=4294967296)=False from by simp,if_false,↓aA,aI,simprocAttr]
       refine bM (H1 l[i] m[i] (by omega) s _ _ g2 (X.ext dW) (Y.ext dW) (I0.ext dW) ((zI.mod E (fun z=>LC z.symm)).ext dW) ((zH.mod E (fun z=>lN z.symm)).ext dW)) ?_
       rintro x g3 ⟨ok,rfl,aQ,iE⟩
       have aX:=aby aW mr s
       have fT:=(E.trans (dW.mod _)).trans iE
       cases ah:l[i].more m[i] s with
       | some fY=>
         rw [ah] at aQ aX
         obtain ⟨rfl,aQ⟩:=aQ
         simp +contextual only [bS,b7,gx,r16,ko,ks,↓aA,aI,simprocAttr]
         exact ⟨⟨i+1,fY,rfl,aW,ag.trans aX,aQ,fT⟩,by omega⟩
       | none=>
         rw [ah] at aQ aX
         obtain rfl:ok=false:=aQ
         simp +contextual only [bS,b7,gx,r16,ko,ks,↓aA,aI,simprocAttr]
         refine ⟨?_,fT⟩
         rw [ag.trans aX];rfl
     · have g0:((i:Int) < (l.length:Int))=False:=eq_false (by omega)
       simp +contextual only [bS,b7,gx,r16,ko,g0,↓aA,aI,simprocAttr]
       refine ⟨?_,E⟩
       rw [ag,List.drop_eq_nil_of_le (by omega),List.drop_eq_nil_of_le (by omega),hP]
       exact ⟨rfl,I0⟩
   · have f0:((l.length:Int)=(m.length:Int))=False:=eq_false (by omega)
     simp +contextual only [ao,hm,f0,decide_true,decide_false,↓aA,aI,simprocAttr]
     refine ⟨?_,Mod.refl _ _⟩
     cases ah:hP l m st with
     | none=>rfl
     | some s=>exact absurd (No ah) av
end Go.Proofs.YthemdhlheglhoaaGreatDoor
namespace Go.Proofs.YthemdhlheglhoaaGreatDoor
open Go aY
set_option maxHeartbeats 8000000 in
theorem iV (t u:aB) (ax:t.size≤900000000) (hu:u.size≤900000000) (ad ws:List V) (h:af) (H:b5 Any h t.enc ad) (cG:b5 Any h u.enc ws):b_ Tryz.prog 27 [.agg ad,.agg ws] h fun x ab=>x=.bool (kj t u)∧Ext h ab:=by
 have j6:=H.p8
 have IQ:=cG.p8
 obtain ⟨cF,rfl,L,nV⟩:=aB.open H
 obtain ⟨wl,rfl,M,L1⟩:=aB.open cG
 have ol:=L.one
 have fX:=M.one
 refine Td rfl (eA ?_)
 unfold D7
 obtain ⟨aa,au,aP,cw⟩:=gY h (cJ t cF)
 obtain ⟨ae,az,bl,dd⟩:=gY aa (cJ u wl)
 have cf:=cw.ext bl
 have cz:=aP.next
 have ha:=bl.next
 have e0:=aP.trans bl
 unfold kj
 simp +contextual only [ol.1,ol.2.1,fX.1,fX.2.1,au,az,cf.g,↓aA,aI,simprocAttr]
 refine bM (s9 t ax _ ae ((j6.ext e0).je fun _ _=>trivial)) ?_
 rintro x aH ⟨rfl,bW⟩
 have eT:=dd.ext bW
 have dt:=cf.ext bW
 have n3:=bW.next
 by_cases bL:t.check=0
 case neg=>
  simp +contextual only [eq_false bL,decide_true,decide_false,Bool.false_and,↓aA,aI,simprocAttr]
  exact e0.trans bW
 simp +contextual only [ol.1,ol.2.1,fX.1,fX.2.1,dt.g,eT.g,eq_true bL,decide_true,decide_false,Bool.true_and,↓aA,aI,simprocAttr]
 refine bM (s9 u hu _ aH (((IQ.ext e0).ext bW).je fun _ _=>trivial)) ?_
 rintro x bf ⟨rfl,eu⟩
 have eU:=eT.ext eu
 have eS:=dt.ext eu
 have n4:=eu.next
 have td:=(e0.trans bW).trans eu
 by_cases b0:u.check=0
 case neg=>
  simp +contextual only [eq_false b0,decide_true,decide_false,Bool.true_and,Bool.false_and,↓aA,aI,simprocAttr]
  exact td
 have sW:=hX.new (Old h) bf
 have lG:Ext bf (bf.new (.mp [] 0)):=(Ext.refl bf).new _
 have agz:(bf.new (.mp [] 0)).next=bf.next+1:=rfl
 have BP:o4 none bf=.val (.map (ai bf.next)) (bf.new (.mp [] 0)):=rfl
 generalize ey:bf.new (.mp [] 0)=cB at *
 obtain ⟨b8,fP,ih,nC⟩:=gD cB [.kk] [.map (ai bf.next)]
 obtain ⟨ke,j3,Aj,uV⟩:=gD b8 [.lp] [.func 65 [.ptr (ai cB.next) 0,.ptr (ai b8.next) 0]]
 have EG:=(lG.trans ih).trans Aj
 have EF:=td.trans EG
 have dK:=eS.ext EG
 have dE:=eU.ext EG
 have QF:=nC.ext Aj
 have n6:=ih.next
 have n7:=Aj.next
 have agA:=nC.lt
 simp +contextual only [ol.1,ol.2.1,fX.1,fX.2.1,BP,eq_true b0,decide_true,decide_false,Bool.true_and,fP,j3,uV.g,dK.g,dE.g,s8,List.cons_append,List.nil_append,show (65=4294967296)=False from by simp,if_false,↓aA,aI,simprocAttr]
 refine bM ((Ni (Old h) (ai bf.next) cB.next b8.next (fun q=>by unfold Old at q;rw [c8] at q;have:=td.next;omega) (fun q=>by have:=dR q;omega) (fun q=>by have:=dR q;omega) t.size).1 t u (Nat.le_refl _) [] _ _ ke (j6.ext EF) (IQ.ext EF) ((sW.ext ih).ext Aj) QF uV) ?_
 rintro x ij ⟨ok,rfl,aQ,m8⟩
 simp +contextual only [↓aA,aI,simprocAttr]
 refine ⟨?_,EF.od m8 fun b q=>by rw [show b=ai bf.next from q,c8];have:=td.next;omega⟩
 unfold zG at aQ
 cases ah:t.more u [] with
 | some s=>rw [ah] at aQ;rw [aQ.1];rfl
 | none=>rw [ah] at aQ;rw [aQ];rfl
end Go.Proofs.YthemdhlheglhoaaGreatDoor
namespace Go.Proofs.YthemdhlheglhoaaGreatDoor
open Go aY
mutual
def aB.sub (σ:Int→aB):aB→aB
 | .mk k n x l=>if k=1 then σ n else .mk k n x (gJ σ l)
def gJ (σ:Int→aB):List aB→List aB
 | []=>[]
 | t::l=>t.sub σ::gJ σ l
end
mutual
def aB.hQ:aB→List Int
 | .mk k n x l=>if k=1 then [n] else occs l
def occs:List aB→List Int
 | []=>[]
 | t::l=>t.hQ++occs l
end
section
variable {σ τ:Int→aB}
mutual
theorem sub_congr:∀t:aB,(∀n ∈ t.hQ,σ n=τ n)→t.sub σ=t.sub τ
 | .mk k n x l,h=>by
   rw [aB.sub,aB.sub]
   rw [aB.hQ] at h
   by_cases c:k=1
   · rw [if_pos c,if_pos c];rw [if_pos c] at h;exact h n (List.mem_singleton.2 rfl)
   · rw [if_neg c,if_neg c];rw [if_neg c] at h;rw [Pw l h]
theorem Pw:∀l:List aB,(∀n ∈ occs l,σ n=τ n)→gJ σ l=gJ τ l
 | [],_=>rfl
 | t::l,h=>by
   rw [occs] at h
   rw [gJ,gJ,sub_congr t (fun n q=>h n (List.mem_append_left _ q)),Pw l (fun n q=>h n (List.mem_append_right _ q))]
end
mutual
theorem Pt:∀t:aB,t.sub σ=t.sub τ→∀n ∈ t.hQ,σ n=τ n
 | .mk k n x l,h,m,hm=>by
   rw [aB.sub,aB.sub] at h
   rw [aB.hQ] at hm
   by_cases c:k=1
   · rw [if_pos c,if_pos c] at h;rw [if_pos c,List.mem_singleton] at hm;subst hm;exact h
   · rw [if_neg c,if_neg c,aB.mk.injEq] at h;rw [if_neg c] at hm;exact Py l h.2.2.2 m hm
theorem Py:∀l:List aB,gJ σ l=gJ τ l→∀n ∈ occs l,σ n=τ n
 | [],_,n,h=>by rw [occs] at h;cases h
 | t::l,h,n,aS=>by
   rw [gJ,gJ,List.cons.injEq] at h
   rw [occs] at aS
   rcases List.mem_append.1 aS with aS | aS
   · exact Pt t h.1 n aS
   · exact Py l h.2 n aS
end
mutual
theorem sub_sub:∀t:aB,(t.sub σ).sub τ=t.sub (fun n=>(σ n).sub τ)
 | .mk k n x l=>by
   rw [aB.sub,aB.sub]
   by_cases c:k=1
   · rw [if_pos c,if_pos c]
   · rw [if_neg c,if_neg c,aB.sub,if_neg c,PA l]
theorem PA:∀l:List aB,gJ τ (gJ σ l)=gJ (fun n=>(σ n).sub τ) l
 | []=>rfl
 | t::l=>by rw [gJ,gJ,gJ,sub_sub t,PA l]
end
end
theorem acE {t:aB} (h:t.own=true) (ay:t.k=1):t.s=[]∧t.l=[]:=by
 unfold aB.own at h
 rw [if_pos ay] at h
 simp only [Bool.and_eq_true,decide_eq_true_eq] at h
 exact ⟨h.1.2,List.eq_nil_of_length_eq_zero h.2⟩
theorem acF {t:aB} (h:t.own=true) (ay:¬t.k=1):t.n=0:=by
 unfold aB.own at h
 rw [if_neg ay] at h
 split at h
 · split at h
   · simp only [Bool.and_eq_true,decide_eq_true_eq] at h;exact h.1
   · simp only [Bool.and_eq_true,decide_eq_true_eq] at h;exact h.1.1
 · cases h
theorem Cq {k n:Int} {x:List UInt8} {l:List aB} (h:(aB.mk k n x l).shape=true) (ay:k=1):aB.mk k n x l=iC n:=by
 rw [zb,Bool.and_eq_true] at h
 obtain ⟨aa,ae⟩:=acE h.1 ay
 rw [show x=[] from aa,show l=[] from ae,ay]
theorem O' {k n:Int} {x:List UInt8} {l:List aB} (h:(aB.mk k n x l).shape=true) (ay:¬k=1):n=0:=by
 rw [zb,Bool.and_eq_true] at h
 exact acF h.1 ay
theorem zc {k n:Int} {x:List UInt8} {l:List aB} (h:(aB.mk k n x l).shape=true):ja l=true:=by
 rw [zb,Bool.and_eq_true] at h
 exact h.2
theorem oo {t:aB} {l:List aB} (h:ja (t::l)=true):t.shape=true∧ja l=true:=by
 rw [ja,Bool.and_eq_true] at h
 exact h
mutual
theorem CB:∀t:aB,t.shape=true→t.sub iC=t
 | .mk k n x l,h=>by
   rw [aB.sub]
   by_cases c:k=1
   · rw [if_pos c];exact (Cq h c).symm
   · rw [if_neg c,Px l (zc h)]
theorem Px:∀l:List aB,ja l=true→gJ iC l=l
 | [],_=>rfl
 | t::l,h=>by rw [gJ,CB t (oo h).1,Px l (oo h).2]
end
def sf (s:et) (n:Int):aB:=(cl n s).getD (iC n)
mutual
theorem y7 (s:et):∀t:aB,t.shape=true→t.put s=t.sub (sf s)
 | .mk k n x l,h=>by
   rw [aB.put,aB.sub]
   by_cases c:k=1
   · have aa:=Cq h c
     rw [if_pos c,if_pos c]
     unfold sf
     cases av:cl n s with
     | some u=>rfl
     | none=>
       simp only [Option.getD_none]
       rw [aB.mk.injEq] at aa
       rw [aa.2.2.2,dr,aa.1,aa.2.2.1]
   · rw [if_neg c,if_neg c,OB s l (zc h)]
theorem OB (s:et):∀l:List aB,ja l=true→dr s l=gJ (sf s) l
 | [],_=>rfl
 | t::l,h=>by rw [dr,gJ,y7 s t (oo h).1,OB s l (oo h).2]
end
theorem BD {n k:Int} {u:aB}:∀m:et,cl n (m++[(k,u)])=(match cl n m with
 | some w=>some w
 | none=>if n=k then some u else none)
 | []=>by simp only [List.nil_append,cl]
 | (a,w)::m=>by
   simp only [List.cons_append,cl]
   by_cases c:n=a
   · rw [if_pos c,if_pos c]
   · rw [if_neg c,if_neg c];exact BD m
mutual
theorem Nl:∀(t u:aB) (m b3:et),t.shape=true→u.shape=true→t.more u m=some b3→(∀n w,cl n m=some w→cl n b3=some w)∧∀σ:Int→aB,(∀n w,cl n b3=some w→σ n=w)→t.sub σ=u
 | .mk k n x l,u,m,b3,ax,hu,h=>by
   rw [aB.more] at h
   by_cases c:k=1
   · rw [if_pos c] at h
     cases av:cl n m with
     | some w=>
       rw [av] at h
       simp only at h
       split at h
       · rename_i aO
         cases h
         refine ⟨fun n w q=>q,fun σ nX=>?_⟩
         rw [aB.sub,if_pos c,nX n w av]
         exact (wN w u).1 aO
       · cases h
     | none=>
       rw [av] at h
       cases h
       refine ⟨fun a w q=>by rw [BD,q],fun σ nX=>?_⟩
       rw [aB.sub,if_pos c]
       exact nX n u (by rw [BD,av];simp)
   · rw [if_neg c] at h
     split at h
     · rename_i aD
       obtain ⟨aa,ae⟩:=Np l u.l m b3 (zc ax) (by rw [zb,Bool.and_eq_true] at hu;exact hu.2) h
       refine ⟨aa,fun σ nX=>?_⟩
       rw [aB.sub,if_neg c,ae σ nX]
       cases u with
       | mk bp im Iu cE=>
         simp only [aB.k,aB.s,aB.l] at aD ⊢
         rw [O' ax c,O' hu (by rw [aD.1];exact c),aD.1,aD.2]
     · cases h
theorem Np:∀(l cE:List aB) (m b3:et),ja l=true→ja cE=true→hP l cE m=some b3→(∀n w,cl n m=some w→cl n b3=some w)∧∀σ:Int→aB,(∀n w,cl n b3=some w→σ n=w)→gJ σ l=cE
 | [],[],m,b3,_,_,h=>by rw [hP] at h;cases h;exact ⟨fun _ _ q=>q,fun _ _=>rfl⟩
 | t::l,u::cE,m,b3,ax,hu,h=>by
   rw [hP] at h
   cases av:t.more u m with
   | none=>rw [av] at h;cases h
   | some m2=>
     rw [av] at h
     obtain ⟨bE,a2⟩:=Nl t u m m2 (oo ax).1 (oo hu).1 av
     obtain ⟨cx,cn⟩:=Np l cE m2 b3 (oo ax).2 (oo hu).2 h
     refine ⟨fun n w q=>cx n w (bE n w q),fun σ nX=>?_⟩
     rw [gJ,a2 σ (fun n w q=>nX n w (cx n w q)),cn σ nX]
 | [],_::_,_,_,_,_,h=>by rw [hP] at h;cases h
 | _::_,[],_,_,_,_,h=>by rw [hP] at h;cases h
end
mutual
theorem Nk (σ:Int→aB):∀(t u:aB) (m:et),t.sub σ=u→(∀n w,cl n m=some w→σ n=w)→∃b3,t.more u m=some b3∧∀n w,cl n b3=some w→σ n=w
 | .mk k n x l,u,m,h,hm=>by
   rw [aB.sub] at h
   rw [aB.more]
   by_cases c:k=1
   · rw [if_pos c] at h ⊢
     cases av:cl n m with
     | some w=>
       have:w=u:=(hm n w av).symm.trans h
       simp only
       rw [if_pos ((wN w u).2 this)]
       exact ⟨m,rfl,hm⟩
     | none=>
       refine ⟨_,rfl,fun a w q=>?_⟩
       rw [BD] at q
       cases bd:cl a m with
       | some aj=>rw [bd] at q;cases q;exact hm a _ bd
       | none=>
         rw [bd] at q
         simp only at q
         split at q
         · rename_i e;cases q;rw [e];exact h
         · cases q
   · rw [if_neg c] at h ⊢
     subst h
     simp only [aB.k,aB.s,aB.l,and_self,if_true]
     exact Nn σ l _ m rfl hm
theorem Nn (σ:Int→aB):∀(l cE:List aB) (m:et),gJ σ l=cE→(∀n w,cl n m=some w→σ n=w)→∃b3,hP l cE m=some b3∧∀n w,cl n b3=some w→σ n=w
 | [],cE,m,h,hm=>by
   rw [gJ] at h;subst h;rw [hP];exact ⟨m,rfl,hm⟩
 | t::l,cE,m,h,hm=>by
   rw [gJ] at h
   subst h
   rw [hP]
   obtain ⟨m2,bE,a2⟩:=Nk σ t _ m rfl hm
   rw [bE]
   exact Nn σ l _ m2 rfl a2
end
theorem BK (t u:aB):kj t u=true↔t.check=0∧u.check=0∧∃σ:Int→aB,t.sub σ=u:=by
 unfold kj
 simp only [Bool.and_eq_true,decide_eq_true_eq,Option.isSome_iff_exists]
 constructor
 · rintro ⟨⟨aa,ae⟩,b3,aH⟩
   refine ⟨aa,ae,sf b3,(Nl t u [] b3 (kB aa).1 (kB ae).1 aH).2 _ fun n w q=>?_⟩
   unfold sf;rw [q];rfl
 · rintro ⟨aa,ae,σ,aH⟩
   obtain ⟨b3,a,_⟩:=Nk σ t u [] aH (fun n w q=>by cases q)
   exact ⟨⟨aa,ae⟩,b3,a⟩
theorem abw (t:aB):kj t t=decide (t.check=0):=by
 rw [Bool.eq_iff_iff,BK,decide_eq_true_eq]
 exact ⟨fun h=>h.1,fun h=>⟨h,h,iC,CB t (kB h).1⟩⟩
theorem abx {a b c:aB} (aa:kj a b=true) (ae:kj b c=true):kj a c=true:=by
 rw [BK] at *
 obtain ⟨bd,ah,σ,rfl⟩:=aa
 obtain ⟨_,aD,τ,rfl⟩:=ae
 exact ⟨bd,aD,_,(sub_sub a).symm⟩
theorem yF {a b:aB} (h:(hy [(0,b)] a).2=0):kj a (hy [(0,b)] a).1=true:=by
 unfold hy at h ⊢
 split at h
 · rename_i aD
   rw [if_pos aD]
   split at h
   · rename_i bs
     rw [if_pos bs]
     have oW:=Cb (s:=[(0,b)]) (fun n u q=>(kB (CA aD.1 n u q).1).1) a (kB aD.2).1
     rw [BK]
     exact ⟨aD.2,by rw [Eu oW,if_pos bs],_,(y7 _ a (kB aD.2).1).symm⟩
   · cases h
 · cases h
end Go.Proofs.YthemdhlheglhoaaGreatDoor
namespace Go.Proofs.YthemdhlheglhoaaGreatDoor
open Go aY
def mX (out:List Int) (n:Int):List Int:=if n ∈ out then out else out++[n]
mutual
theorem N4:∀(t:aB) (out:List Int),t.shape=true→t.pre.foldl gC out=t.hQ.foldl mX out
 | .mk k n x l,out,h=>by
   rw [aB.pre,aB.hQ,List.foldl_cons]
   by_cases c:k=1
   · have aa:=Cq h c
     rw [aB.mk.injEq] at aa
     rw [if_pos c,aa.2.2.2,oh,List.foldl_nil,List.foldl_cons,List.foldl_nil]
     unfold gC mX
     simp only [aB.k,aB.n,c,true_and]
     by_cases q:n ∈ out
     · rw [if_pos q,if_neg (fun z=>z q)]
     · rw [if_neg q,if_pos q]
   · rw [if_neg c,show gC out (.mk k n x l)=out from by unfold gC;rw [if_neg (fun q=>c q.1)]]
     exact N9 l out (zc h)
theorem N9:∀(l:List aB) (out:List Int),ja l=true→(oh l).foldl gC out=(occs l).foldl mX out
 | [],out,_=>by rw [oh,occs];rfl
 | t::l,out,h=>by rw [oh,occs,List.foldl_append,List.foldl_append,N4 t out (oo h).1,N9 l _ (oo h).2]
end
theorem zk {t:aB} (h:t.shape=true):t.vars=t.hQ.foldl mX []:=N4 t [] h
theorem AE {a:Int}:∀(l out:List Int),a ∈ l.foldl mX out↔a ∈ l∨a ∈ out
 | [],out=>by simp
 | n::l,out=>by
   rw [List.foldl_cons,AE l]
   unfold mX
   split
   · rename_i q
     rw [List.mem_cons]
     exact ⟨fun h=>h.elim (fun h=>.inl (.inr h)) .inr,fun h=>h.elim (fun h=>h.elim (fun h=>.inr (by rw [h];exact q)) .inl) .inr⟩
   · simp only [List.mem_append,List.mem_cons,List.not_mem_nil,or_false]
     exact ⟨fun h=>h.elim (fun h=>.inl (.inr h)) (fun h=>h.elim .inr (fun h=>.inl (.inl h))),fun h=>h.elim (fun h=>h.elim (fun h=>.inr (.inr h)) .inl) (fun h=>.inr (.inl h))⟩
theorem fold_map (π:Int→Int):∀(l out:List Int),(∀a b,(a ∈ l∨a ∈ out)→(b ∈ l∨b ∈ out)→π a=π b→a=b)→(l.map π).foldl mX (out.map π)=(l.foldl mX out).map π
 | [],out,_=>rfl
 | n::l,out,h=>by
   rw [List.map_cons,List.foldl_cons,List.foldl_cons]
   have he:mX (out.map π) (π n)=(mX out n).map π:=by
    unfold mX
    by_cases q:n ∈ out
    · rw [if_pos q,if_pos (List.mem_map_of_mem q)]
    · rw [if_neg q,if_neg,List.map_append]
      · rfl
      · intro z
        obtain ⟨b,ah,e⟩:=List.mem_map.1 z
        have:=h b n (.inr ah) (.inl List.mem_cons_self) e
        subst this
        exact q ah
   rw [he]
   refine fold_map π l _ fun a b bd ah e=>?_
   have Mr:∀a,(a ∈ l∨a ∈ mX out n)→(a ∈ n::l∨a ∈ out):=fun a bd=>by
    rcases bd with bd | bd
    · exact .inl (List.mem_cons_of_mem _ bd)
    · unfold mX at bd
      split at bd
      · exact .inr bd
      · rcases List.mem_append.1 bd with bd | bd
        · exact .inr bd
        · rw [List.mem_singleton] at bd;exact .inl (by rw [bd];exact List.mem_cons_self)
   exact h a b (Mr a bd) (Mr b ah) e
theorem OL (π:Int→Int) (n:Int):∀(l:List Int) (i:Int),(∀a ∈ l,π n=π a→n=a)→cl (π n) (fC i (l.map π))=cl n (fC i l)
 | [],i,_=>rfl
 | m::l,i,h=>by
   simp only [List.map_cons,fC,cl]
   by_cases c:n=m
   · rw [if_pos c,if_pos (by rw [c])]
   · rw [if_neg c,if_neg (fun q=>c (h m List.mem_cons_self q))]
     exact OL π n l (i+1) fun a bd=>h a (List.mem_cons_of_mem _ bd)
theorem Ci {n:Int}:∀{l:List Int} (z:Int),n ∈ l→∃i:Nat,l[i]? =some n∧cl n (fC z l)=some (iC (z+i))∧i<l.length
 | m::l,z,h=>by
   simp only [fC,cl]
   by_cases c:n=m
   · rw [if_pos c]
     exact ⟨0,by rw [c];rfl,by simp,by simp⟩
   · rw [if_neg c]
     rcases List.mem_cons.1 h with h | h
     · exact absurd h c
     obtain ⟨i,aa,ae,aH⟩:=Ci (z+1) h
     exact ⟨i+1,by rw [List.getElem?_cons_succ];exact aa,by rw [ae];congr 2;omega,by rw [List.length_cons];omega⟩
mutual
theorem Nz {σ:Int→aB} (π:Int→Int):∀t:aB,(∀n ∈ t.hQ,σ n=iC (π n))→(t.sub σ).hQ=t.hQ.map π
 | .mk k n x l,h=>by
   rw [aB.sub,aB.hQ]
   rw [aB.hQ] at h
   by_cases c:k=1
   · rw [if_pos c,if_pos c]
     rw [if_pos c] at h
     rw [h n (List.mem_singleton.2 rfl),aB.hQ,if_pos rfl];rfl
   · rw [if_neg c,if_neg c,aB.hQ,if_neg c]
     rw [if_neg c] at h
     exact NA π l h
theorem NA {σ:Int→aB} (π:Int→Int):∀l:List aB,(∀n ∈ occs l,σ n=iC (π n))→occs (gJ σ l)=(occs l).map π
 | [],_=>by rw [gJ,occs];rfl
 | t::l,h=>by
   rw [occs] at h
   rw [gJ,occs,occs,List.map_append,Nz π t (fun n q=>h n (List.mem_append_left _ q)),NA π l (fun n q=>h n (List.mem_append_right _ q))]
end
mutual
theorem Pv {σ:Int→aB}:∀t:aB,(t.sub σ).shape=true→∀n ∈ t.hQ,(σ n).shape=true
 | .mk k n x l,h,m,hm=>by
   rw [aB.sub] at h
   rw [aB.hQ] at hm
   by_cases c:k=1
   · rw [if_pos c] at h
     rw [if_pos c,List.mem_singleton] at hm
     subst hm;exact h
   · rw [if_neg c] at h
     rw [if_neg c] at hm
     exact Pz l (zc h) m hm
theorem Pz {σ:Int→aB}:∀l:List aB,ja (gJ σ l)=true→∀n ∈ occs l,(σ n).shape=true
 | [],_,n,h=>by rw [occs] at h;cases h
 | t::l,h,n,aS=>by
   rw [gJ] at h
   rw [occs] at aS
   rcases List.mem_append.1 aS with aS | aS
   · exact Pv t (oo h).1 n aS
   · exact Pz l (oo h).2 n aS
end
theorem ae0 {a b:Int} (h:iC a=iC b):a=b:=by
 rw [aB.mk.injEq] at h;exact h.2.1
theorem CF (σ:Int→aB) (a:Int):(iC a).sub σ=σ a:=by rw [aB.sub,if_pos rfl]
theorem ON {t u:aB} {σ τ:Int→aB} (ax:t.shape=true) (hu:u.shape=true) (aa:t.sub σ=u) (ae:u.sub τ=t):t.put (fC 0 t.vars)=u.put (fC 0 u.vars):=by
 have aS:∀n ∈ t.hQ,(σ n).sub τ=iC n:=by
  have:t.sub (fun n=>(σ n).sub τ)=t.sub iC:=by rw [←sub_sub,aa,ae,CB t ax]
  exact Pt t this
 have aO:∀n ∈ t.hQ,σ n=iC (σ n).n:=fun n q=>by
  have a:=aS n q
  have b:=Pv t (by rw [aa];exact hu) n q
  cases av:σ n with
  | mk k m x l=>
    rw [av] at a b
    by_cases c:k=1
    · exact Cq b c
    · rw [aB.sub,if_neg c,aB.mk.injEq] at a
      exact absurd a.1 c
 have aF:∀a b,a ∈ t.hQ→b ∈ t.hQ→(σ a).n=(σ b).n→a=b:=fun a b bd ah e=>by
  have x:=aS a bd
  have y:=aS b ah
  rw [aO a bd,CF] at x
  rw [aO b ah,CF,←e] at y
  exact ae0 (x.symm.trans y)
 have aQ:u.hQ=t.hQ.map (fun n=>(σ n).n):=by rw [←aa];exact Nz _ t aO
 have br:u.vars=t.vars.map (fun n=>(σ n).n):=by
  rw [zk hu,zk ax,aQ]
  exact fold_map (fun n=>(σ n).n) t.hQ [] fun a b bd ah e=>aF a b (by simpa using bd) (by simpa using ah) e
 have r5:∀a,a ∈ t.vars→a ∈ t.hQ:=fun a q=>by rw [zk ax,AE] at q;simpa using q
 rw [y7 _ t ax,y7 _ u hu,←aa,sub_sub]
 rw [aa]
 refine sub_congr t fun n tM=>?_
 have XF:n ∈ t.vars:=by rw [zk ax,AE];exact .inl tM
 obtain ⟨i,_,bf,_⟩:=Ci 0 XF
 have cB:cl (σ n).n (fC 0 u.vars)=cl n (fC 0 t.vars):=by
  rw [br];exact OL (fun n=>(σ n).n) n t.vars 0 fun a bd e=>aF n a tM (r5 a bd) e
 rw [aO n tM,CF]
 unfold sf
 rw [cB,bf]
 rfl
theorem Nj {a b:aB} (aa:kj a b=true) (ae:kj b a=true):cS a=cS b:=by
 rw [BK] at *
 obtain ⟨bd,ah,σ,aa⟩:=aa
 obtain ⟨_,_,τ,ae⟩:=ae
 unfold cS
 rw [if_pos bd,if_pos ah]
 exact ON (kB bd).1 (kB ah).1 aa ae
mutual
theorem Ot (s:et) (aO:∀n u,cl n s=some u→u.deep≤1):∀t:aB,(t.put s).deep≤t.deep
 | .mk k n x l=>by
   rw [aB.put,aB.deep]
   cases av:(if k=1 then cl n s else none) with
   | some u=>
     have:u.deep≤1:=by
      by_cases c:k=1
      · rw [if_pos c] at av;exact aO n u av
      · rw [if_neg c] at av;cases av
     simp only
     omega
   | none=>
     have:=Ow s aO l
     simp only
     rw [aB.deep];omega
theorem Ow (s:et) (aO:∀n u,cl n s=some u→u.deep≤1):∀l:List aB,jB (dr s l)≤jB l
 | []=>by rw [dr];simp [jB]
 | t::l=>by
   have:=Ot s aO t
   have:=Ow s aO l
   rw [dr,jB,jB];omega
end
theorem ae1 {j:Int} (a6:0≤j) (aa:j≤1048575):(iC j).shape=true:=by
 rw [zb]
 unfold aB.own
 simp [aB.k,aB.n,aB.s,aB.l,ja,a6,aa]
theorem OK {n:Int} {u:aB} {l:List Int} (h:cl n (fC 0 l)=some u):∃i:Nat,u=iC i∧i<l.length:=by
 by_cases q:n ∈ l
 · obtain ⟨i,_,ae,aH⟩:=Ci 0 q
   rw [ae] at h
   cases h
   exact ⟨i,by rw [Int.zero_add],aH⟩
 · rw [HI q] at h;cases h
theorem HJ {a:aB} (h:a.check=0):cS a=a.put (fC 0 a.vars):=by unfold cS;rw [if_pos h]
theorem OM {a:aB} (h:a.check=0):(cS a).check=0:=by
 obtain ⟨aa,ae,aH⟩:=kB h
 have ao:=PX a
 have oW:(a.put (fC 0 a.vars)).shape=true:=Cb (fun n u q=>by obtain ⟨i,rfl,aF⟩:=OK q;exact ae1 (by omega) (by omega)) a aa
 have aX:(a.put (fC 0 a.vars)).deep≤a.deep:=Ot _ (fun n u q=>by obtain ⟨i,rfl,aF⟩:=OK q;simp [aB.deep,jB]) a
 rw [HJ h,Eu oW,if_pos ⟨Nat.le_trans (OO a) ae,Nat.le_trans aX aH⟩]
theorem adv {a:aB} (h:a.check=0):cS (cS a)=cS a:=by
 have ae:=OM h
 have aO:=(kB h).1
 have e:cS a=a.sub (sf (fC 0 a.vars)):=by unfold cS;rw [if_pos h,y7 _ a aO]
 have aG:(cS a).sub (fun j=>iC ((a.vars[j.toNat]?).getD 0))=a:=by
  rw [e,sub_sub]
  refine Eq.trans (sub_congr a fun n aS=>?_) (CB a aO)
  obtain ⟨i,aH,bf,_⟩:=Ci (n:=n) (l:=a.vars) 0 (by rw [zk aO,AE];exact .inl aS)
  unfold sf
  rw [bf]
  simp only [Option.getD_some]
  rw [CF,Int.zero_add,Int.toNat_natCast,aH]
  rfl
 have:=ON aO (kB ae).1 e.symm aG
 rw [HJ ae,←this,HJ h]
end Go.Proofs.YthemdhlheglhoaaGreatDoor
