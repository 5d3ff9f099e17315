/- The chapter's functions, walked by the abstract machine: plain lemmas, no condition. Printed by a program from longer texts: names made short. -/
import Derived.Test.YthemdhlheglhoaaGreatDoorM12
import Derived.Test.YthemdhlheglhoaaGreatDoorM13
import Derived.Test.YthemdhlheglhoaaGreatDoorM11
import Derived.Test.YthemdhlheglhoaaGreatDoorM8
import Derived.Test.YthemdhlheglhoaaGreatDoorM4
set_option linter.unusedSectionVars false
set_option linter.unusedSimpArgs false
set_option linter.unusedVariables false
namespace Go.Proofs.YthemdhlheglhoaaGreatDoor
open Go a6
section
variable [Lay]
inductive dZ (h:af):(aO→Prop)→List aL→V→Prop
 | mk {S:aO→Prop} {l:List aL} {v:V} (us:List (List V)) (ws:Nat→V) (im:Nat→aO→Prop) (o:ed 0 h 4 v l.length us.flatten) (hu:us.length=l.length) (aV:l.length≤top)
    (cells:∀(i:Nat) (t:aL),l[i]? =some t→us[i]? =some [.int .i64 t.k,.int .i64 t.n,.str t.s,ws i]∧t.s.length≤top)
    (kids:∀(i:Nat) (t:aL),l[i]? =some t→dZ h (im i) t.l (ws i)) (bn:∀b,v.a8 b→S b) (dq:∀(i:Nat) (b:aO),i<l.length→im i b→S b∧¬v.a8 b)
    (apart:∀(i j:Nat) (b:aO),i<l.length→j<l.length→i≠j→im i b→¬im j b):dZ h S l v
variable {h ab:af} {S:aO→Prop} {l:List aL} {v:V}
theorem dZ.nil (h:af) (S:aO→Prop):dZ h S [] .b6:=
 .mk [] (fun _=>.b6) (fun _ _=>False) ⟨by simp,rfl⟩ rfl (Nat.zero_le _) (fun i t q=>by simp at q) (fun i t q=>by simp at q) (fun b q=>q.elim) (fun i b q=>absurd q (Nat.not_lt_zero _)) (fun i j b q=>absurd q (Nat.not_lt_zero _))
theorem dZ.mod {M:aO→Prop} (H:dZ h S l v) (m:Mod M h ab) (cE:∀b,S b→¬M b):dZ ab S l v:=by
 induction H with
 | mk us ws im o hu aV cells kids bn dq apart bh=>
   exact .mk us ws im (o.mod m fun b q=>cE b (bn b q)) hu aV cells (fun i t q=>bh i t q fun b z=>cE b (dq i b (by obtain ⟨au,_⟩:=List.getElem?_eq_some_iff.1 q;exact au) z).1) bn dq apart
theorem dZ.ext (H:dZ h S l v) (e:Ext h ab):dZ ab S l v:=by
 induction H with
 | mk us ws im o hu aV cells kids bn dq apart bh=>exact .mk us ws im (o.ext e) hu aV cells bh bn dq apart
theorem dZ.fH {yg:aO→Prop} (H:dZ h S l v) (w:∀b,S b→yg b):dZ h yg l v:=by
 cases H with
 | mk us ws im o hu aV cells kids bn dq apart=>exact .mk us ws im o hu aV cells kids (fun b q=>w b (bn b q)) (fun i b q z=>⟨w b (dq i b q z).1,(dq i b q z).2⟩) apart
theorem dZ.fx {F:aO→Prop} (H:dZ h S l v) (w:∀b,S b→F b):cZ F h 4 (l.map aL.enc) v:=by
 induction H with
 | mk us ws im o hu aV cells kids bn dq apart bh=>
   refine ⟨o.room,by rw [List.length_map];exact aV,⟨us,by rw [List.length_map];exact o.v,by rw [List.length_map];exact hu,fun u q=>?_,fun i e u au aC=>?_⟩,fun b q=>w b (bn b q)⟩
   · obtain ⟨i,aD,rfl⟩:=List.getElem_of_mem q
     have:=(cells i _ (List.getElem?_eq_getElem (by omega))).1
     rw [List.getElem?_eq_getElem aD] at this
     rw [Option.some.inj this];rfl
   · rw [List.getElem?_map] at au
     cases aA:(_:List aL)[i]? with
     | none=>rw [aA] at au;cases au
     | some t=>
       rw [aA] at au
       simp only [Option.map_some,Option.some.injEq] at au
       subst au
       obtain ⟨bE,bR⟩:=cells i t aA
       rw [bE] at aC
       cases aC
       rw [qw]
       have aD:i<_:=(List.getElem?_eq_some_iff.1 aA).1
       exact .i (.i (.s bR ((bh i t aA fun b z=>w b (dq i b aD z).1).cons .nil)))
theorem dZ.one (H:dZ h S l v):v.one=true∧v.cells=[v]∧v.e9=true:=by
 cases H with
 | mk us ws im o hu aV cells kids bn dq apart=>exact o.v.one
theorem dZ.len (H:dZ h S l v):kq v=some (.int .i64 l.length):=by
 cases H with
 | mk us ws im o hu aV cells kids bn dq apart=>exact o.v.len
theorem dZ.bn (H:dZ h S l v):∀b,v.a8 b→S b:=by
 cases H with
 | mk us ws im o hu aV cells kids bn dq apart=>exact bn
theorem dZ.add {T:aO→Prop} {t:aL} {u:V} (H:dZ h S l v) (E:dZ h T t.l u) (zl:∀b,S b→¬T b) (mH:∀b,S b→Old h b) (tG:∀b,T b→Old h b) (hlen:(l.length+1) * 4≤top) (aQ:t.s.length≤top):
 ∃eQ ab,lh 4 v (.slice (aq h.next) 0 1 1) (h.new (.bb [.int .i64 t.k,.int .i64 t.n,.str t.s,u] 0 false))=.val eQ ab∧dZ ab (fun b=>S b∨T b∨(h.next≤ei b∧ei b<ab.next)) (l++[t]) eQ∧Mod v.a8 h ab∧h.next+1≤ab.next:=by
 have ev:=E.one
 cases H with
 | mk us ws im o hu aV cells kids bn dq apart=>
   obtain ⟨eQ,ab,au,aC,aM,bG,dJ⟩:=yo (cs:=[.int .i64 t.k,.int .i64 t.n,.str t.s,u]) (by omega) o (Nat.zero_le _) hlen rfl (by simp only [fk,MC,MD,ev.1,Bool.and_self,Bool.and_true])
   have K1:∀b,eQ.a8 b→¬v.a8 b→¬Old h b:=fun b z z2=>by
    rcases dJ b z with z | z
    · exact absurd z z2
    · unfold Old;omega
   have snoc:∀(i:Nat) (s:aL),(l++[t])[i]? =some s→(i<l.length∧l[i]? =some s)∨(i=l.length∧s=t):=fun i s q=>zd q
   refine ⟨eQ,ab,au,.mk (us++[[.int .i64 t.k,.int .i64 t.n,.str t.s,u]]) (fun i=>if i<l.length then ws i else u) (fun i=>if i<l.length then im i else T) ?_ (by simp [hu]) (by rw [List.length_append,List.length_singleton];omega) (fun i s q=>?_) (fun i s q=>?_) (fun b z=>?_) (fun i b aD z=>?_) (fun i j b aD bB kQ z=>?_),aM,bG⟩
   · rw [List.length_append,List.length_singleton,List.flatten_append]
     simpa using aC
   · rcases snoc i s q with ⟨aa,ae⟩ | ⟨aa,rfl⟩
     · rw [if_pos aa,List.getElem?_append_left (by omega)]
       exact cells i s ae
     · subst aa
       rw [if_neg (by omega),List.getElem?_append_right (by omega),hu,Nat.sub_self]
       exact ⟨rfl,aQ⟩
   · rcases snoc i s q with ⟨aa,ae⟩ | ⟨aa,rfl⟩
     · simp only [if_pos aa]
       exact (kids i s ae).mod aM fun b z=>(dq i b aa z).2
     · subst aa
       simp only [Nat.lt_irrefl,if_false]
       exact E.mod aM fun b z z2=>zl b (bn b z2) z
   · have aS:=aC.v.bO z
     rcases dJ b z with z | z
     · exact .inl (bn b z)
     · exact .inr (.inr (by unfold Old at aS;omega))
   · by_cases aa:i<l.length
     · rw [if_pos aa] at z
       obtain ⟨a,c⟩:=dq i b aa z
       exact ⟨.inl a,fun z2=>K1 b z2 c (mH b a)⟩
     · rw [if_neg aa] at z
       exact ⟨.inr (.inl z),fun z2=>K1 b z2 (fun z3=>zl b (bn b z3) z) (tG b z)⟩
   · rw [List.length_append,List.length_singleton] at aD bB
     by_cases aa:i<l.length
     · rw [if_pos aa] at z
       by_cases ae:j<l.length
       · rw [if_pos ae]
         exact apart i j b aa ae kQ z
       · rw [if_neg ae]
         exact zl b (dq i b aa z).1
     · rw [if_neg aa] at z
       rw [if_pos (by omega)]
       exact fun z2=>zl b (dq j b (by omega) z2).1 z
end
def eT (a b:Nat) (p:aO):Prop:=a≤ei p∧ei p<b
theorem Vo {size:Nat} (us:List (List V)) (i:Nat) (u:List V) (aD:i<us.length) (hu:u.length=size) (h:∀w ∈ us,w.length=size):hf us.flatten (i * size) u=(us.set i u).flatten:=by
 unfold hf
 rw [List.set_eq_take_append_cons_drop,if_pos aD,List.flatten_append,List.flatten_cons,JO _ _ h,JN _ _ h,hu,List.append_assoc,show (i+1) * size=i * size+size from Nat.succ_mul _ _]
abbrev F6:aL:=.mk 77 0 [] []
abbrev tg:List V:=[.int .i64 77,.int .i64 0,.str [],.b6]
section
variable [Lay]
theorem dZ.over {h:af} {S:aO→Prop} {l:List aL} {v:V} (H:dZ h S l v) {i:Nat} (aD:i<l.length):
 ∃(T:aO→Prop) (w:V) (b:aO) (off:Nat),dZ h T l[i].l w∧(∀x,T x→S x)∧iU 4 v (.int .i64 i)=some (.ptr b (off+i * 4))∧iC (h.get b) (off+i * 4+3)=some w∧
  ∀aa,Mod T h aa→∃ae,nj 4 aa (.ptr b (off+i * 4)) (.agg tg)=some ae∧dZ ae S (l.set i F6) v∧Mod v.a8 aa ae:=by
 cases H with
 | mk us ws im o hu aV cells kids bn dq apart=>
   obtain ⟨bE,bR⟩:=cells i l[i] (List.getElem?_eq_getElem aD)
   have bm:∀u ∈ us,u.length=4:=fun u q=>by
    obtain ⟨j,bB,rfl⟩:=List.getElem_of_mem q
    have:=(cells j l[j] (List.getElem?_eq_getElem (by omega))).1
    rw [List.getElem?_eq_getElem bB] at this
    rw [Option.some.inj this];rfl
   have lW:=wc us bm
   obtain ⟨b,off,aN,bf⟩:=o.v.cH (k:=.i64) aD
   have oV:i<us.length:=by omega
   refine ⟨im i,ws i,b,off,kids i _ (List.getElem?_eq_getElem aD),fun x q=>(dq i x aD q).1,aN,?_,fun aa m=>?_⟩
   · have:=bf.iB (i:=i * 4+3) (by rw [lW];omega)
     rw [Nat.add_assoc,this]
     have av:=y' us i _ bm bE
     have:us.flatten[i * 4+3]? =(((us.flatten.drop (i * 4)).take 4)[3]?):=by rw [List.getElem?_take_of_lt (by omega),List.getElem?_drop]
     rw [←List.getElem?_eq_getElem,this,av]
     rfl
   · have dS:ed 0 aa 4 v l.length us.flatten:=o.mod m fun x q z=>(dq i x aD z).2 q
     obtain ⟨bC,ks,ae,f1,f2,f3,f4,f5⟩:=dS.put (i:=i) aD (k:=.i64) (y:=.agg tg) rfl rfl
     have ah:V.ptr b (off+i * 4)=.ptr bC (ks+i * 4):=Option.some.inj (aN.symm.trans f1)
     refine ⟨ae,by rw [ah];exact f3,?_,f5⟩
     have sp:hf us.flatten (i * 4) (V.agg tg).cells=(us.set i tg).flatten:=Vo us i tg oV rfl bm
     rw [sp] at f4
     refine .mk (us.set i tg) (fun j=>if j=i then .b6 else ws j) im (by rw [List.length_set];exact f4) (by rw [List.length_set,List.length_set];exact hu) (by rw [List.length_set];exact aV) (fun j t q=>?_) (fun j t q=>?_) bn (fun j x q=>dq j x (by rw [List.length_set] at q;exact q)) (fun j k x au aC=>apart j k x (by rw [List.length_set] at au;exact au) (by rw [List.length_set] at aC;exact aC))
     · by_cases nM:j=i
       · subst nM
         rw [List.getElem?_set_self aD] at q
         cases q
         rw [if_pos rfl,List.getElem?_set_self oV]
         exact ⟨rfl,Nat.zero_le _⟩
       · rw [List.getElem?_set_ne (fun z=>nM z.symm)] at q ⊢
         rw [if_neg nM]
         exact cells j t q
     · by_cases nM:j=i
       · subst nM
         rw [List.getElem?_set_self aD] at q
         cases q
         rw [if_pos rfl]
         exact dZ.nil _ _
       · rw [List.getElem?_set_ne (fun z=>nM z.symm)] at q
         rw [if_neg nM]
         have bB:j<l.length:=(List.getElem?_eq_some_iff.1 q).1
         exact ((kids j t q).mod m fun x z z2=>apart j i x bB aD nM z z2).mod f5 fun x z z2=>(dq j x bB z).2 z2
end
theorem M7:∀(l:List aL) (i:Nat),c2 (l.set i F6)≤c2 l
 | [],_=>by simp
 | t::l,0=>by rw [List.set_cons_zero,c2,c2];have:=oa t;simp only [aL.size,c2];omega
 | t::l,i+1=>by rw [List.set_cons_succ,c2,c2];have:=M7 l i;omega
set_option maxHeartbeats 2000000 in
theorem ML:∀(N:Nat) (l:List aL),c2 l≤N→∀(S:aO→Prop) (v:V) (h:af),dZ h S l v→bI Tryz.prog 26 [v] h fun x ab=>Mod S h ab
 | N,l,aQ,S,v,h,H=>by
   have hle:l.length≤top:=by cases H;assumption
   refine SI rfl (df ?_)
   unfold CP
   simp +contextual only [↓aw,aH,simprocAttr]
   refine gE (fun r g=>r 0=v∧∃(i:Nat) (dD:List aL),r 2=.int .i64 i∧i≤l.length∧dD.length=l.length∧c2 dD≤N∧dZ g S dD v∧Mod S h g) (fun r g=>l.length - (r 2).toN) ?_ ?_
   · exact ⟨by simp only [↓aw,b4,simprocAttr],0,l,by simp only [↓aw,b4,simprocAttr]<;>rfl,by omega,rfl,aQ,H,Mod.refl _ _⟩
   rintro r g ⟨bk,i,dD,cb,aD,fC,gA,W,E⟩
   unfold Ix
   have ai:=W.len
   rw [fC] at ai
   by_cases aP:i<l.length
   · have g0:((i:Int) < (l.length:Int))=True:=eq_true (by omega)
     have kS:i<dD.length:=by omega
     obtain ⟨T,w,b,off,K,dr,cH,ld,st⟩:=W.over kS
     have ez:=jc aP (by unfold top at hle;omega)
     have bm:=Gj kS
     simp +contextual only [bk,cb,ai,g0,cH,ld,↓aw,aH,simprocAttr]
     match N,gA with
     | 0,gA=>omega
     | N+1,gA=>
     refine cF (ML N dD[i].l (by omega) T w g K) ?_
     rintro x g2 m
     obtain ⟨g3,s1,s2,j6⟩:=st g2 m
     have adB:ux 4 g2 b (off+i * 4) (.agg [.int .i64 77,.int .i64 0,.str [],.b6]) (g2.get b)=some g3:=s1
     simp +contextual only [bk,cb,cH,adB,ez,↓aw,aH,simprocAttr]
     refine ⟨⟨i+1,dD.set i F6,rfl,aP,by rw [List.length_set];exact fC,Nat.le_trans (M7 dD i) gA,s2,?_⟩,by omega⟩
     exact E.trans ((m.mono fun x _ q=>dr x q).trans (j6.mono fun x _ q=>s2.bn x q))
   · have g0:((i:Int) < (l.length:Int))=False:=eq_false (by omega)
     simp +contextual only [bk,cb,ai,g0,↓aw,aH,simprocAttr]
     exact E
theorem aba [Lay] {h:af} {T:aO→Prop} {t:aL} {w:V} (K:dZ h T t.l w) (dr:∀b,T b→Old h b) (aQ:t.s.length≤top):
 ∃g,h.new (.bb [.int .i64 t.k,.int .i64 t.n,.str t.s,w] 0 false)=g∧Ext h g∧dZ g (fun b=>T b∨b=aq h.next) [t] (.slice (aq h.next) 0 1 1):=by
 obtain ⟨g,au,aC,aM⟩:=L4 h 4 1 [.int .i64 t.k,.int .i64 t.n,.str t.s,w] rfl (by unfold top;simp)
 refine ⟨g,au,aC,.mk [[.int .i64 t.k,.int .i64 t.n,.str t.s,w]] (fun _=>w) (fun _=>T) (aM.mono (Nat.zero_le _)) rfl (by unfold top;simp) (fun i u q=>?_) (fun i u q=>?_) (fun b q=>.inr q) (fun i b _ q=>⟨.inl q,fun z=>?_⟩) (fun i j b aa ae aI=>?_)⟩
 · cases i with
   | zero=>cases q;exact ⟨rfl,aQ⟩
   | succ i=>simp at q
 · cases i with
   | zero=>cases q;exact K.ext aC
   | succ i=>simp at q
 · have:=dr b q;rw [show b=aq h.next from z] at this;exact Ao (Nat.le_refl _) this
 · simp at aa ae;omega
end Go.Proofs.YthemdhlheglhoaaGreatDoor
namespace Go.Proofs.YthemdhlheglhoaaGreatDoor
open Go a6
theorem afn {P:Program} {cu:List V} {b:aO} {d:Option Nat} {os:List bA} {D:Option hg} {aJ:List gU} {r:aR} {h:af} {Q:cY→aR→af→Prop} {K:V→af→Prop}
 (c:yj P cu b h K) (H:∀v ab,K v ab→bl P (.os (hF D r h v) os::aJ) .normal (r.set d v) ab Q):Be P (cu++[.ptr b 0]) d D os aJ r h Q:=by
 obtain ⟨v,ab,q,k⟩:=c
 exact ⟨cu,b,rfl,v,ab,q,H v ab k⟩
abbrev Grow (X gL:aO→Prop) (h:af):Prop:=∀b,gL b→X b∨h.next≤ei b
theorem zf {X gL:aO→Prop} {h:af} {n:Nat} (cS:Grow X gL h) (aV:n<h.next) (a_:¬X (aq n)):¬gL (aq n):=fun q=>by
 rcases cS _ q with q | q
 · exact a_ q
 · rw [c7] at q;omega
theorem abt {X gL:aO→Prop} {h ab ka:af} (a:Mod X h ab) (c:Mod gL ab ka) (g:Grow X gL h):Mod X h ka:=
 ⟨Nat.le_trans a.next c.next,fun b ah q=>(c.get b (a.bO ah) fun z=>by
   rcases g b z with z | z
   · exact q z
   · unfold Old at ah;omega).trans (a.get b ah q)⟩
abbrev Inv:=List (Nat × aL)→(aO→Prop)→af→Prop
structure x3 (hI:Nat) (l7:aO) (I J:Inv):Prop where
 ext:∀{d:List (Nat × aL)} {X:aO→Prop} {h ab:af},I d X h→Ext h ab→I d X ab
 Du:∀{d:List (Nat × aL)} {X:aO→Prop} {h:af} (k:Nat) (p:aL) {ad:List V},I d X h→d.length+1≤1000000000→k≤1000000000→p.size≤1000000000→bV (fun b=>ei b<hI) h p.enc ad→
  yj Tryz.prog [.int .i64 k,.agg ad] l7 h fun x ab=>∃gL,Mod X h ab∧Grow X gL h∧(x=.bool true∧I (d++[(k,p)]) gL ab∨x=.bool false∧J (d++[(k,p)]) gL ab)
 bO:∀{d:List (Nat × aL)} {X:aO→Prop} {h:af},I d X h→∀b,X b→Old h b
 bH:∀{d:List (Nat × aL)} {X:aO→Prop} {h:af},I d X h→∀b,X b→hI≤ei b
def Left (I J:Inv) (d:List (Nat × aL)) (X:aO→Prop) (h:af) (x:V) (ab:af):Prop:=
 ∃gL,Mod X h ab∧Grow X gL h∧(x=.bool true∧I d gL ab∨x=.bool false∧∃hv,hv <+:d∧J hv gL ab)
theorem Ge (d:List (Nat × aL)) (k:Nat) (p:aL):d++p.pred k=d++[(k,p)]++hc (k+1) p.l:=by rw [acJ];simp
set_option maxHeartbeats 2000000 in
theorem Lc {hI:Nat} {l7:aO} {I J:Inv} (E:x3 hI l7 I J) {qO qb:Nat}:∀(N:Nat) (p:aL),p.size≤N→∀(k:Nat) (d:List (Nat × aL)) (X:aO→Prop) (ad:List V) (h:af),d.length+p.size≤1000000000→k+p.size≤1000000000→¬X (aq qO)→¬X (aq qb)→bV (fun b=>ei b<hI) h p.enc ad→
 Has h qO [.func 4294967296 [.ptr l7 0]]→Has h qb [.func 87 [.ptr (aq qO) 0,.ptr (aq qb) 0]]→I d X h→bI Tryz.prog 87 [.int .i64 k,.agg ad,.ptr (aq qO) 0,.ptr (aq qb) 0] h (Left I J (d++p.pred k) X h)
 | 0,p,aQ,_,_,_,_,_,_,_,_,_,_,_,_,_=>by have:=oa p;omega
 | N+1,p,aQ,k,d,X,ad,h,WJ,lX,aZ,aD,H,Y,B,K=>by
   have XD:=size_eq p
   obtain ⟨b7,rfl,L,_⟩:=aL.open H
   have ol:=L.one
   have ai:=L.len
   have hle:=L.le
   rw [List.length_map] at ai hle
   refine Tu rfl (df ?_)
   unfold C8
   obtain ⟨aa,au,aN,ck⟩:=fA h (cG p b7)
   have r2:¬X (aq h.next):=fun q=>Ao (Nat.le_refl _) (E.bO K _ q)
   have pb:=aN.next
   have vH:=Y.ext aN
   simp +contextual only [ol.1,ol.2.1,au,ck.g,vH.g,yE,List.cons_append,List.nil_append,if_true,↓aw,aH,simprocAttr]
   refine afn (cu:=[_,_]) (E.Du k p (E.ext K aN) (by omega) (by omega) (by omega) (H.ext aN)) ?_
   rintro x ae ⟨q9,m2,s2,al⟩
   have f_:=zf s2 vH.lt aZ
   have i2:=zf s2 (B.ext aN).lt aD
   have NQ:Grow X q9 h:=fun b q=>by
    rcases s2 b q with q | q
    · exact .inl q
    · exact .inr (by omega)
   have dx:=ck.mod m2 r2
   have PX:=vH.mod m2 aZ
   have nq:=(B.ext aN).mod m2 aD
   have Mb:Mod X h ae:=(aN.mod X).trans m2
   rcases al with ⟨rfl,BD⟩ | ⟨rfl,BD⟩
   rotate_left
   · simp +contextual only [↓aw,aH,simprocAttr]
     exact ⟨q9,Mb,NQ,.inr ⟨rfl,d++[(k,p)],by rw [Ge];exact List.prefix_append _ _,BD⟩⟩
   simp +contextual only [dx.g,ai,↓aw,aH,simprocAttr]
   refine gE (fun r g=>r 0=.int .i64 k∧r 2=.ptr (aq qO) 0∧r 3=.ptr (aq qb) 0∧r 15=b7∧r 16=.int .i64 p.l.length∧∃i:Nat,r 17=.int .i64 i∧i≤p.l.length∧Has g qO [.func 4294967296 [.ptr l7 0]]∧Has g qb [.func 87 [.ptr (aq qO) 0,.ptr (aq qb) 0]]∧
    ∃gL,I (d++[(k,p)]++hc (k+1) (p.l.take i)) gL g∧Mod X h g∧Grow X gL h∧¬gL (aq qO)∧¬gL (aq qb)) (fun r g=>p.l.length - (r 17).toN) ?_ ?_
   · exact ⟨by simp only [↓aw,b4,simprocAttr],by simp only [↓aw,b4,simprocAttr],by simp only [↓aw,b4,simprocAttr],by simp only [↓aw,b4,simprocAttr],by simp only [↓aw,b4,simprocAttr],0,by simp only [↓aw,b4,simprocAttr]<;>rfl,by omega,PX,nq,q9,by rw [List.take_zero,hc,List.append_nil];exact BD,Mb,NQ,f_,i2⟩
   rintro r g ⟨bk,cb,bS,jx,r16,i,AL,af7,PZ,O7,gL,BF,Ai,GR,Hi,Fg⟩
   unfold IE
   have ou:=L.mod (dI:=fun b=>ei b<hI) Ai fun b q _=>⟨fun z=>by have:=E.bH K b z;omega,q⟩
   by_cases aP:i<p.l.length
   · have g0:((i:Int) < (p.l.length:Int))=True:=eq_true (by omega)
     obtain ⟨b,off,wl,cH,PV,gw,ld⟩:=aL.hR ou (k:=.i64) aP
     have iV:=ld g (Ext.refl g)
     have du:=gw.one
     have ez:=jc aP (by unfold top at hle;omega)
     have ae1:IntKind.i64.wrap ((k:Int)+1)=((k+1:Nat):Int):=by rw [wrap_i64 (by omega) (by omega)];rfl
     have b5:=qA (t:=p) (List.getElem_mem aP)
     obtain ⟨g1,et,bs,Z⟩:=ht g z4 (cG p.l[i] wl)
     have xZ:=O7.ext bs
     have BV:=PZ.ext bs
     simp +contextual only [bk,cb,bS,jx,r16,AL,g0,cH,iV,et,Z.g,xZ.g,du.1,du.2.1,ae1,yE,List.cons_append,List.nil_append,show (87=4294967296)=False from by simp,if_false,↓aw,aH,simprocAttr]
     have agf:=M9 (l:=p.l) aP
     have XX:=xD p.l (i+1)
     refine cF (Lc E N p.l[i] (by omega) (k+1) _ gL _ g1 (by rw [List.length_append,List.length_append,List.length_singleton,acK];omega) (by omega) Hi Fg (PV.ext bs) BV xZ (E.ext BF bs)) ?_
     rintro x g2 ⟨vG,m3,j6,al⟩
     have me:=bs.next
     have xm:=Ai.next
     have NR:Grow X vG h:=fun b q=>by
      rcases j6 b q with q | q
      · exact GR b q
      · exact .inr (by omega)
     have Mc:=abt Ai ((bs.mod gL).trans m3) GR
     have hP:d++[(k,p)]++hc (k+1) (p.l.take i)++p.l[i].pred (k+1)=d++[(k,p)]++hc (k+1) (p.l.take (i+1)):=by
      rw [take_one aP,Gf,acL,←List.append_assoc]
     rcases al with ⟨rfl,BE⟩ | ⟨rfl,hv,wq,BE⟩
     · simp +contextual only [bk,cb,bS,jx,r16,AL,ez,↓aw,aH,simprocAttr]
       exact ⟨⟨i+1,rfl,aP,BV.mod m3 Hi,xZ.mod m3 Fg,vG,by rw [←hP];exact BE,Mc,NR,zf j6 BV.lt Hi,zf j6 xZ.lt Fg⟩,by omega⟩
     · simp +contextual only [bk,cb,bS,jx,r16,AL,ez,↓aw,aH,simprocAttr]
       refine ⟨vG,Mc,NR,.inr ⟨rfl,hv,?_,BE⟩⟩
       rw [hP] at wq
       refine wq.trans ?_
       rw [Ge]
       refine (List.prefix_append_right_inj _).2 ?_
       conv=>rhs;rw [←List.take_append_drop (i+1) p.l,Gf]
       exact List.prefix_append _ _
   · have g0:((i:Int) < (p.l.length:Int))=False:=eq_false (by omega)
     rw [List.take_of_length_le (by omega)] at BF
     simp +contextual only [bk,cb,bS,jx,r16,AL,g0,↓aw,aH,simprocAttr]
     exact ⟨gL,Ai,GR,.inl ⟨rfl,by rw [Ge];exact BF⟩⟩
theorem OM (ad:List V) (h:af) (aS:fk ad=true) (ai:ad.length≤top):bI Tryz.prog 56 [.agg ad] h fun x ab=>∃n,x=.func 86 [.ptr (aq n) 0]∧Has ab n ad∧Ext h ab:=by
 refine SZ rfl (df ?_)
 unfold CW
 obtain ⟨aa,au,aN,ck⟩:=fA h ad
 have fC:(ad.length≤17179869184)=True:=eq_true ai
 simp +contextual only [au,aS,fC,↓aw,aH,simprocAttr]
 exact ⟨_,rfl,ck,aN⟩
set_option maxHeartbeats 1000000 in
theorem OL {hI:Nat} {l7:aO} {I J:Inv} (E:x3 hI l7 I J) {uN:Nat} (p:aL) (ag:p.size≤900000000) (X:aO→Prop) (ad:List V) (h:af) (H:bV (fun b=>ei b<hI) h p.enc ad) (O8:Has h uN ad) (K:I [] X h):
 bI Tryz.prog 86 [.func 4294967296 [.ptr l7 0],.ptr (aq uN) 0] h fun _ ab=>∃x,Left I J (p.pred 1) X h x ab:=by
 obtain ⟨b7,rfl,L,_⟩:=aL.open H
 refine Tr rfl (df ?_)
 unfold C7
 obtain ⟨aa,au,aN,vH⟩:=fA h [.func 4294967296 [.ptr l7 0]]
 obtain ⟨ae,aC,bf,nq⟩:=ht aa [.k3] [.func 87 [.ptr (aq h.next) 0,.ptr (aq aa.next) 0]]
 have fB:=aN.trans bf
 have PD:=O8.ext fB
 have cr:¬X (aq h.next):=fun q=>Ao (Nat.le_refl _) (E.bO K _ q)
 have gr:¬X (aq aa.next):=fun q=>Ao (Nat.le_refl _) (E.bO (E.ext K aN) _ q)
 have ol:=L.one
 have Gq:=aC
 simp +contextual only [au,aC,nq.g,PD.g,ol.1,ol.2.1,yE,List.cons_append,List.nil_append,show (87=4294967296)=False from by simp,if_false,↓aw,aH,simprocAttr]
 refine cF (Lc E p.size p (Nat.le_refl _) 1 [] X _ ae (by simp;omega) (by omega) cr gr (H.ext fB) (vH.ext bf) nq (E.ext K fB)) ?_
 rintro x aI ⟨vG,m3,j6,al⟩
 have FV:=fB.next
 simp +contextual only [↓aw,aH,simprocAttr]
 exact ⟨x,vG,(fB.mod X).trans m3,fun b q=>by
  rcases j6 b q with q | q
  · exact .inl q
  · exact .inr (by omega),al⟩
theorem AU {a b:Nat} (v w:V) (r:aR) {j:Nat} (aa:j≠a) (ae:j≠b) (aI:j≠dN):k6 [a,b] [v,w] r j=r j:=by
 simp [k6,aR.qu,aR.set,aa,ae,aI]
theorem adp {a b:Nat} (v w:V) (r:aR) (aa:a≠b) (aI:a≠dN):k6 [a,b] [v,w] r a=v:=by
 simp [k6,aR.qu,aR.set,aa,aI]
theorem adq {a b:Nat} (v w:V) (r:aR) (aI:b≠dN):k6 [a,b] [v,w] r b=w:=by
 simp [k6,aR.qu,aR.set,aI]
theorem L9 {l:jf} (a_:l.st=0) (ag:l.dz=none):l.go 0 none=l:=by
 obtain ⟨st,dz,_,_,_,_,_,_⟩:=l;simp only at a_ ag;subst a_ ag;rfl
structure Hq (bZ hp iH fS m:Nat) (l:jf) (d:List (Nat × aL)) (X:aO→Prop) (h:af):Prop where
 fn:Has h bZ [.int .i64 (d.length:Nat)]
 y1:Has h hp [.int .i64 (maxD d:Nat)]
 tw:Has h iH [.int .i64 0]
 bH:m<h.next
 lT:h.get (aq m)=.cU l
 lj:fS<h.next
 fd:h.get (aq fS)=.eE
 DH:∀x ∈ d,x.2.own=true
 dm:maxD d≤1000000000
 iQ:∀p,X p↔p=aq bZ∨p=aq hp∨p=aq iH∨p=aq m
structure O' (bZ hp iH fS m:Nat) (l:jf) (d:List (Nat × aL)) (X:aO→Prop) (h:af):Prop where
 tw:Has h iH [.int .i64 2]
 bH:m<h.next
 lT:h.get (aq m)=.cU (l.go 2 (some .ret))
 lj:fS<h.next
 fd:h.get (aq fS)=.eE
 bad:∃x ∈ d,x.2.own=false
set_option maxHeartbeats 4000000 in
theorem T' {hI bZ hp iH fS m:Nat} {l:jf} {r:aR} (mG:hI≤bZ) (tC:hI≤hp) (af3:hI≤iH) (V8:hI≤m) (cr:bZ≠hp) (gr:bZ≠iH) (n3:bZ≠m) (n4:bZ≠fS) (n5:hp≠iH) (n6:hp≠m) (n7:hp≠fS) (n8:iH≠m) (n9:iH≠fS) (n10:m≠fS)
 (F:vx Tryz.prog l 25 r [9,10] CH CI) (a_:l.st=0) (ag:l.dz=none) (cb:r 2=.ptr (aq iH) 0) (bS:r 3=.ptr (aq bZ) 0) (cP:r 4=.ptr (aq hp) 0):
 x3 hI (aq m) (fun d X h=>Hq bZ hp iH fS m l d X h) (fun d X h=>O' bZ hp iH fS m l d X h) where
 ext:=fun {d X h ab} K e=>⟨K.fn.ext e,K.y1.ext e,K.tw.ext e,Nat.lt_of_lt_of_le K.bH e.next,(e.get _ (fj K.bH)).trans K.lT,Nat.lt_of_lt_of_le K.lj e.next,(e.get _ (fj K.lj)).trans K.fd,K.DH,K.dm,K.iQ⟩
 bO:=fun {d X h} K b ah=>by
  rcases (K.iQ b).1 ah with rfl | rfl | rfl | rfl
  · exact fj K.fn.lt
  · exact fj K.y1.lt
  · exact fj K.tw.lt
  · exact fj K.bH
 bH:=fun {d X h} K b ah=>by
  rcases (K.iQ b).1 ah with rfl | rfl | rfl | rfl<;>rw [c7]<;>assumption
 Du:=fun {d X h} k p ad K a1 ax tY H=>by
  have hh:=H
  obtain ⟨b7,rfl,L,h_⟩:=aL.open H
  have ol:=L.one
  have hm:=L9 a_ ag
  refine OZ (by decide) follows dc F K.lT a_ rfl ?_
  obtain ⟨aa,au,aN,ck⟩:=ht h z4 (cG p b7)
  have bP:aa.get (aq m)=.cU l:=(aN.get _ (fj K.bH)).trans K.lT
  have bH:=K.bH
  have lj:=K.lj
  have pb:=aN.next
  have g9:=adp (a:=9) (b:=10) (.int .i64 k) (.agg (cG p b7)) r (by decide) (by decide)
  have g10:=adq (a:=9) (b:=10) (.int .i64 k) (.agg (cG p b7)) r (by decide)
  have g2:=AU (a:=9) (b:=10) (.int .i64 k) (.agg (cG p b7)) r (j:=2) (by decide) (by decide) (by decide)
  have g3:=AU (a:=9) (b:=10) (.int .i64 k) (.agg (cG p b7)) r (j:=3) (by decide) (by decide) (by decide)
  have g4:=AU (a:=9) (b:=10) (.int .i64 k) (.agg (cG p b7)) r (j:=4) (by decide) (by decide) (by decide)
  rw [cb] at g2
  rw [bS] at g3
  rw [cP] at g4
  generalize k6 [9,10] [V.int .i64 k,.agg (cG p b7)] r=bk at *
  refine df ?_
  unfold CH
  simp +contextual only [g9,g10,au,ol.1,ol.2.1,↓aw,aH,simprocAttr]
  refine ⟨bP,df ?_⟩
  have dx:=ck.set (m:=m) (by omega) (.cU (l.go 1 l.dz))
  have q3:=(K.fn.ext aN).set (m:=m) n3 (.cU (l.go 1 l.dz))
  have nq:=(K.y1.ext aN).set (m:=m) n6 (.cU (l.go 1 l.dz))
  have fr:=(K.tw.ext aN).set (m:=m) n8 (.cU (l.go 1 l.dz))
  have VJ:(aa.set (aq m) (.cU (l.go 1 l.dz))).get (aq m)=.cU (l.go 1 l.dz):=by rw [c8,if_pos rfl]
  have DM:(aa.set (aq m) (.cU (l.go 1 l.dz))).get (aq fS)=.eE:=by rw [c8,if_neg (fun q=>n10 (eZ q))];exact (aN.get _ (fj lj)).trans K.fd
  have M2:Mod X h (aa.set (aq m) (.cU (l.go 1 l.dz))):=(aN.mod X).set (fun _=>(K.iQ _).2 (.inr (.inr (.inr rfl)))) _
  have cR:bV Any (aa.set (aq m) (.cU (l.go 1 l.dz))) p.enc (cG p b7):=(hh.ext aN).mod (M:=fun b=>b=aq m) (((Mod.refl (fun b=>b=aq m) aa).set (fun _=>rfl) _)) fun b q _=>⟨fun z=>by rw [show b=aq m from z,c7] at q;omega,trivial⟩
  have af_:(aa.set (aq m) (.cU (l.go 1 l.dz))).next=aa.next:=rfl
  generalize aa.set (aq m) (.cU (l.go 1 l.dz))=ae at *
  unfold CI
  simp +contextual only [dx.g,↓aw,aH,simprocAttr]
  refine cF (acu p _ ae cR) ?_
  rintro x aI ⟨rfl,bT⟩
  have gu:=dx.ext bT
  have vz:=q3.ext bT
  have qS:=nq.ext bT
  have hs:=fr.ext bT
  have xm:=bT.next
  have J1:aI.get (aq m)=.cU (l.go 1 l.dz):=(bT.get _ (fj (by omega))).trans VJ
  have JX:aI.get (aq fS)=.eE:=(bT.get _ (fj (by omega))).trans DM
  have s3:=M2.trans (bT.mod X)
  cases c:p.own with
  | false=>
    simp +contextual only [g2,hs.g,↓aw,aH,simprocAttr]
    refine ⟨by rw [if_neg n8];exact J1,X,(s3.set (fun _=>(K.iQ _).2 (.inr (.inr (.inl rfl)))) _).set (fun _=>(K.iQ _).2 (.inr (.inr (.inr rfl)))) _,fun b q=>.inl q,.inr ⟨(hs.put _).set n8 _,?_,?_,?_,?_,(k,p),by simp,c⟩⟩
    · show m<aI.next;omega
    · rw [c8,if_pos rfl]
    · show fS<aI.next;omega
    · rw [c8,if_neg (fun q=>n10 (eZ q)),c8,if_neg (fun q=>n9 (eZ q))];exact JX
  | true=>
    have bN:IntKind.i64.wrap ((d.length:Int)+1)=((d.length+1:Nat):Int):=by rw [wrap_i64 (by omega) (by omega)];rfl
    simp +contextual only [g2,g3,g4,vz.g,qS.g,gu.g,bN,eq_false cr,if_false,FH,↓aw,aH,simprocAttr]
    have hO:maxD (d++[(k,p)])=max (maxD d) k:=by rw [FG,Mh];unfold maxD;simp
    refine ⟨by rw [if_neg n6,if_neg n3];exact J1,X,((s3.set (fun _=>(K.iQ _).2 (.inl rfl)) _).set (fun _=>(K.iQ _).2 (.inr (.inl rfl))) _).set (fun _=>(K.iQ _).2 (.inr (.inr (.inr rfl)))) _,fun b q=>.inl q,.inl ⟨?_,?_,?_,?_,?_,?_,?_,?_,?_,K.iQ⟩⟩
    · rw [List.length_append,List.length_singleton]
      exact ((vz.put _).set cr _).set n3 _
    · rw [hO]
      exact ((qS.set (m:=bZ) (fun q=>cr q.symm) _).put _).set n6 _
    · exact ((hs.set (m:=bZ) (fun q=>gr q.symm) _).set (m:=hp) (fun q=>n5 q.symm) _).set n8 _
    · show m<aI.next;omega
    · rw [c8,if_pos rfl,hm]
    · show fS<aI.next;omega
    · rw [c8,if_neg (fun q=>n10 (eZ q)),c8,if_neg (fun q=>n7 (eZ q)),c8,if_neg (fun q=>n4 (eZ q))];exact JX
    · intro x al
      rcases List.mem_append.1 al with al | al
      · exact K.DH x al
      · rw [List.mem_singleton] at al;subst al;exact c
    · rw [hO];have:=K.dm;omega
theorem acI {α:Type} {a b:List α} {P:α→Bool} (h:a <+:b) (q:∃x ∈ a,P x=false):b.all P=false:=by
 obtain ⟨x,al,ag⟩:=q
 rw [List.all_eq_false]
 exact ⟨x,h.subset al,by simp [ag]⟩
set_option maxHeartbeats 4000000 in
theorem Df (p:aL) (aQ:p.size≤900000000) (ad:List V) (h:af) (H:bV Any h p.enc ad):bI Tryz.prog 19 [.agg ad] h fun x ab=>x=.int .i64 p.check∧Ext h ab:=by
 have hh:=H.n'
 have aS:=H.fk
 obtain ⟨b7,cz,L,_⟩:=aL.open H
 have o3:ad.length≤top:=by rw [cz];simp [top]
 have cI:ad.length=4:=by rw [cz];rfl
 have E8:(ad.length≤17179869184)=True:=eq_true o3
 refine Sm rfl (df ?_)
 unfold CG
 obtain ⟨aa,au,aN,ck⟩:=fA h ad
 obtain ⟨ae,aC,bf,fr⟩:=fA aa [.int .i64 0]
 obtain ⟨aI,aM,bT,vz⟩:=fA ae [.int .i64 0]
 obtain ⟨bo,bG,dA,h3⟩:=fA aI [.int .i64 0]
 have sS:=((ck.ext bf).ext bT).ext dA
 have HH:=vz.ext dA
 have j9:=(fr.ext bT).ext dA
 have cr:=aN.next
 have gr:=bf.next
 have n3:=bT.next
 have n4:=dA.next
 have fb:=ck.lt
 have ho:=fr.lt
 have w_:=vz.lt
 have aaC:=h3.lt
 have g4:lu 4 (b1.bb ad 0 false) 0=some (.agg ad):=by rw [z6,if_pos (by omega),List.drop_zero,List.take_of_length_le (by omega)]
 have f1:(ae.next=aI.next)=False:=eq_false (by omega)
 have f2:(aI.next=ae.next)=False:=eq_false (by omega)
 have f3:(aI.next=h.next)=False:=eq_false (by omega)
 have f4:(ae.next=h.next)=False:=eq_false (by omega)
 simp +contextual only [au,aC,aM,bG,aS,E8,sS.g,HH.g,h3.g,j9.g,g4,f1,f2,f3,f4,if_false,↓aw,aH,simprocAttr]
 have jB:Ext h bo:=((aN.trans bf).trans bT).trans dA
 have qV:Ext h ((bo.set (aq ae.next) (b1.bb [V.int .i64 0] 0 false)).set (aq aI.next) (b1.bb [V.int .i64 0] 0 false)):=(jB.set (by omega) _).set (by omega) _
 have PA:=(HH.put [V.int .i64 0]).set (m:=aI.next) (by omega) (b1.bb [V.int .i64 0] 0 false)
 have pz:=(h3.set (m:=ae.next) (by omega) (b1.bb [V.int .i64 0] 0 false)).put [V.int .i64 0]
 have kD:=(j9.set (m:=ae.next) (by omega) (b1.bb [V.int .i64 0] 0 false)).set (m:=aI.next) (by omega) (b1.bb [V.int .i64 0] 0 false)
 have FW:((bo.set (aq ae.next) (b1.bb [V.int .i64 0] 0 false)).set (aq aI.next) (b1.bb [V.int .i64 0] 0 false)).next=bo.next:=rfl
 generalize (bo.set (aq ae.next) (b1.bb [V.int .i64 0] 0 false)).set (aq aI.next) (b1.bb [V.int .i64 0] 0 false)=cI at *
 refine cF (OM ad cI aS o3) ?_
 rintro x cQ ⟨n,rfl,q5,gN⟩
 simp +contextual only [↓aw,aH,simprocAttr]
 refine Nw (g:=86) (cs:=[.ptr (aq n) 0]) (by simp only [↓aw,b4,simprocAttr]) (by decide) ⟨_,Tryz.func86,by kernel_rfl⟩ ?_
 intro l F a_ ag
 have n6:=gN.next
 have oO:Ext cQ ((cQ.new .eE).new (.cU l)):=((Ext.refl cQ).new _).new _
 have vj:=(qV.trans gN).trans oO
 have BI:=(PA.ext gN).ext oO
 have xX:=(pz.ext gN).ext oO
 have BP:=(kD.ext gN).ext oO
 have E:=T' (hI:=h.next) (bZ:=ae.next) (hp:=aI.next) (iH:=aa.next) (fS:=cQ.next) (m:=cQ.next+1) (l:=l) (by omega) (by omega) (by omega) (by omega) (by omega) (by omega) (by omega) (by omega) (by omega) (by omega) (by omega) (by omega) (by omega) (by omega) F a_ ag (by simp only [↓aw,b4,simprocAttr]) (by simp only [↓aw,b4,simprocAttr]) (by simp only [↓aw,b4,simprocAttr])
 have BC:Hq ae.next aI.next aa.next cQ.next (cQ.next+1) l [] (fun b=>b=aq ae.next∨b=aq aI.next∨b=aq aa.next∨b=aq (cQ.next+1)) ((cQ.new .eE).new (.cU l)):=by
  refine ⟨BI,xX,BP,by rw [fF,fF];omega,lk _,by rw [fF,fF];omega,?_,(fun x al=>by cases al),Nat.zero_le _,fun p=>Iff.rfl⟩
  rw [gO,if_neg (fun q=>by have:=eZ q;rw [fF] at this;omega),lk]
 refine (OL E p aQ _ ad _ (hh.ext vj) (q5.ext oO) BC).mono ?_
 rintro _ kN ⟨x,PU,m8,adC,al⟩
 have zI:p.shape=(p.pred 1).all fun x=>x.2.own:=by
  rw [N0,←Gd 1 p,List.all_map];rfl
 have pC:Ext h kN:=vj.lz m8 fun b ah=>by
  rcases ah with rfl | rfl | rfl | rfl<;>rw [c7]<;>omega
 rcases al with ⟨rfl,h4⟩ | ⟨rfl,hv,wq,h4⟩
 · refine ⟨l,h4.lT,by rw [a_];decide,?_⟩
   rw [ag]
   have eg:=h4.bH
   have q4:=h4.fn.set (m:=cQ.next+1) (by omega) .dead
   have xY:=h4.y1.set (m:=cQ.next+1) (by omega) .dead
   have vB:=h4.tw.set (m:=cQ.next+1) (by omega) .dead
   have qW:Ext h (kN.set (aq (cQ.next+1)) .dead):=pC.set (by omega) _
   have rF:(kN.set (aq (cQ.next+1)) .dead).get (aq cQ.next)=.eE:=by rw [c8,if_neg (fun q=>by have:=eZ q;omega)];exact h4.fd
   generalize kN.set (aq (cQ.next+1)) .dead=zi at *
   have ni:p.shape=true:=by rw [zI,List.all_eq_true];exact h4.DH
   have hD:(p.pred 1).length=p.size:=M4 1 p
   have KN:maxD (p.pred 1)=p.deep:=by have:=M5 1 p;omega
   rw [hD] at q4
   rw [KN] at xY
   have WJ:=I7 p
   have f6:(cQ.next=aa.next)=False:=eq_false (by omega)
   have f7:(aa.next=cQ.next)=False:=eq_false (by omega)
   rw [IN,if_pos ni]
   by_cases bE:p.size≤4096
   · have f8:((4096:Int) < (p.size:Int))=False:=eq_false (by omega)
     by_cases bR:p.deep≤200
     · have f9:((200:Int) < (p.deep:Int))=False:=eq_false (by omega)
       simp +contextual only [Option.getD_none,q4.g,xY.g,vB.g,f6,f7,f8,f9,eq_true bE,eq_true bR,if_false,if_true,decide_true,decide_false,dN,V.list,aR.bb,lv,rF,↓aw,aH,simprocAttr]
       exact (qW.set (by omega) _).set (by omega) _
     · have f9:((200:Int) < (p.deep:Int))=True:=eq_true (by omega)
       simp +contextual only [Option.getD_none,q4.g,xY.g,vB.g,f6,f7,f8,f9,eq_true bE,eq_false bR,if_false,if_true,decide_true,decide_false,dN,V.list,aR.bb,lv,rF,↓aw,aH,simprocAttr]
       exact (qW.set (by omega) _).set (by omega) _
   · have f8:((4096:Int) < (p.size:Int))=True:=eq_true (by omega)
     simp +contextual only [Option.getD_none,q4.g,xY.g,vB.g,f6,f7,f8,eq_false bE,if_false,if_true,decide_true,decide_false,dN,V.list,aR.bb,lv,rF,↓aw,aH,simprocAttr]
     exact (qW.set (by omega) _).set (by omega) _
 · refine ⟨l.go 2 (some .ret),h4.lT,(by show (2:Nat)≠1;decide),?_⟩
   have ni:p.shape=false:=by rw [zI];exact acI (P:=fun x:Nat × aL=>x.2.own) wq h4.bad
   have aF:p.check=2:=by unfold aL.check;rw [ni];rfl
   rw [aF]
   have eg:=h4.bH
   have vB:=h4.tw.set (m:=cQ.next+1) (by omega) .dead
   have qW:Ext h (kN.set (aq (cQ.next+1)) .dead):=pC.set (by omega) _
   have rF:(kN.set (aq (cQ.next+1)) .dead).get (aq cQ.next)=.eE:=by rw [c8,if_neg (fun q=>by have:=eZ q;omega)];exact h4.fd
   generalize kN.set (aq (cQ.next+1)) .dead=zi at *
   have f6:(cQ.next=aa.next)=False:=eq_false (by omega)
   simp +contextual only [jf.go,Option.getD_some,vB.g,f6,if_false,dN,V.list,aR.bb,lv,rF,↓aw,aH,simprocAttr]
   exact qW.set (by omega) _
structure Hr (bZ fS m:Nat) (l:jf) (d:List (Nat × aL)) (X:aO→Prop) (h:af):Prop where
 fn:Has h bZ [.int .i64 (d.length:Nat)]
 bH:m<h.next
 lT:h.get (aq m)=.cU l
 lj:fS<h.next
 fd:h.get (aq fS)=.eE
 iQ:∀p,X p↔p=aq bZ∨p=aq m
abbrev PB:Inv:=fun _ _ _=>False
set_option maxHeartbeats 4000000 in
theorem Uc {hI bZ fS m:Nat} {l:jf} {r:aR} (mG:hI≤bZ) (V8:hI≤m) (n3:bZ≠m) (n4:bZ≠fS) (n10:m≠fS)
 (F:vx Tryz.prog l 11 r [6,7] CR CS) (a_:l.st=0) (ag:l.dz=none) (bS:r 3=.ptr (aq bZ) 0):
 x3 hI (aq m) (fun d X h=>Hr bZ fS m l d X h) PB where
 ext:=fun {d X h ab} K e=>⟨K.fn.ext e,Nat.lt_of_lt_of_le K.bH e.next,(e.get _ (fj K.bH)).trans K.lT,Nat.lt_of_lt_of_le K.lj e.next,(e.get _ (fj K.lj)).trans K.fd,K.iQ⟩
 bO:=fun {d X h} K b ah=>by
  rcases (K.iQ b).1 ah with rfl | rfl
  · exact fj K.fn.lt
  · exact fj K.bH
 bH:=fun {d X h} K b ah=>by
  rcases (K.iQ b).1 ah with rfl | rfl<;>rw [c7]<;>assumption
 Du:=fun {d X h} k p ad K a1 ax tY H=>by
  have hm:=L9 a_ ag
  refine OZ (by decide) follows dc F K.lT a_ rfl ?_
  have bH:=K.bH
  have lj:=K.lj
  have g3:=AU (a:=6) (b:=7) (.int .i64 k) (.agg ad) r (j:=3) (by decide) (by decide) (by decide)
  rw [bS] at g3
  generalize k6 [6,7] [V.int .i64 k,.agg ad] r=bk at *
  have q3:=K.fn.set (m:=m) n3 (.cU (l.go 1 l.dz))
  unfold CR
  refine ⟨rfl,K.lT,df ?_⟩
  unfold CS
  have bN:IntKind.i64.wrap ((d.length:Int)+1)=((d.length+1:Nat):Int):=by rw [wrap_i64 (by omega) (by omega)];rfl
  simp +contextual only [g3,q3.g,bN,↓aw,aH,simprocAttr]
  refine ⟨by rw [if_neg n3],X,((((Mod.refl X h).set (fun _=>(K.iQ _).2 (.inr rfl)) _).set (fun _=>(K.iQ _).2 (.inl rfl)) _).set (fun _=>(K.iQ _).2 (.inr rfl)) _),fun b q=>.inl q,.inl ⟨?_,bH,?_,lj,?_,K.iQ⟩⟩
  · rw [List.length_append,List.length_singleton]
    exact (q3.put _).set n3 _
  · rw [c8,if_pos rfl,hm]
  · rw [c8,if_neg (fun q=>n10 (eZ q)),c8,if_neg (fun q=>n4 (eZ q)),c8,if_neg (fun q=>n10 (eZ q))]
    exact K.fd
set_option maxHeartbeats 4000000 in
theorem adX (p:aL) (aQ:p.size≤900000000) (ad:List V) (h:af) (H:bV Any h p.enc ad):bI Tryz.prog 30 [.agg ad] h fun x ab=>x=.int .i64 (p.size:Nat)∧Ext h ab:=by
 have hh:=H.n'
 have aS:=H.fk
 obtain ⟨b7,cz,L,_⟩:=aL.open H
 have o3:ad.length≤top:=by rw [cz];simp [top]
 have cI:ad.length=4:=by rw [cz];rfl
 have E8:(ad.length≤17179869184)=True:=eq_true o3
 refine SL rfl (df ?_)
 unfold CQ
 obtain ⟨aa,au,aN,ck⟩:=fA h ad
 obtain ⟨ae,aC,bf,q3⟩:=ht aa [.int .i64 0] [.int .i64 0]
 have dx:=ck.ext bf
 have g4:lu 4 (b1.bb ad 0 false) 0=some (.agg ad):=by rw [z6,if_pos (by omega),List.drop_zero,List.take_of_length_le (by omega)]
 simp +contextual only [au,aC,aS,E8,dx.g,g4,↓aw,aH,simprocAttr]
 refine cF (OM ad ae aS o3) ?_
 rintro x cQ ⟨n,rfl,q5,gN⟩
 simp +contextual only [↓aw,aH,simprocAttr]
 refine Nw (g:=86) (cs:=[.ptr (aq n) 0]) (by simp only [↓aw,b4,simprocAttr]) (by decide) ⟨_,Tryz.func86,by kernel_rfl⟩ ?_
 intro l F a_ ag
 have cr:=aN.next
 have gr:=bf.next
 have n6:=gN.next
 have fb:=ck.lt
 have ho:=q3.lt
 have oO:Ext cQ ((cQ.new .eE).new (.cU l)):=((Ext.refl cQ).new _).new _
 have vj:=((aN.trans bf).trans gN).trans oO
 have BI:=(q3.ext gN).ext oO
 have E:=Uc (hI:=h.next) (bZ:=aa.next) (fS:=cQ.next) (m:=cQ.next+1) (l:=l) (by omega) (by omega) (by omega) (by omega) (by omega) F a_ ag (by simp only [↓aw,b4,simprocAttr])
 have BC:Hr aa.next cQ.next (cQ.next+1) l [] (fun b=>b=aq aa.next∨b=aq (cQ.next+1)) ((cQ.new .eE).new (.cU l)):=by
  refine ⟨BI,by rw [fF,fF];omega,lk _,by rw [fF,fF];omega,?_,fun p=>Iff.rfl⟩
  rw [gO,if_neg (fun q=>by have:=eZ q;rw [fF] at this;omega),lk]
 refine (OL E p aQ _ ad _ (hh.ext vj) (q5.ext oO) BC).mono ?_
 rintro _ kN ⟨x,PU,m8,adC,al⟩
 have pC:Ext h kN:=vj.lz m8 fun b ah=>by
  rcases ah with rfl | rfl<;>rw [c7]<;>omega
 rcases al with ⟨rfl,h4⟩ | ⟨rfl,hv,wq,h4⟩
 · refine ⟨l,h4.lT,by rw [a_];decide,?_⟩
   rw [ag]
   have eg:=h4.bH
   have q4:=h4.fn.set (m:=cQ.next+1) (by omega) .dead
   have qW:Ext h (kN.set (aq (cQ.next+1)) .dead):=pC.set (by omega) _
   have rF:(kN.set (aq (cQ.next+1)) .dead).get (aq cQ.next)=.eE:=by rw [c8,if_neg (fun q=>by have:=eZ q;omega)];exact h4.fd
   generalize kN.set (aq (cQ.next+1)) .dead=zi at *
   rw [M4] at q4
   simp +contextual only [Option.getD_none,q4.g,dN,V.list,aR.bb,lv,rF,↓aw,aH,simprocAttr]
   exact qW.set (by omega) _
 · exact h4.elim
abbrev Pr [Lay] (B:Nat) (h:af) (l:List Int) (v:V):Prop:=ed B h 1 v l.length (YE l)
section
variable [Lay] {B:Nat} {h ab:af} {l:List Int} {v:V}
end
structure afz (B bZ NU fS m:Nat) (sm:aO) (l:jf) (d:List (Nat × aL)) (X:aO→Prop) (h:af):Prop where
 ex:∃v,Has h bZ [v]∧Pr B h ((d.map Prod.snd).foldl HQ []) v∧(∀b,X b↔b=aq bZ∨b=aq m∨b=sm∨v.a8 b)
 mp:∃c1:List (Int × Bool),jJ V.bool h sm c1∧(∀n,dj n c1=if n ∈ (d.map Prod.snd).foldl HQ [] then some true else none)
 NU:Has h NU [.map sm]
 bH:m<h.next
 lT:h.get (aq m)=.cU l
 lj:fS<h.next
 fd:h.get (aq fS)=.eE
 afQ:B≤h.next
end Go.Proofs.YthemdhlheglhoaaGreatDoor
namespace Go.Proofs.YthemdhlheglhoaaGreatDoor
open Go a6
end Go.Proofs.YthemdhlheglhoaaGreatDoor
namespace Go.Proofs.YthemdhlheglhoaaGreatDoor
open Go a6
set_option maxHeartbeats 4000000 in
theorem IP:∀(N:Nat) (t:aL),t.size≤N→N≤1000000000→∀(ad:List V) (h:af),bV Any h t.enc ad→bI Tryz.prog 90 [.agg ad] h fun x ab=>∃w,x=.agg (cG t w)∧dZ ab (eT h.next ab.next) t.l w∧Ext h ab
 | 0,t,aQ,_,_,_,_=>by have:=oa t;omega
 | N+1,t,aQ,tF,ad,h,H=>by
   obtain ⟨b7,rfl,L,_⟩:=aL.open H
   have bx:N≤1000000000:=by omega
   have ol:=L.one
   have ai:=L.len
   have hle:=L.le
   rw [List.length_map] at ai hle
   have b5:=size_eq t
   have hD:=uQ t.l
   refine TD rfl (df ?_)
   unfold C_
   obtain ⟨aa,au,aN,ck⟩:=fA h (cG t b7)
   obtain ⟨ae,aC,bf,fr⟩:=fA aa z4
   have dx:=ck.ext bf
   have cr:=aN.next
   have gr:=bf.next
   have bJ:=ck.lt
   have ac3:=fr.lt
   have gu:=dx.put (cG t .b6)
   have hs:=fr.set (m:=h.next) (by omega) (.bb (cG t .b6) 0 false)
   have fp:Ext h (ae.set (aq h.next) (.bb (cG t .b6) 0 false)):=(aN.trans bf).set (Nat.le_refl _) _
   have n3:(ae.set (aq h.next) (.bb (cG t .b6) 0 false)).next=ae.next:=rfl
   simp +contextual only [ol.1,ol.2.1,au,aC,dx.g,ai,↓aw,aH,simprocAttr]
   generalize ae.set (aq h.next) (.bb (cG t .b6) 0 false)=aI at *
   refine gE (fun r g=>r 1=.ptr (aq h.next) 0∧r 2=.ptr (aq aa.next) 0∧r 9=b7∧r 10=.int .i64 t.l.length∧∃(i:Nat) (w:V),r 11=.int .i64 i∧i≤t.l.length∧Has g h.next (cG t w)∧Has g aa.next z4∧
    dZ g (eT aI.next g.next) (t.l.take i) w∧Ext h g∧aI.next≤g.next) (fun r g=>t.l.length - (r 11).toN) ?_ ?_
   · exact ⟨by simp only [↓aw,b4,simprocAttr],by simp only [↓aw,b4,simprocAttr],by simp only [↓aw,b4,simprocAttr],by simp only [↓aw,b4,simprocAttr],0,.b6,by simp only [↓aw,b4,simprocAttr]<;>rfl,by omega,gu,hs,dZ.nil _ _,fp,Nat.le_refl _⟩
   rintro r g ⟨bw,cb,qE,sx,i,w,Gr,aD,A,R,W,E,aE⟩
   unfold IG
   have ky:=W.one
   by_cases aP:i<t.l.length
   · have g0:((i:Int) < (t.l.length:Int))=True:=eq_true (by omega)
     obtain ⟨b,off,wl,cH,X,gw,ld⟩:=aL.hR (L.ext E) (k:=.i64) aP
     have pQ:=ld g (Ext.refl g)
     have du:=gw.one
     have ez:=jc aP (by unfold top at hle;omega)
     have Xg:=qA (t:=t) (List.getElem_mem aP)
     obtain ⟨g1,et,bs,Z⟩:=ht g z4 (cG t.l[i] wl)
     have qR:=A.ext bs
     simp +contextual only [bw,cb,qE,sx,Gr,g0,cH,pQ,et,Z.g,A.g,qR.g,du.1,du.2.1,ky.1,ky.2.1,↓aw,aH,simprocAttr]
     refine cF (IP N t.l[i] (by omega) bx _ g1 (X.ext bs)) ?_
     rintro x g2 ⟨u,rfl,U,ch⟩
     have u_:=bs.trans ch
     have vc:=A.ext u_
     have BN:=R.ext u_
     have s8:=Z.ext ch
     have afs:=Z.lt
     have pb:=bs.next
     have me:=ch.next
     have ev:=U.one
     have h_:t.l[i].s.length≤top:=by obtain ⟨_,_,_,q⟩:=aL.open X;exact q
     obtain ⟨aj,g3,bW,b3,dv,iF⟩:=(W.ext u_).add (t:=t.l[i]) (T:=eT g1.next g2.next) (u:=u) U (fun b q z=>by unfold eT at q z;omega) (fun b q=>by unfold eT at q;unfold Old;omega) (fun b q=>by unfold eT at q;unfold Old;omega) (by rw [List.length_take];unfold top;omega) h_
     have p9:∀n,n<aI.next→¬w.a8 (aq n):=fun n aV q=>by have:=W.bn _ q;unfold eT at this;rw [c7] at this;omega
     have vd:=vc.mod dv (p9 _ (by omega))
     have BO:=BN.mod dv (p9 _ (by omega))
     have xu:=b3.one
     have fp:Ext h g3:=(E.trans u_).lz dv fun b q=>by have:=W.bn _ q;unfold eT at this;omega
     have f1:(g2.next=h.next)=False:=eq_false (by omega)
     simp +contextual only [f1,if_false,bw,cb,qE,sx,Gr,Z.g,s8.g,A.g,qR.g,vc.g,vd.g,ev.1,ev.2.1,ky.1,ky.2.1,xu.1,xu.2.1,bW,ez,↓aw,aH,simprocAttr]
     refine ⟨⟨i+1,aj,rfl,aP,vd.put _,BO.set (by omega) _,?_,fp.set (by omega) _,by omega⟩,by omega⟩
     rw [take_one aP]
     refine (b3.fH fun b q=>?_).mod ((Mod.refl (fun x=>x=aq h.next) g3).set (fun _=>rfl) _) fun b q z=>?_
     · unfold eT at q ⊢;have:=dv.next;omega
     · rw [show b=aq h.next from z] at q;unfold eT at q;rw [c7] at q;omega
   · have g0:((i:Int) < (t.l.length:Int))=False:=eq_false (by omega)
     rw [List.take_of_length_le (by omega)] at W
     have f1:(aa.next=h.next)=False:=eq_false (by omega)
     have f2:(h.next=aa.next)=False:=eq_false (by omega)
     simp +contextual only [bw,cb,qE,sx,Gr,g0,R.g,A.g,ky.1,ky.2.1,f1,f2,↓aw,aH,simprocAttr]
     refine ⟨_,rfl,(W.mod ((Mod.refl (fun x=>x=aq aa.next) g).set (fun _=>rfl) _) fun b q z=>?_).fH fun b q=>?_,E.set (by omega) _⟩
     · rw [show b=aq aa.next from z] at q;unfold eT at q;rw [c7] at q;omega
     · unfold eT at q ⊢;exact ⟨by omega,q.2⟩
section
variable [Lay]
def k9 (F:aO→Prop) (h:af):List (Int × List V)→dV→Prop
 | [],[]=>True
 | (n,cs)::c1,(m,t)::s=>n=m∧bV F h t.enc cs∧k9 F h c1 s
 | _,_=>False
structure jI (F:aO→Prop) (h:af) (b:aO) (s:dV):Prop where
 ex:∃c1,jJ V.agg h b c1∧k9 F h c1 s
variable {F:aO→Prop} {h ab:af} {b:aO} {s:dV} {c1:List (Int × List V)}
theorem k9.mod {dI M:aO→Prop} (m:Mod M h ab) (cE:∀b,F b→Old h b→¬M b∧dI b) (A:k9 F h c1 s):k9 dI ab c1 s:=by
 induction c1 generalizing s with
 | nil=>cases s with
   | nil=>trivial
   | cons p s=>exact A.elim
 | cons p c1 bh=>cases s with
   | nil=>exact A.elim
   | cons q s=>
     obtain ⟨bJ,a2,a3⟩:=A
     exact ⟨bJ,a2.mod m cE,bh a3⟩
theorem k9.ext (e:Ext h ab) (A:k9 F h c1 s):k9 F ab c1 s:=A.mod (e.mod fun _=>False) fun b q _=>⟨fun z=>z,q⟩
theorem k9.look (A:k9 F h c1 s) (n:Int):(dj n s=none∧dj n c1=none)∨∃t cs,dj n s=some t∧dj n c1=some cs∧bV F h t.enc cs:=by
 induction c1 generalizing s with
 | nil=>cases s with
   | nil=>exact .inl ⟨rfl,rfl⟩
   | cons p s=>exact A.elim
 | cons p c1 bh=>cases s with
   | nil=>exact A.elim
   | cons q s=>
     obtain ⟨a,cs⟩:=p
     obtain ⟨c,t⟩:=q
     obtain ⟨bJ,a2,a3⟩:=A
     subst bJ
     simp only [dj]
     by_cases aV:n=a
     · rw [if_pos aV,if_pos aV];exact .inr ⟨t,cs,rfl,rfl,a2⟩
     · rw [if_neg aV,if_neg aV];exact bh a3
theorem k9.put (A:k9 F h c1 s) (n:Int) {t:aL} {cs:List V} (H:bV F h t.enc cs):k9 F h (ob n cs c1) (ob n t s):=by
 induction c1 generalizing s with
 | nil=>cases s with
   | nil=>exact ⟨rfl,H,trivial⟩
   | cons p s=>exact A.elim
 | cons p c1 bh=>cases s with
   | nil=>exact A.elim
   | cons q s=>
     obtain ⟨a,rj⟩:=p
     obtain ⟨c,ps⟩:=q
     obtain ⟨bJ,a2,a3⟩:=A
     subst bJ
     simp only [ob]
     by_cases aV:n=a
     · rw [if_pos aV,if_pos aV];exact ⟨rfl,H,a3⟩
     · rw [if_neg aV,if_neg aV];exact ⟨rfl,a2,bh a3⟩
theorem jI.ext (H:jI F h b s) (e:Ext h ab):jI F ab b s:=by
 obtain ⟨c1,bJ,a2⟩:=H.ex
 exact ⟨c1,bJ.ext e,a2.ext e⟩
theorem jI.mod {dI M:aO→Prop} (H:jI F h b s) (m:Mod M h ab) (ah:¬M b) (cE:∀b,F b→Old h b→¬M b∧dI b):jI dI ab b s:=by
 obtain ⟨c1,bJ,a2⟩:=H.ex
 exact ⟨c1,bJ.mod m ah,a2.mod m cE⟩
theorem jI.look (H:jI F h b s) (n:Int) (z:V) (ok:Bool):(dj n s=none∧ma jL z ok h (.map b) (.int .i64 n)=some (bif ok then .tuple [z,.bool false] else z))∨
 ∃t cs,dj n s=some t∧bV F h t.enc cs∧ma jL z ok h (.map b) (.int .i64 n)=some (bif ok then .tuple [.agg cs,.bool true] else .agg cs):=by
 obtain ⟨c1,bJ,a2⟩:=H.ex
 have o9:=bJ.look n z ok
 rcases a2.look n with ⟨aN,bf⟩ | ⟨t,cs,aN,bf,bT⟩
 · rw [bf] at o9;exact .inl ⟨aN,o9⟩
 · rw [bf] at o9;exact .inr ⟨t,cs,aN,bT,o9⟩
theorem jI.nm (H:jI F h b s) (n:Int) {t:aL} {cs:List V} (K:bV F h t.enc cs) (gQ:¬F b):∃ab,lG jL h (.map b) (.int .i64 n) (.agg cs)=some ab∧jI F ab b (ob n t s)∧Mod (fun p=>p=b) h ab∧ab.next=h.next:=by
 obtain ⟨c1,bJ,a2⟩:=H.ex
 obtain ⟨ab,sK,u5,u6,OA⟩:=bJ.nm n cs
 exact ⟨ab,sK,⟨_,u5,(a2.put n K).mod u6 fun p q _=>⟨fun z=>gQ (by rw [←show p=b from z];exact q),q⟩⟩,u6,OA⟩
theorem jI.new (F:aO→Prop) (h:af):jI F (h.new (.mp [] 0)) (aq h.next) []:=⟨[],jJ.new V.agg h,trivial⟩
end
end Go.Proofs.YthemdhlheglhoaaGreatDoor
namespace Go.Proofs.YthemdhlheglhoaaGreatDoor
open Go a6
abbrev Fr (dU:Nat):aO→Prop:=fun b=>b≠aq dU
theorem acW (s:dV) {l:List aL} {i:Nat} {ρ:Int} (h:i<l.length) (Yl:¬ρ<0):fm s (l.drop i) ρ=((l[i].fZ s ρ).1::(fm s (l.drop (i+1)) (l[i].fZ s ρ).2).1,(fm s (l.drop (i+1)) (l[i].fZ s ρ).2).2):=by
 rw [List.drop_eq_getElem_cons h,fm,if_neg Yl]
set_option maxHeartbeats 16000000 in
theorem Nn (s:dV) (r0:∀n u,dj n s=some u→u.size≤900000000):∀(N:Nat) (t:aL),t.size≤N→N≤900000000→∀(ρ:Int) (hp:aO) (dU:Nat) (ad:List V) (h:af),0≤ρ→ρ≤1000000000→hp≠aq dU→bV (Fr dU) h t.enc ad→jI (Fr dU) h hp s→Has h dU [.int .i64 ρ]→
 bI Tryz.prog 60 [.map hp,.agg ad,.ptr (aq dU) 0] h fun x ab=>∃w,x=.agg (cG (t.fZ s ρ).1 w)∧dZ ab (eT h.next ab.next) (t.fZ s ρ).1.l w∧(t.fZ s ρ).1.s.length≤top∧Has ab dU [.int .i64 (t.fZ s ρ).2]∧Mod (fun b=>b=aq dU) h ab
 | 0,t,aQ,_,_,_,_,_,_,_,_,_,_,_,_=>by have:=oa t;omega
 | N+1,t,aQ,tF,ρ,hp,dU,ad,h,agj,agk,nP,H,s4,pK=>by
   have hh:=H
   obtain ⟨b7,rfl,L,h_⟩:=aL.open H
   have bx:N≤900000000:=by omega
   have ol:=L.one
   have ai:=L.len
   have hle:=L.le
   rw [List.length_map] at ai hle
   have b5:=size_eq t
   have hD:=uQ t.l
   refine Tc rfl (df ?_)
   unfold C1
   obtain ⟨aa,au,aN,ck⟩:=fA h (cG t b7)
   obtain ⟨ae,aC,bf,fr⟩:=fA aa z4
   have dx:=ck.ext bf
   have fB:=aN.trans bf
   have cr:=aN.next
   have gr:=bf.next
   have uv:=ck.lt
   have Ae:=fr.lt
   have agq:=pK.lt
   have M2:=s4.ext fB
   have BR:=pK.ext fB
   rw [acV]
   have rest:∀(cI:af) (xU:Has cI h.next (cG t .b6)) (kD:Has cI aa.next z4) (yf:Has cI dU [.int .i64 (ρ-1)]) (vy:Mod (fun b=>b=aq dU) h cI) (n3:ae.next≤cI.next) {r:aR} {Q:cY→aR→af→Prop} (bk:r 0=.map hp) (cb:r 2=.ptr (aq dU) 0) (cP:r 4=.ptr (aq h.next) 0) (dw:r 6=.ptr (aq aa.next) 0) (qB:r 42=b7) (qC:r 43=.int .i64 t.l.length) (qD:r 44=.int .i64 0)
    (cK:∀e r g w,e.ends→r 6=.ptr (aq aa.next) 0→Has g aa.next (cG (.mk t.k t.n t.s (fm s t.l (ρ-1)).1) w)→dZ g (eT h.next g.next) (fm s t.l (ρ-1)).1 w→Has g dU [.int .i64 (fm s t.l (ρ-1)).2]→Mod (fun b=>b=aq dU) h g→Q e r g),
    uA Tryz.prog C2 [.a8 0,.c (bz.seq (bz.aB [⟨(some 62),.iW 4 (.t 4),none,[4]⟩,⟨none,.st 4 (.t 6) (.t 62),none,[6,62]⟩]) (bz.ret))] r cI Q:=by
    intro cI xU kD yf vy n3 r Q bk cb cP dw qB qC qD cK
    refine gE (fun r g=>r 0=.map hp∧r 2=.ptr (aq dU) 0∧r 4=.ptr (aq h.next) 0∧r 6=.ptr (aq aa.next) 0∧r 42=b7∧r 43=.int .i64 t.l.length∧∃(i:Nat) (mv:Int) (pQ:List aL) (w:V),r 44=.int .i64 i∧i≤t.l.length∧-900000000≤mv∧mv≤ρ∧pQ.length≤i∧Has g dU [.int .i64 mv]∧Has g h.next (cG t w)∧Has g aa.next z4∧
     dZ g (eT cI.next g.next) pQ w∧Mod (fun b=>b=aq dU) h g∧cI.next≤g.next∧fm s t.l (ρ-1)=(pQ++(fm s (t.l.drop i) mv).1,(fm s (t.l.drop i) mv).2)) (fun r g=>t.l.length - (r 44).toN) ?_ ?_
    · exact ⟨bk,cb,cP,dw,qB,qC,0,ρ-1,[],.b6,qD,by omega,by omega,by omega,Nat.le_refl _,yf,xU,kD,dZ.nil _ _,vy,Nat.le_refl _,by simp⟩
    clear bk cb cP dw qB qC qD
    rintro r g ⟨bk,cb,cP,dw,qB,qC,i,mv,pQ,w,qD,aD,agl,agm,Kk,pK,A,R,W,M,aE,ag⟩
    unfold C2
    have ky:=W.one
    have f1:(aa.next=h.next)=False:=eq_false (by omega)
    have f2:(h.next=aa.next)=False:=eq_false (by omega)
    have finish:∀(e8:fm s t.l (ρ-1)=(pQ,mv)) {g1:af} (bs:Ext g g1) {r:aR} {e:cY},e.ends→r 6=.ptr (aq aa.next) 0→Q e r (g1.set (aq aa.next) (.bb [.int .i64 t.k,.int .i64 t.n,.str t.s,w] 0 false)):=by
     intro e8 g1 bs r e he ac4
     have FV:=bs.next
     refine cK e r _ w he ac4 ?_ ?_ ?_ ((M.trans (bs.mod _)).fresh cr _)
     · rw [e8];exact (R.ext bs).put _
     · rw [e8]
       refine ((W.ext bs).mod ((Mod.refl (fun x=>x=aq aa.next) g1).set (fun _=>rfl) _) fun b q z=>?_).fH fun b q=>?_
       · rw [show b=aq aa.next from z] at q;unfold eT at q;rw [c7] at q;omega
       · unfold eT at q ⊢;exact ⟨by omega,by rw [k2];omega⟩
     · rw [e8];exact (pK.ext bs).set (by omega) _
    by_cases aP:i<t.l.length
    · have g0:((i:Int) < (t.l.length:Int))=True:=eq_true (by omega)
      obtain ⟨b,off,wl,cH,X,gw,ld⟩:=aL.hR (L.mod (dI:=Fr dU) M fun b q _=>⟨q,q⟩) (k:=.i64) aP
      have Jb:=ld g (Ext.refl g)
      have du:=gw.one
      have ez:=jc aP (by unfold top at hle;omega)
      have Xg:=qA (t:=t) (List.getElem_mem aP)
      obtain ⟨g1,et,bs,Z⟩:=ht g z4 (cG t.l[i] wl)
      have qR:=A.ext bs
      have yd:=R.ext bs
      have BQ:=pK.ext bs
      by_cases l0:mv<0
      · rw [xE s _ _ l0,List.append_nil] at ag
        have Rg:Has g1 aa.next z4:=yd
        simp +contextual only [bk,cb,cP,dw,qB,qC,qD,g0,cH,Jb,et,Z.g,A.g,qR.g,yd.g,pK.g,BQ.g,eq_true l0,du.1,du.2.1,ky.1,ky.2.1,f1,f2,↓aw,aH,simprocAttr]
        exact finish ag bs (by trivial) (by simp only [↓aw,b4,simprocAttr,dw])
      · have XC:=acW s aP l0
        simp +contextual only [bk,cb,cP,dw,qB,qC,qD,g0,cH,Jb,et,Z.g,A.g,qR.g,yd.g,pK.g,BQ.g,eq_false l0,du.1,du.2.1,ky.1,ky.2.1,f1,f2,↓aw,aH,simprocAttr]
        have Py:=(s4.mod (dI:=Fr dU) M (fun z=>nP z) fun b q _=>⟨q,q⟩).ext bs
        have hlen:=Nh s t.l (ρ-1)
        refine cF (Nn s r0 N t.l[i] (by omega) bx mv hp dU _ g1 (by omega) (by omega) nP (X.ext bs) Py BQ) ?_
        rintro x g2 ⟨u,rfl,U,r',PJ,m2⟩
        have pb:=bs.next
        have me:=m2.next
        have afs:=Z.lt
        have EV:∀n,n≠dU→aq n≠aq dU:=fun n aV q=>aV (eZ q)
        have vc:=qR.mod m2 (EV _ (by omega))
        have BN:=yd.mod m2 (EV _ (by omega))
        have P0:=Z.mod m2 (EV _ (by omega))
        have yi:=(W.ext bs).mod m2 fun b q z=>by rw [show b=aq dU from z] at q;unfold eT at q;rw [c7] at q;omega
        have ev:=U.one
        have af8:=Ng s 900000000 (by omega) r0 t.l[i] mv (by omega)
        generalize hu:(t.l[i].fZ s mv).1=pu at *
        generalize agi:(t.l[i].fZ s mv).2=aft at *
        obtain ⟨aj,g3,bW,b3,dv,iF⟩:=yi.add (t:=pu) (T:=eT g1.next g2.next) (u:=u) U (fun b q z=>by unfold eT at q z;omega) (fun b q=>by unfold eT at q;unfold Old;omega) (fun b q=>by unfold eT at q;unfold Old;omega) (by unfold top;omega) r'
        have p9:∀n,n<cI.next→¬w.a8 (aq n):=fun n aV q=>by have:=W.bn _ q;unfold eT at this;rw [c7] at this;omega
        have vd:=vc.mod dv (p9 _ (by omega))
        have BO:=BN.mod dv (p9 _ (by omega))
        have PK:=PJ.mod dv (p9 _ (by omega))
        have xu:=b3.one
        have s3:Mod (fun b=>b=aq dU) h g3:=((M.trans (bs.mod _)).trans m2).Ou dv fun b q=>by have:=W.bn _ q;unfold eT at this;omega
        have f3:(g2.next=h.next)=False:=eq_false (by omega)
        have f4:(g2.next=g.next)=False:=eq_false (by omega)
        simp +contextual only [f3,f4,if_false,bk,cb,cP,dw,qB,qC,qD,Z.g,P0.g,A.g,qR.g,vc.g,vd.g,ev.1,ev.2.1,ky.1,ky.2.1,xu.1,xu.2.1,bW,ez,↓aw,aH,simprocAttr]
        refine ⟨⟨i+1,aft,pQ++[pu],aj,rfl,aP,by omega,by omega,by rw [List.length_append,List.length_singleton];omega,PK.set (by omega) _,vd.put _,BO.set (by omega) _,?_,s3.fresh (Nat.le_refl _) _,by omega,?_⟩,by omega⟩
        · refine (b3.fH fun b q=>?_).mod ((Mod.refl (fun x=>x=aq h.next) g3).set (fun _=>rfl) _) fun b q z=>?_
          · unfold eT at q ⊢;have:=dv.next;omega
          · rw [show b=aq h.next from z] at q;unfold eT at q;rw [c7] at q;omega
        · rw [ag,XC];simp
    · have g0:((i:Int) < (t.l.length:Int))=False:=eq_false (by omega)
      rw [List.drop_eq_nil_of_le (by omega),fm,List.append_nil] at ag
      simp +contextual only [bk,cb,cP,dw,qB,qC,qD,g0,A.g,R.g,pK.g,ky.1,ky.2.1,f1,f2,↓aw,aH,simprocAttr]
      exact finish ag (Ext.refl _) (by trivial) (by simp only [↓aw,b4,simprocAttr,dw])
   have qy:∀(aI:af) (fp:Ext ae aI),Has (aI.set (aq dU) (.bb [V.int .i64 (ρ-1)] 0 false)) h.next (cG t b7)∧Has ((aI.set (aq dU) (.bb [V.int .i64 (ρ-1)] 0 false)).set (aq h.next) (.bb (cG t .b6) 0 false)) h.next (cG t .b6)∧
    Has ((aI.set (aq dU) (.bb [V.int .i64 (ρ-1)] 0 false)).set (aq h.next) (.bb (cG t .b6) 0 false)) aa.next z4∧Has ((aI.set (aq dU) (.bb [V.int .i64 (ρ-1)] 0 false)).set (aq h.next) (.bb (cG t .b6) 0 false)) dU [.int .i64 (ρ-1)]∧
    Mod (fun b=>b=aq dU) h ((aI.set (aq dU) (.bb [V.int .i64 (ρ-1)] 0 false)).set (aq h.next) (.bb (cG t .b6) 0 false)):=by
    intro aI fp
    have gu:=dx.ext fp
    have hs:=fr.ext fp
    have pL:=BR.ext fp
    have sR:=gu.set (m:=dU) (by omega) (.bb [V.int .i64 (ρ-1)] 0 false)
    refine ⟨sR,sR.put _,(hs.set (m:=dU) (by omega) _).set (m:=h.next) (by omega) _,(pL.put _).set (m:=h.next) (by omega) _,?_⟩
    exact (((fB.trans fp).mod (fun b=>b=aq dU)).set (fun _=>rfl) _).fresh (Nat.le_refl _) _
   have bN:IntKind.i64.wrap (ρ-1)=ρ-1:=wrap_i64 (by omega) (by omega)
   have look:=M2.look t.n (.agg z4) true
   have found:∀(u:aL) (cs:List V),(if t.k=1 then dj t.n s else none)=some u→t.k=1:=fun u cs q=>by
    by_cases c:t.k=1
    · exact c
    · rw [if_neg c] at q;cases q
   rcases look with ⟨yP,o9⟩ | ⟨u,cs,yP,Bp,o9⟩
   · have cT:(if t.k=1 then dj t.n s else none)=none:=by rw [yP];split<;>rfl
     rw [cT]
     obtain ⟨aI,aM,bT,q'⟩:=ht ae z4 z4
     have gu:=dx.ext bT
     have pL:=BR.ext bT
     obtain ⟨sR,BK,q5,vA,BL⟩:=qy aI bT
     simp +contextual only [ol.1,ol.2.1,au,aC,aM,dx.g,gu.g,sR.g,pL.g,bN,ai,kB.eq,o9,cond_true,↓aw,aH,simprocAttr]
     refine rest _ BK q5 vA BL bT.next ?_ ?_ ?_ ?_ ?_ ?_ ?_ fun e r g w he ES Rg vF BS BH=>?_
     · simp only [↓aw,b4,simprocAttr]
     · simp only [↓aw,b4,simprocAttr]
     · simp only [↓aw,b4,simprocAttr]
     · simp only [↓aw,b4,simprocAttr]
     · simp only [↓aw,b4,simprocAttr]
     · simp only [↓aw,b4,simprocAttr]
     · simp only [↓aw,b4,simprocAttr]
     have du:=vF.one
     simp +contextual only [ES,Rg.g,du.1,du.2.1,he,↓aw,aH,simprocAttr]
     exact ⟨w,rfl,vF,h_,BS,BH⟩
   · obtain ⟨ul,rfl,PR,r'⟩:=aL.open Bp
     have ev:=PR.one
     obtain ⟨aI,aM,bT,q'⟩:=ht ae z4 (cG u ul)
     have gu:=dx.ext bT
     have hs:=fr.ext bT
     have pL:=BR.ext bT
     have n3:=bT.next
     by_cases c:t.k=1
     · rw [if_pos c,yP]
       have zK:=r0 t.n u yP
       simp +contextual only [ol.1,ol.2.1,ev.1,ev.2.1,au,aC,aM,dx.g,gu.g,pL.g,q'.g,kB.eq,o9,cond_true,eq_true c,↓aw,aH,simprocAttr]
       refine cF (adX u zK _ aI ((Bp.ext bT).fH fun _ _=>trivial)) ?_
       rintro x bo ⟨rfl,dA⟩
       have HP:=q'.ext dA
       have j9:=hs.ext dA
       have HI:=pL.ext dA
       have n4:=dA.next
       have abl:=q'.lt
       have bM:IntKind.i64.wrap (ρ - (u.size:Nat))=ρ - (u.size:Nat):=wrap_i64 (by omega) (by omega)
       have ho:=fr.lt
       have f5:(dU=ae.next)=False:=eq_false (by omega)
       have afC:=HP.set (m:=dU) (by omega) (.bb [V.int .i64 (ρ - (u.size:Nat))] 0 false)
       have kD:=j9.set (m:=dU) (by omega) (.bb [V.int .i64 (ρ - (u.size:Nat))] 0 false)
       have yf:=HI.put [V.int .i64 (ρ - (u.size:Nat))]
       have vy:Mod (fun b=>b=aq dU) h (bo.set (aq dU) (.bb [V.int .i64 (ρ - (u.size:Nat))] 0 false)):=(((fB.trans bT).trans dA).mod (fun b=>b=aq dU)).set (fun _=>rfl) _
       have Bn:bV Any (bo.set (aq dU) (.bb [V.int .i64 (ρ - (u.size:Nat))] 0 false)) u.enc (cG u ul):=((Bp.ext (bT.trans dA)).mod (dI:=Fr dU) (M:=fun b=>b=aq dU) ((Mod.refl (fun b=>b=aq dU) bo).set (fun _=>rfl) _) fun b q _=>⟨q,q⟩).fH fun _ _=>trivial
       have n5:(bo.set (aq dU) (.bb [V.int .i64 (ρ - (u.size:Nat))] 0 false)).next=bo.next:=rfl
       simp +contextual only [q'.g,HP.g,pL.g,HI.g,bM,f5,if_false,↓aw,aH,simprocAttr]
       generalize bo.set (aq dU) (.bb [V.int .i64 (ρ - (u.size:Nat))] 0 false)=cI at *
       refine cF (IP _ u (Nat.le_refl _) (by omega) _ cI Bn) ?_
       rintro x cQ ⟨w,rfl,W,gN⟩
       have du:=W.one
       have ye:=kD.ext gN
       have PL:=yf.ext gN
       have agp:=ye.lt
       simp +contextual only [ye.g,du.1,du.2.1,↓aw,aH,simprocAttr]
       refine ⟨w,rfl,(W.mod ((Mod.refl (fun x=>x=aq aa.next) cQ).set (fun _=>rfl) _) fun b q z=>?_).fH fun b q=>?_,r',PL.set (by omega) _,(vy.trans (gN.mod _)).fresh cr _⟩
       · rw [show b=aq aa.next from z] at q;unfold eT at q;rw [c7] at q;omega
       · unfold eT at q ⊢;have:=vy.next;omega
     · rw [if_neg c]
       obtain ⟨sR,BK,q5,vA,BL⟩:=qy aI bT
       simp +contextual only [ol.1,ol.2.1,ev.1,ev.2.1,au,aC,aM,dx.g,gu.g,sR.g,pL.g,bN,ai,kB.eq,o9,cond_true,eq_false c,↓aw,aH,simprocAttr]
       refine rest _ BK q5 vA BL bT.next ?_ ?_ ?_ ?_ ?_ ?_ ?_ fun e r g w he ES Rg vF BS BH=>?_
       · simp only [↓aw,b4,simprocAttr]
       · simp only [↓aw,b4,simprocAttr]
       · simp only [↓aw,b4,simprocAttr]
       · simp only [↓aw,b4,simprocAttr]
       · simp only [↓aw,b4,simprocAttr]
       · simp only [↓aw,b4,simprocAttr]
       · simp only [↓aw,b4,simprocAttr]
       have du:=vF.one
       simp +contextual only [ES,Rg.g,du.1,du.2.1,he,↓aw,aH,simprocAttr]
       exact ⟨w,rfl,vF,h_,BS,BH⟩
def iu (p:Int × aL):List D:=.i .i64 p.1::p.2.enc
section
variable [Lay] {F:aO→Prop} {h:af}
theorem cZ.QD {size:Nat} {es:List (List D)} {v:V} (H:cZ F h size es v) {k:IntKind} {i:Nat} (aD:i<es.length):
 ∃b off u,iU size v (.int k i)=some (.ptr b (off+i * size))∧bV F h es[i] u∧u.length=size∧(∀ab,Ext h ab→∀j n,j+n≤size→lu n (ab.get b) (off+i * size+j)=some (.agg ((u.drop j).take n)))∧∀ab,Ext h ab→∀j,j<size→iC (ab.get b) (off+i * size+j)=u[j]? :=by
 obtain ⟨us,aa,ae,ai,aI⟩:=H.ex
 have oV:i<us.length:=by omega
 have hu:=List.getElem?_eq_getElem oV
 obtain ⟨b,off,aN,bf⟩:=aa.cH (k:=k) aD
 have av:=y' us i _ ai hu
 have lW:=wc us ai
 have hle:i * size+size≤us.length * size:=by
  have:=Nat.mul_le_mul_right size (show i+1≤us.length from oV)
  rw [Nat.succ_mul] at this;exact this
 have bm:us[i].length=size:=ai _ (List.getElem_mem oV)
 refine ⟨b,off,us[i],aN,aI i _ _ (List.getElem?_eq_getElem aD) hu,bm,fun ab e j n zy=>?_,fun ab e j bB=>?_⟩
 · have:=(bf.ext e).iW (i:=i * size+j) (n:=n) (by rw [lW];omega)
   rw [Nat.add_assoc,this,←av]
   congr 2
   rw [List.drop_take,List.take_take,List.drop_drop,Nat.min_eq_left (by omega)]
 · have:=(bf.ext e).iB (i:=i * size+j) (by rw [lW];omega)
   rw [Nat.add_assoc,this,←av,List.getElem?_take_of_lt bB,List.getElem?_drop,List.getElem?_eq_getElem]
theorem dV.hR {s:dV} {v:V} (H:cZ F h 5 (s.map iu) v) {k:IntKind} {i:Nat} (aD:i<s.length):
 ∃b off b7,iU 5 v (.int k i)=some (.ptr b (off+i * 5))∧bV F h s[i].2.enc (cG s[i].2 b7)∧(∀ab,Ext h ab→iC (ab.get b) (off+i * 5)=some (.int .i64 s[i].1))∧
  (∀ab,Ext h ab→lu 4 (ab.get b) (off+i * 5+1)=some (.agg (cG s[i].2 b7)))∧(∀ab,Ext h ab→lu 5 (ab.get b) (off+i * 5)=some (.agg (.int .i64 s[i].1::cG s[i].2 b7))):=by
 obtain ⟨b,off,u,aN,bf,bT,dA,iM⟩:=cZ.QD H (k:=k) (i:=i) (by rw [List.length_map];exact aD)
 rw [List.getElem_map,iu] at bf
 obtain ⟨us,rfl,Jn⟩:=bf.int
 obtain ⟨b7,rfl,L,_⟩:=aL.open Jn
 exact ⟨b,off,b7,aN,Jn,fun ab e=>by simpa using iM ab e 0 (by omega),fun ab e=>by simpa using dA ab e 1 4 (by omega),fun ab e=>by simpa using dA ab e 0 5 (by omega)⟩
end
def vk (F:aO→Prop) (s:dV) (n:Int) (ab:af) (cs:List V) (ok:Bool):Prop:=match dj n s with
 | some t=>ok=true∧bV F ab t.enc cs
 | none=>ok=false∧cs=z4
set_option maxHeartbeats 4000000 in
theorem JM (F:aO→Prop) (s:dV) (n:Int) (dF:V) (h:af) (S:cZ F h 5 (s.map iu) dF):bI Tryz.prog 91 [dF,.int .i64 n] h fun x ab=>∃cs ok,x=.tuple [.agg cs,.bool ok]∧cs.length=4∧vk F s n ab cs ok∧Ext h ab:=by
 have ai:=S.len
 have hle:=S.le
 rw [List.length_map] at ai hle
 refine TG rfl (df ?_)
 unfold Da
 obtain ⟨aa,au,aN,nv⟩:=fA h z4
 simp +contextual only [au,↓aw,aH,simprocAttr]
 refine gE (fun r g=>r 0=dF∧r 1=.int .i64 n∧r 4=.ptr (aq h.next) 0∧g=aa∧∃i:Nat,r 6=.int .i64 i∧i≤s.length∧dj n s=dj n (s.drop i)) (fun r g=>s.length - (r 6).toN) ?_ ?_
 · exact ⟨by simp only [↓aw,b4,simprocAttr],by simp only [↓aw,b4,simprocAttr],by simp only [↓aw,b4,simprocAttr],rfl,0,by simp only [↓aw,b4,simprocAttr]<;>rfl,by omega,rfl⟩
 rintro r g ⟨bk,bw,cP,rfl,i,dw,aD,ax⟩
 unfold IH
 by_cases aP:i<s.length
 · have g0:((i:Int) < (s.length:Int))=True:=eq_true (by omega)
   obtain ⟨b,off,b7,cH,X,iV,jt,_⟩:=dV.hR S (k:=.i64) aP
   have d0:=iV g aN
   have d4:=jt g aN
   have ez:=jc aP (by unfold top at hle;omega)
   have Km:s.drop i=s[i]::s.drop (i+1):=List.drop_eq_getElem_cons aP
   obtain ⟨u7,eW,gw,_⟩:=aL.open X
   have ol:b7.one=true∧b7.cells=[b7]:=by
    have:=gw.one
    simp only [cG,List.cons.injEq,and_true,true_and] at eW
    subst eW
    exact ⟨this.1,this.2.1⟩
   by_cases c:s[i].1=n
   · simp +contextual only [bk,bw,cP,dw,ai,g0,cH,d0,d4,eq_true c,ol.1,ol.2,nv.g,↓aw,aH,simprocAttr]
     refine ⟨_,_,rfl,rfl,?_,aN.set (Nat.le_refl _) _⟩
     unfold vk
     rw [ax,Km,show s[i]=(s[i].1,s[i].2) from rfl,dj,if_pos c.symm]
     exact ⟨rfl,X.ext (aN.set (Nat.le_refl _) _)⟩
   · simp +contextual only [bk,bw,cP,dw,ai,g0,cH,d0,d4,eq_false c,ez,↓aw,aH,simprocAttr]
     refine ⟨⟨i+1,rfl,aP,?_⟩,by omega⟩
     rw [ax,Km,show s[i]=(s[i].1,s[i].2) from rfl,dj,if_neg (fun q=>c q.symm)]
 · have g0:((i:Int) < (s.length:Int))=False:=eq_false (by omega)
   rw [List.drop_eq_nil_of_le (by omega),dj] at ax
   simp +contextual only [bk,bw,cP,dw,ai,g0,nv.g,↓aw,aH,simprocAttr]
   refine ⟨_,_,rfl,rfl,?_,aN.set (Nat.le_refl _) _⟩
   unfold vk
   rw [ax]
   exact ⟨rfl,rfl⟩
end Go.Proofs.YthemdhlheglhoaaGreatDoor
namespace Go.Proofs.YthemdhlheglhoaaGreatDoor
open Go a6
theorem Gm (s:dV) {l:List aL} {i:Nat} (h:i<l.length):cN s (l.take (i+1))=cN s (l.take i)++[l[i].put s]:=by
 rw [uR,uR,take_one h,List.map_append];rfl
theorem acX {s:dV} {t:aL} (gB:s=[]∨t.shape=true) (ax:t.k=1) (aV:dj t.n s=none):t.put s=t:=by
 rcases gB with rfl | gB
 · exact Gl t
 · rw [put_eq,if_pos ax,aV]
   rw [xJ,Bool.and_eq_true] at gB
   have aa:=gB.1
   unfold aL.own at aa
   rw [if_pos ax] at aa
   simp only [Bool.and_eq_true,decide_eq_true_eq] at aa
   have ae:=aa.2
   cases t with
   | mk k n x l=>
     simp only [aL.l,aL.k,aL.n,aL.s] at ae ⊢
     rw [List.eq_nil_of_length_eq_zero ae];rfl
set_option maxHeartbeats 4000000 in
theorem GJ (s:dV):∀(N:Nat) (t:aL),t.size≤N→N≤1000000000→(s=[]∨t.shape=true)→∀(F:aO→Prop) (dF:V) (ad:List V) (h:af),(∀b,F b→Old h b)→cZ F h 5 (s.map iu) dF→bV F h t.enc ad→
 bI Tryz.prog 64 [dF,.agg ad] h fun x ab=>(∃cs,x=.agg cs∧bV (fun b=>F b∨fK h b) ab (t.put s).enc cs)∧Ext h ab
 | 0,t,aQ,_,_,_,_,_,_,_,_,_=>by have:=oa t;omega
 | N+1,t,aQ,tF,gB,F,dF,ad,h,gQ,S,H=>by
   have hh:=H
   obtain ⟨b7,rfl,L,h_⟩:=aL.open H
   have bx:N≤1000000000:=by omega
   have ol:=L.one
   have os:=S.one
   have ai:=L.len
   have hle:=L.le
   rw [List.length_map] at ai hle
   have b5:=size_eq t
   have hD:=uQ t.l
   refine To rfl (df ?_)
   unfold C6
   obtain ⟨aa,au,aN,ck⟩:=fA h (cG t b7)
   obtain ⟨ae,aC,bf,fr⟩:=fA aa z4
   have dx:=ck.ext bf
   have fB:=aN.trans bf
   have cr:=aN.next
   have gr:=bf.next
   have uv:=ck.lt
   have Ae:=fr.lt
   by_cases ax:t.k=1
   · simp +contextual only [ol.1,ol.2.1,au,aC,dx.g,eq_true ax,↓aw,aH,simprocAttr]
     refine cF (JM F s t.n dF ae (S.ext fB)) ?_
     rintro x aI ⟨cs,ok,rfl,iR,mx,bT⟩
     have gu:=dx.ext bT
     have hs:=fr.ext bT
     have n3:=bT.next
     unfold vk at mx
     have fin:∀{bo:af} {u:aL} {cs:List V},bV F bo u.enc cs→Ext h bo→bV (fun b=>F b∨fK h b) (bo.set (aq aa.next) (.bb cs 0 false)) u.enc cs∧Ext h (bo.set (aq aa.next) (.bb cs 0 false)):=fun C E=>
      ⟨C.mod ((Mod.refl (fun x=>x=aq aa.next) _).set (fun _=>rfl) _) fun b q _=>⟨fun z=>by have:=gQ b q;rw [show b=aq aa.next from z] at this;unfold Old at this;rw [c7] at this;omega,.inl q⟩,E.set cr _⟩
     cases az:dj t.n s with
     | some u=>
       rw [az] at mx
       obtain ⟨rfl,C⟩:=mx
       obtain ⟨fG,rfl,U,hu⟩:=aL.open C
       obtain ⟨bo,bG,dA,h3⟩:=ht aI z4 (cG u fG)
       have ev:=U.one
       have j9:=hs.ext dA
       have f1:(aI.next=aa.next)=False:=eq_false (by omega)
       simp +contextual only [bG,h3.g,j9.g,ev.1,ev.2.1,f1,↓aw,aH,simprocAttr]
       rw [put_eq,if_pos ax,az]
       obtain ⟨f2,f3⟩:=fin (C.ext dA) ((fB.trans bT).trans dA)
       exact ⟨⟨_,rfl,f2⟩,f3⟩
     | none=>
       rw [az] at mx
       obtain ⟨rfl,rfl⟩:=mx
       obtain ⟨bo,bG,dA,h3⟩:=ht aI z4 z4
       have j9:=hs.ext dA
       have sS:=gu.ext dA
       have f1:(h.next=aa.next)=False:=eq_false (by omega)
       simp +contextual only [bG,h3.g,j9.g,sS.g,ol.1,ol.2.1,f1,↓aw,aH,simprocAttr]
       rw [acX gB ax az]
       have jB:=(fB.trans bT).trans dA
       obtain ⟨f2,f3⟩:=fin (hh.ext jB) jB
       exact ⟨⟨_,rfl,f2⟩,f3⟩
   · obtain ⟨aI,aM,bT,qS⟩:=ht ae z4 (cG t .b6)
     have gu:=dx.ext bT
     have hs:=fr.ext bT
     have l7:=qS.lt
     have n3:=bT.next
     have fp:=fB.trans bT
     have rV:(if t.k=1 then dj t.n s else none)=none:=if_neg ax
     have XS:∀i (aD:i<t.l.length),s=[]∨t.l[i].shape=true:=fun i aD=>by
      rcases gB with q | q
      · exact .inl q
      · refine .inr ?_
        rw [xJ,Bool.and_eq_true,GS,List.all_eq_true] at q
        exact q.2 _ (List.getElem_mem aD)
     simp +contextual only [ol.1,ol.2.1,au,aC,aM,dx.g,eq_false ax,↓aw,aH,simprocAttr]
     refine gE (fun r g=>r 0=dF∧r 3=.ptr (aq h.next) 0∧r 4=.ptr (aq aa.next) 0∧r 7=.ptr (aq ae.next) 0∧∃(i:Nat) (w:V),r 8=.int .i64 i∧i≤t.l.length∧Has g ae.next (cG t w)∧gb aI.next (fun b=>F b∨fK aI b) g 4 ((cN s (t.l.take i)).map aL.enc) w∧Ext ae g∧aI.next≤g.next) (fun r g=>t.l.length - (r 8).toN) ?_ ?_
     · exact ⟨by simp only [↓aw,b4,simprocAttr],by simp only [↓aw,b4,simprocAttr],by simp only [↓aw,b4,simprocAttr],by simp only [↓aw,b4,simprocAttr],0,.b6,by simp only [↓aw,b4,simprocAttr]<;>rfl,by omega,qS,gb.nil _ _ _ _,bT,Nat.le_refl _⟩
     rintro r g ⟨bk,bS,cP,hd,i,w,iG,aD,B,W,E,aE⟩
     unfold ID
     have ao:=fB.trans E
     have ve:=dx.ext E
     have PI:=fr.ext E
     have ou:=L.ext ao
     have du:=W.one
     have n4:=E.next
     by_cases aP:i<t.l.length
     · have g0:((i:Int) < (t.l.length:Int))=True:=eq_true (by omega)
       obtain ⟨b,off,wl,cH,X,gw,ld⟩:=aL.hR ou (k:=.i64) aP
       have d1:=ld g (Ext.refl g)
       have ez:=jc aP (by unfold top at hle;omega)
       have bm:=qA (t:=t) (List.getElem_mem aP)
       simp +contextual only [bk,bS,cP,hd,iG,ve.g,ai,g0,cH,d1,↓aw,aH,simprocAttr]
       refine cF (GJ s N t.l[i] (by omega) bx (XS i aP) F dF _ g (fun b q=>ao.bO (gQ b q)) (S.ext ao) X) ?_
       rintro x g2 ⟨⟨cs,rfl,C⟩,ch⟩
       obtain ⟨u,rfl,U,E2⟩:=aL.open C
       obtain ⟨g3,y3,qM,Z⟩:=ht g2 z4 (cG (t.l[i].put s) u)
       have Hg:=ch.trans qM
       have BU:=W.ext Hg
       have Hn:=B.ext Hg
       have ev:=U.one
       have me:=ch.next
       have xm:=qM.next
       have vD:bV (fun b=>(F b∨fK aI b)∧¬w.a8 b) g3 (t.l[i].put s).enc (cG (t.l[i].put s) u):=(C.ext qM).fH fun b q=>by
        refine ⟨?_,fun z=>?_⟩
        · rcases q with q | q
          · exact .inl q
          · exact .inr (by unfold fK at q ⊢;omega)
        · have e4:=W.base z
          have V3:=W.FY z
          rcases q with q | q
          · have:=gQ b q;unfold Old at this;omega
          · unfold fK at q;unfold Old at V3;omega
       obtain ⟨eQ,g4,bW,b3,dv,iF,nb⟩:=BU.add vD (by omega) (by omega) (by rw [List.length_map,uR,List.length_map,List.length_take];unfold top;omega) rfl
       have qt:=b3.one
       have p9:∀n,n<aI.next→¬w.a8 (aq n):=fun n aV q=>by have:=W.base q;rw [c7] at this;omega
       have h3:=Hn.mod dv (p9 _ (by omega))
       have jB:Ext ae g4:=(E.trans Hg).lz dv fun b q=>by have:=W.base q;omega
       have f1:(g2.next=ae.next)=False:=eq_false (by omega)
       simp +contextual only [bk,bS,cP,hd,iG,y3,Z.g,Hn.g,h3.g,f1,if_false,ev.1,ev.2.1,du.1,du.2.1,bW,qt.1,qt.2.1,ez,↓aw,aH,simprocAttr]
       refine ⟨⟨i+1,eQ,rfl,aP,h3.put _,?_,jB.set (Nat.le_refl _) _,by omega⟩,by omega⟩
       rw [Gm s aP,List.map_append]
       refine b3.mod ((Mod.refl (fun x=>x=aq ae.next) g4).set (fun _=>rfl) _) (fun b q z=>?_) fun b q _ _ z=>?_
       · have:=b3.base q;rw [show b=aq ae.next from z,c7] at this;omega
       · rw [show b=aq ae.next from z] at q
         rcases q with q | q
         · have:=gQ _ q;unfold Old at this;rw [c7] at this;omega
         · unfold fK at q;rw [c7] at q;omega
     · have g0:((i:Int) < (t.l.length:Int))=False:=eq_false (by omega)
       rw [List.take_of_length_le (by omega)] at W
       have f1:(aa.next=ae.next)=False:=eq_false (by omega)
       have f2:(ae.next=aa.next)=False:=eq_false (by omega)
       have f3:(h.next=aa.next)=False:=eq_false (by omega)
       have f4:(h.next=ae.next)=False:=eq_false (by omega)
       simp +contextual only [bk,bS,cP,hd,iG,ve.g,PI.g,B.g,ai,g0,du.1,du.2.1,f1,f2,f3,f4,↓aw,aH,simprocAttr]
       refine ⟨⟨_,rfl,?_⟩,ao.set (by omega) _⟩
       rw [put_eq,rV,qw]
       simp only [aL.k,aL.n,aL.s,aL.l]
       refine .i (.i (.s h_ (cZ.cons ?_ .nil)))
       refine (W.fx (F:=fun b=>F b∨fK aI b) (by rw [List.length_map,uR,List.length_map];exact hle) (fun b q=>q) fun b q=>.inr q).mod ((Mod.refl (fun x=>x=aq aa.next) g).set (fun _=>rfl) _) fun b q _=>⟨fun z=>?_,?_⟩
       · rw [show b=aq aa.next from z] at q
         rcases q with q | q
         · have:=gQ _ q;unfold Old at this;rw [c7] at this;omega
         · unfold fK at q;rw [c7] at q;omega
       · rcases q with q | q
         · exact .inl q
         · exact .inr (by unfold fK at q ⊢;omega)
mutual
theorem Nq (s:dV) (M:Nat) (cE:1≤M) (aQ:∀n u,dj n s=some u→u.size≤M):∀t:aL,(t.put s).size≤t.size * M
 | .mk k n x l=>by
   rw [aL.put,aL.size]
   cases az:(if k=1 then dj n s else none) with
   | some u=>
     have:u.size≤M:=by
      by_cases c:k=1
      · rw [if_pos c] at az;exact aQ n u az
      · rw [if_neg c] at az;cases az
     simp only
     rw [Nat.add_mul];omega
   | none=>
     have:=Gn s M cE aQ l
     simp only
     rw [aL.size,Nat.add_mul];omega
theorem Gn (s:dV) (M:Nat) (cE:1≤M) (aQ:∀n u,dj n s=some u→u.size≤M):∀l:List aL,c2 (cN s l)≤c2 l * M
 | []=>by rw [cN];simp [c2]
 | t::l=>by
   have:=Nq s M cE aQ t
   have:=Gn s M cE aQ l
   rw [cN,c2,c2,Nat.add_mul];omega
end
theorem adN {t:aL} (q:t.shape=true) {i:Nat} (aD:i<t.l.length):t.l[i].shape=true:=by
 rw [xJ,Bool.and_eq_true,GS,List.all_eq_true] at q
 exact q.2 _ (List.getElem_mem aD)
theorem adL {t:aL} (gB:t.shape=true) (ax:t.k=1):t.l=[]:=by
 rw [xJ,Bool.and_eq_true] at gB
 have aa:=gB.1
 unfold aL.own at aa
 rw [if_pos ax] at aa
 simp only [Bool.and_eq_true,decide_eq_true_eq] at aa
 exact List.eq_nil_of_length_eq_zero aa.2
set_option maxHeartbeats 4000000 in
theorem LW (s:dV) (cJ:∀n u,dj n s=some u→u.size≤4096):∀(N:Nat) (t:aL),t.size≤N→N≤4096→t.shape=true→∀(dF:V) (ad:List V) (h:af),cZ Any h 5 (s.map iu) dF→bV Any h t.enc ad→
 bI Tryz.prog 62 [dF,.agg ad] h fun x ab=>x=.tuple [.int .i64 ((t.put s).size:Nat),.int .i64 ((t.put s).deep:Nat)]∧Ext h ab
 | 0,t,aQ,_,_,_,_,_,_,_=>by have:=oa t;omega
 | N+1,t,aQ,tF,gB,dF,ad,h,S,H=>by
   obtain ⟨b7,rfl,L,h_⟩:=aL.open H
   have bx:N≤4096:=by omega
   have ol:=L.one
   have os:=S.one
   have ai:=L.len
   have hle:=L.le
   rw [List.length_map] at ai hle
   have b5:=size_eq t
   have hD:=uQ t.l
   refine Ti rfl (df ?_)
   unfold C4
   obtain ⟨aa,au,aN,ck⟩:=fA h (cG t b7)
   by_cases ax:t.k=1
   · simp +contextual only [ol.1,ol.2.1,au,ck.g,eq_true ax,↓aw,aH,simprocAttr]
     refine cF (JM Any s t.n dF aa (S.ext aN)) ?_
     rintro x aI ⟨cs,ok,rfl,iR,mx,bT⟩
     unfold vk at mx
     rw [put_eq,if_pos ax]
     cases az:dj t.n s with
     | some u=>
       rw [az] at mx
       obtain ⟨rfl,C⟩:=mx
       obtain ⟨fG,rfl,U,hu⟩:=aL.open C
       obtain ⟨bo,bG,dA,h3⟩:=ht aI z4 (cG u fG)
       have ev:=U.one
       have r':=cJ _ _ az
       simp +contextual only [bG,h3.g,ev.1,ev.2.1,↓aw,aH,simprocAttr]
       refine cF (GK u.size u (Nat.le_refl _) (by omega) _ bo (C.ext dA)) ?_
       rintro x cI ⟨rfl,iM⟩
       have pz:=h3.ext iM
       simp +contextual only [h3.g,pz.g,ev.1,ev.2.1,↓aw,aH,simprocAttr]
       refine cF (Gv u.size u (Nat.le_refl _) (by omega) _ cI ((C.ext dA).ext iM)) ?_
       rintro x cQ ⟨rfl,gN⟩
       have O5:=pz.ext gN
       simp +contextual only [h3.g,pz.g,O5.g,ev.1,ev.2.1,↓aw,aH,simprocAttr]
       exact (((aN.trans bT).trans dA).trans iM).trans gN
     | none=>
       rw [az] at mx
       obtain ⟨rfl,rfl⟩:=mx
       obtain ⟨bo,bG,dA,h3⟩:=ht aI z4 z4
       have p7:=adL gB ax
       simp +contextual only [bG,h3.g,ol.1,ol.2.1,↓aw,aH,simprocAttr]
       refine ⟨?_,(aN.trans bT).trans dA⟩
       rw [p7,cN,aL.size,aL.deep,c2,fw];rfl
   · have rV:(if t.k=1 then dj t.n s else none)=none:=if_neg ax
     rw [put_eq,rV]
     simp only
     rw [aL.size,aL.deep]
     simp +contextual only [ol.1,ol.2.1,au,ck.g,eq_false ax,↓aw,aH,simprocAttr]
     refine gE (fun r g=>r 0=dF∧r 3=.ptr (aq h.next) 0∧∃i:Nat,r 8=.int .i64 ((1+c2 (cN s (t.l.take i)):Nat):Int)∧r 9=.int .i64 (fw (cN s (t.l.take i)):Nat)∧r 10=.int .i64 i∧i≤t.l.length∧Ext aa g) (fun r g=>t.l.length - (r 10).toN) ?_ ?_
     · exact ⟨by simp only [↓aw,b4,simprocAttr],by simp only [↓aw,b4,simprocAttr],0,by simp only [↓aw,b4,simprocAttr]<;>rfl,by simp only [↓aw,b4,simprocAttr]<;>rfl,by simp only [↓aw,b4,simprocAttr]<;>rfl,by omega,Ext.refl aa⟩
     rintro r g ⟨bk,bS,i,iG,qE,sx,aD,E⟩
     unfold IC
     have ve:=ck.ext E
     have ou:=L.ext (aN.trans E)
     have ct:=Gn s 4096 (by omega) cJ (t.l.take i)
     have cf:=xD t.l i
     have gx:=xz (cN s (t.l.take i))
     by_cases aP:i<t.l.length
     · have g0:((i:Int) < (t.l.length:Int))=True:=eq_true (by omega)
       obtain ⟨b,off,wl,cH,X,gw,ld⟩:=aL.hR ou (k:=.i64) aP
       have d1:=ld g (Ext.refl g)
       have ez:=jc aP (by unfold top at hle;omega)
       have bm:=qA (t:=t) (List.getElem_mem aP)
       have j':=Nq s 4096 (by omega) cJ t.l[i]
       have bN:IntKind.i64.wrap (((1+c2 (cN s (t.l.take i)):Nat):Int) + (((t.l[i].put s).size:Nat):Int))=((1+c2 (cN s (t.l.take (i+1))):Nat):Int):=by
        rw [Gm s aP,AH,c2,c2,wrap_i64 (by omega) (by omega)];omega
       have bM:(if ((fw (cN s (t.l.take i)):Nat):Int) < (((t.l[i].put s).deep:Nat):Int) then (((t.l[i].put s).deep:Nat):Int) else ((fw (cN s (t.l.take i)):Nat):Int))=((fw (cN s (t.l.take (i+1))):Nat):Int):=by
        rw [FH,Gm s aP,F_,fw,fw,Nat.max_zero]
       simp +contextual only [bk,bS,iG,qE,sx,ve.g,ai,g0,cH,d1,↓aw,aH,simprocAttr]
       refine cF (LW s cJ N t.l[i] (by omega) bx (adN gB aP) dF _ g (S.ext (aN.trans E)) X) ?_
       rintro x g2 ⟨rfl,ch⟩
       simp +contextual only [bk,bS,iG,qE,sx,bN,bM,ez,↓aw,aH,simprocAttr]
       exact ⟨⟨i+1,rfl,rfl,rfl,aP,E.trans ch⟩,by omega⟩
     · have g0:((i:Int) < (t.l.length:Int))=False:=eq_false (by omega)
       rw [List.take_of_length_le (by omega)] at iG qE ct gx
       have bN:IntKind.i64.wrap ((fw (cN s t.l):Int)+1)=((fw (cN s t.l)+1:Nat):Int):=by
        rw [wrap_i64 (by omega) (by omega)];rfl
       simp +contextual only [bk,bS,iG,qE,sx,ve.g,ai,g0,bN,↓aw,aH,simprocAttr]
       exact aN.trans E
set_option maxHeartbeats 1000000 in
theorem Un (t:aL) (aA:t.size≤1000000000) (F:aO→Prop) (ad:List V) (h:af) (gQ:∀b,F b→Old h b) (H:bV F h t.enc ad):bI Tryz.prog 63 [.agg ad] h fun x ab=>(∃cs,x=.agg cs∧bV (fun b=>F b∨fK h b) ab t.enc cs)∧Ext h ab:=by
 have hh:=H
 obtain ⟨b7,rfl,L,h_⟩:=aL.open H
 have ol:=L.one
 refine Tl rfl (df ?_)
 unfold C5
 obtain ⟨aa,au,aN,ck⟩:=fA h (cG t b7)
 obtain ⟨ae,aC,bf,fr⟩:=fA aa z4
 have dx:=ck.ext bf
 have cr:=aN.next
 have gr:=bf.next
 have uv:=ck.lt
 have Ae:=fr.lt
 have fB:=aN.trans bf
 simp +contextual only [ol.1,ol.2.1,au,aC,dx.g,↓aw,aH,simprocAttr]
 refine cF (GJ [] t.size t (Nat.le_refl _) aA (.inl rfl) F .b6 _ ae (fun b q=>fB.bO (gQ b q)) (cZ.nil _ _ _) (hh.ext fB)) ?_
 rintro x aI ⟨⟨cs,rfl,C⟩,bT⟩
 rw [Gl] at C
 obtain ⟨u,rfl,U,hu⟩:=aL.open C
 have hs:=fr.ext bT
 have ev:=U.one
 have n3:=bT.next
 simp +contextual only [hs.g,ev.1,ev.2.1,↓aw,aH,simprocAttr]
 refine ⟨⟨_,rfl,C.mod ((Mod.refl (fun x=>x=aq aa.next) _).set (fun _=>rfl) _) fun b q _=>?_⟩,(fB.trans bT).set cr _⟩
 rcases q with q | q
 · exact ⟨fun z=>by have:=gQ b q;rw [show b=aq aa.next from z] at this;unfold Old at this;rw [c7] at this;omega,.inl q⟩
 · exact ⟨fun z=>by rw [show b=aq aa.next from z] at q;unfold fK at q;rw [c7] at q;omega,.inr (by unfold fK at q ⊢;omega)⟩
theorem Ol {last:Int} {s:dV} {i:Nat} (h:i<s.length):mq last (s.drop i)=(decide (last<s[i].1)&&decide (s[i].1≤1048575)&&decide (s[i].2.check=0)&&mq s[i].1 (s.drop (i+1))):=by
 rw [List.drop_eq_getElem_cons h,show s[i]=(s[i].1,s[i].2) from rfl,mq]
def hS (s:dV):Nat→Int
 | 0=>-1
 | i+1=>match s[i]? with
   | some p=>p.1
   | none=>-1
set_option maxHeartbeats 16000000 in
theorem aem (s:dV) (aQ:∀p ∈ s,p.2.size≤1000000000) (dF:V) (h:af) (S:cZ Any h 5 (s.map iu) dF):bI Tryz.prog 61 [dF] h fun x ab=>x=.bool (sH s)∧Ext h ab:=by
 have ai:=S.len
 have hle:=S.le
 have os:=S.one
 rw [List.length_map] at ai hle
 refine Tf rfl (df ?_)
 unfold C3
 simp +contextual only [↓aw,aH,simprocAttr]
 refine gE (fun r g=>r 0=dF∧Ext h g∧∃i:Nat,r 3=.int .i64 i∧i≤s.length∧-1≤hS s i∧sH s=mq (hS s i) (s.drop i)) (fun r g=>s.length - (r 3).toN) ?_ ?_
 · exact ⟨by simp only [↓aw,b4,simprocAttr],Ext.refl h,0,by simp only [↓aw,b4,simprocAttr]<;>rfl,by omega,by simp [hS],rfl⟩
 rintro r g ⟨bk,E,i,bS,aD,ag,ax⟩
 unfold IB
 have HK:=S.ext E
 by_cases aP:i<s.length
 · have g0:((i:Int) < (s.length:Int))=True:=eq_true (by omega)
   obtain ⟨b,off,b7,cH,X,iV,jt,_⟩:=dV.hR HK (k:=.i64) aP
   have d0:=iV g (Ext.refl g)
   have d4:=jt g (Ext.refl g)
   have ez:=jc aP (by unfold top at hle;omega)
   obtain ⟨u7,eW,gw,_⟩:=aL.open X
   have ol:=gw.one
   have WD:b7=u7:=by simpa using eW
   subst WD
   have bm:=aQ _ (List.getElem_mem aP)
   rw [Ol aP] at ax
   have sk:hS s (i+1)=s[i].1:=by rw [hS,List.getElem?_eq_getElem aP]
   by_cases bE:s[i].1<0
   · have Cg:decide (hS s i<s[i].1)=false:=decide_eq_false (by omega)
     rw [Cg] at ax
     simp +contextual only [bk,bS,ai,g0,cH,d0,eq_true bE,↓aw,aH,simprocAttr]
     exact ⟨by rw [ax];simp,E⟩
   by_cases afG:1048575<s[i].1
   · have CJ:decide (s[i].1≤1048575)=false:=decide_eq_false (by omega)
     have oJ:(1048575<s[i].1)=True:=eq_true (by omega)
     rw [CJ] at ax
     simp +contextual only [bk,bS,ai,g0,cH,d0,eq_false bE,oJ,↓aw,aH,simprocAttr]
     exact ⟨by rw [ax];simp,E⟩
   have bR:s[i].1≤1048575:=by omega
   have oJ:(1048575<s[i].1)=False:=eq_false (by omega)
   have last:∀(hA:hS s i<s[i].1) {g2:af} (ch:Ext g g2),sH s=(decide (s[i].2.check=0)&&mq (hS s (i+1)) (s.drop (i+1))):=fun hA g2 ch=>by
    rw [ax,sk,decide_eq_true hA,decide_eq_true bR];simp
   by_cases Yh:i=0
   · have LB:hS s i=-1:=by rw [Yh];rfl
     have pY:((0:Int) < (i:Int))=False:=eq_false (by omega)
     have hA:hS s i<s[i].1:=by rw [LB];omega
     simp +contextual only [bk,bS,ai,g0,cH,d0,d4,eq_false bE,oJ,pY,ol.1,ol.2.1,↓aw,aH,simprocAttr]
     refine cF (Gu s[i].2 bm _ g X) ?_
     rintro x g2 ⟨rfl,ch⟩
     have oM:=iV g2 ch
     have rm:=jt g2 ch
     have eX:=last hA ch
     by_cases c3:s[i].2.check=0
     · rw [decide_eq_true c3,Bool.true_and] at eX
       simp +contextual only [bk,bS,ai,g0,cH,d0,d4,oM,rm,eq_false bE,oJ,pY,ol.1,ol.2.1,eq_true c3,decide_true,decide_false,ez,↓aw,aH,simprocAttr]
       exact ⟨⟨E.trans ch,i+1,rfl,by omega,by rw [sk];omega,eX⟩,by omega⟩
     · rw [decide_eq_false c3,Bool.false_and] at eX
       simp +contextual only [bk,bS,ai,g0,cH,d0,d4,oM,rm,eq_false bE,oJ,pY,ol.1,ol.2.1,eq_false c3,decide_true,decide_false,ez,↓aw,aH,simprocAttr]
       exact ⟨by rw [eX],E.trans ch⟩
   · obtain ⟨j,kQ⟩:∃j,i=j+1:=⟨i-1,by omega⟩
     have pY:((0:Int) < (i:Int))=True:=eq_true (by omega)
     have bB:j<s.length:=by omega
     obtain ⟨cf,Ar,aeW,mV,_,LV,_,_⟩:=dV.hR HK (k:=.i64) bB
     have Bc:IntKind.i64.wrap ((i:Int)-1)=(j:Int):=by rw [wrap_i64 (by unfold top at hle;omega) (by unfold top at hle;omega)];omega
     have yN:=LV g (Ext.refl g)
     have L':hS s i=s[j].1:=by rw [kQ,hS,List.getElem?_eq_getElem bB]
     by_cases dh:s[i].1≤s[j].1
     · have Cg:decide (hS s i<s[i].1)=false:=decide_eq_false (by rw [L'];omega)
       rw [Cg] at ax
       simp +contextual only [bk,bS,ai,g0,cH,mV,Bc,d0,yN,eq_false bE,oJ,pY,eq_true dh,ol.1,ol.2.1,decide_true,decide_false,↓aw,aH,simprocAttr]
       exact ⟨by rw [ax];simp,E⟩
     · have hA:hS s i<s[i].1:=by rw [L'];omega
       simp +contextual only [bk,bS,ai,g0,cH,mV,Bc,d0,d4,yN,eq_false bE,oJ,pY,eq_false dh,ol.1,ol.2.1,decide_true,decide_false,↓aw,aH,simprocAttr]
       refine cF (Gu s[i].2 bm _ g X) ?_
       rintro x g2 ⟨rfl,ch⟩
       have oM:=iV g2 ch
       have rm:=jt g2 ch
       have Jh:=LV g2 ch
       have eX:=last hA ch
       by_cases c3:s[i].2.check=0
       · rw [decide_eq_true c3,Bool.true_and] at eX
         simp +contextual only [bk,bS,ai,g0,cH,mV,Bc,d0,d4,oM,rm,yN,Jh,eq_false bE,oJ,pY,eq_false dh,ol.1,ol.2.1,eq_true c3,decide_true,decide_false,ez,↓aw,aH,simprocAttr]
         exact ⟨⟨E.trans ch,i+1,rfl,by omega,by rw [sk];omega,eX⟩,by omega⟩
       · rw [decide_eq_false c3,Bool.false_and] at eX
         simp +contextual only [bk,bS,ai,g0,cH,mV,Bc,d0,d4,oM,rm,yN,Jh,eq_false bE,oJ,pY,eq_false dh,ol.1,ol.2.1,eq_false c3,decide_true,decide_false,ez,↓aw,aH,simprocAttr]
         exact ⟨by rw [eX],E.trans ch⟩
 · have g0:((i:Int) < (s.length:Int))=False:=eq_false (by omega)
   rw [List.drop_eq_nil_of_le (by omega),mq] at ax
   simp +contextual only [bk,bS,ai,g0,ax,↓aw,aH,simprocAttr]
   exact E
theorem afr [Lay] (F:aO→Prop) (h:af):bV F h jd.enc z4:=by
 rw [qw]
 exact .i (.i (.s (by simp [jd,aL.s]) ((cZ.nil _ _ _).cons .nil)))
set_option maxHeartbeats 4000000 in
theorem ade (s:dV) (aQ:∀p ∈ s,p.2.size≤1000000000) (t:aL) (aA:t.size≤1000000000) (F:aO→Prop) (dF:V) (ad:List V) (h:af) (gQ:∀b,F b→Old h b) (S:cZ F h 5 (s.map iu) dF) (H:bV F h t.enc ad):
 bI Tryz.prog 24 [dF,.agg ad] h fun x ab=>(∃cs,x=.tuple [.agg cs,.int .i64 (gd s t).2]∧bV (fun b=>F b∨fK h b) ab (gd s t).1.enc cs)∧Ext h ab:=by
 have hh:=H
 obtain ⟨b7,rfl,L,h_⟩:=aL.open H
 have ol:=L.one
 have os:=S.one
 refine SC rfl (df ?_)
 unfold CN
 obtain ⟨aa,au,aN,ck⟩:=fA h (cG t b7)
 obtain ⟨ae,aC,bf,fr⟩:=fA aa z4
 have dx:=ck.ext bf
 have cr:=aN.next
 have gr:=bf.next
 have uv:=ck.lt
 have Ae:=fr.lt
 have fB:=aN.trans bf
 simp +contextual only [ol.1,ol.2.1,os.1,os.2.1,au,aC,dx.g,↓aw,aH,simprocAttr]
 refine cF (aem s aQ dF ae ((S.ext fB).fH fun _ _=>trivial)) ?_
 rintro x aI ⟨rfl,bT⟩
 have gu:=dx.ext bT
 have hs:=fr.ext bT
 have pR:=fB.trans bT
 have n3:=bT.next
 have mE:∀{ab:af} (E:Ext h ab) (z:Int) (m:Nat),h.next≤m→(∃cs,V.tuple [.agg z4,.int .i64 z]=.tuple [.agg cs,.int .i64 z]∧bV (fun b=>F b∨fK h b) (ab.set (aq m) (.bb z4 0 false)) jd.enc cs)∧Ext h (ab.set (aq m) (.bb z4 0 false)):=fun E z m hm=>⟨⟨_,rfl,afr _ _⟩,E.set hm _⟩
 cases bE:sH s with
 | false=>
   have gY:gd s t=(jd,2):=by unfold gd;rw [if_neg (by rw [bE];simp)]
   rw [gY]
   simp +contextual only [hs.g,↓aw,aH,simprocAttr]
   exact mE pR 2 _ cr
 | true=>
   simp +contextual only [ol.1,ol.2.1,gu.g,↓aw,aH,simprocAttr]
   refine cF (Gu t aA _ aI ((hh.ext pR).fH fun _ _=>trivial)) ?_
   rintro x bo ⟨rfl,dA⟩
   have sS:=gu.ext dA
   have j9:=hs.ext dA
   have pS:=pR.trans dA
   have n4:=dA.next
   by_cases bR:t.check=0
   · have cJ:∀n u,dj n s=some u→u.size≤4096:=fun n u q=>(vV (A_ bE n u q).1).2.1
     have hl:=vV bR
     simp +contextual only [ol.1,ol.2.1,sS.g,eq_true bR,decide_true,decide_false,↓aw,aH,simprocAttr]
     refine cF (LW s cJ t.size t (Nat.le_refl _) hl.2.1 hl.1 dF _ bo ((S.ext pS).fH fun _ _=>trivial) ((hh.ext pS).fH fun _ _=>trivial)) ?_
     rintro x cI ⟨rfl,iM⟩
     have xU:=sS.ext iM
     have kD:=j9.ext iM
     have oN:=pS.trans iM
     have n5:=iM.next
     by_cases c3:4096 < (t.put s).size
     · have gY:gd s t=(jd,3):=by unfold gd;rw [if_pos ⟨bE,bR⟩,if_neg (by omega)]
       have gg:((4096:Int) < (((t.put s).size:Nat):Int))=True:=eq_true (by omega)
       rw [gY]
       simp +contextual only [kD.g,gg,↓aw,aH,simprocAttr]
       exact mE oN 3 _ cr
     · have gg:((4096:Int) < (((t.put s).size:Nat):Int))=False:=eq_false (by omega)
       by_cases dh:200 < (t.put s).deep
       · have gY:gd s t=(jd,3):=by unfold gd;rw [if_pos ⟨bE,bR⟩,if_neg (by omega)]
         have ri:((200:Int) < (((t.put s).deep:Nat):Int))=True:=eq_true (by omega)
         rw [gY]
         simp +contextual only [kD.g,gg,ri,↓aw,aH,simprocAttr]
         exact mE oN 3 _ cr
       · have ri:((200:Int) < (((t.put s).deep:Nat):Int))=False:=eq_false (by omega)
         have gY:gd s t=(t.put s,0):=by unfold gd;rw [if_pos ⟨bE,bR⟩,if_pos (by omega)]
         rw [gY]
         simp +contextual only [kD.g,xU.g,ol.1,ol.2.1,gg,ri,↓aw,aH,simprocAttr]
         refine cF (GJ s t.size t (Nat.le_refl _) aA (.inr hl.1) F dF _ cI (fun b q=>oN.bO (gQ b q)) (S.ext oN) (hh.ext oN)) ?_
         rintro x cQ ⟨⟨cs,rfl,C⟩,gN⟩
         obtain ⟨u,rfl,U,hu⟩:=aL.open C
         have ev:=U.one
         have ye:=kD.ext gN
         have n6:=gN.next
         simp +contextual only [ev.1,ev.2.1,↓aw,aH,simprocAttr]
         refine cF (Un (t.put s) (by omega) (fun b=>(F b∨fK cI b)∧Old cQ b) _ cQ (fun b q=>q.2) C.bO) ?_
         rintro x jl ⟨⟨cs,rfl,Ho⟩,rq⟩
         obtain ⟨agO,rfl,PQ,agh⟩:=aL.open Ho
         have MK:=PQ.one
         have BP:=ye.ext rq
         have UN:=(oN.trans gN).trans rq
         simp +contextual only [BP.g,MK.1,MK.2.1,↓aw,aH,simprocAttr]
         refine ⟨⟨_,rfl,Ho.mod ((Mod.refl (fun x=>x=aq aa.next) _).set (fun _=>rfl) _) fun b q _=>?_⟩,UN.set cr _⟩
         have az:F b∨cI.next≤ei b:=by
          rcases q with ⟨q | q,_⟩ | q
          · exact .inl q
          · exact .inr q
          · unfold fK at q;exact .inr (by omega)
         rcases az with q | q
         · exact ⟨fun z=>by have:=gQ b q;rw [show b=aq aa.next from z] at this;unfold Old at this;rw [c7] at this;omega,.inl q⟩
         · exact ⟨fun z=>by rw [show b=aq aa.next from z,c7] at q;omega,.inr (by unfold fK;omega)⟩
   · have gY:gd s t=(jd,2):=by unfold gd;rw [if_neg (fun q=>bR q.2)]
     rw [gY]
     simp +contextual only [j9.g,eq_false bR,decide_true,decide_false,↓aw,aH,simprocAttr]
     exact mE pS 2 _ cr
abbrev afp:List V:=[.int .i64 0,.int .i64 0,.int .i64 0,.str [],.b6]
theorem M' {n:Int} {t:aL}:∀{m:dV},dj n m=none→ob n t m=m++[(n,t)]
 | [],_=>rfl
 | (a,u)::m,h=>by
   simp only [dj] at h
   split at h
   · cases h
   · rename_i aV
     simp only [ob,if_neg aV,M' h,List.cons_append]
theorem L5 {n k:Int} {t:aL}:∀{m:dV},dj n m=none→n≠k→dj n (m++[(k,t)])=none
 | [],_,h=>by simp only [List.nil_append,dj,if_neg h]
 | (a,u)::m,h,ax=>by
   simp only [dj] at h
   split at h
   · cases h
   · rename_i aV
     simp only [List.cons_append,dj,if_neg aV,L5 h ax]
theorem adY {s:dV} {t:aL} (h:¬(t.fZ s 4096).2<0):(t.fZ s 4096).1.size≤4096:=by
 obtain ⟨a,b⟩:=Gk s t 4096 (by omega)
 by_cases c:((t.put s).size:Int)≤4096
 · rw [a c];simp only;omega
 · exact absurd (b (by omega)) h
set_option maxHeartbeats 16000000 in
theorem Qo (s:dV) (aQ:∀p ∈ s,p.2.size≤900000000) (t:aL) (aA:t.size≤900000000) (dF:V) (ad:List V) (h:af) (S:cZ Any h 5 (s.map iu) dF) (H:bV Any h t.enc ad):
 bI Tryz.prog 23 [dF,.agg ad] h fun x ab=>(∃w,x=.tuple [.agg (cG (gd s t).1 w),.int .i64 (gd s t).2]∧dZ ab (eT h.next ab.next) (gd s t).1.l w∧(gd s t).1.s.length≤top)∧Ext h ab:=by
 have hh:=H.n'
 have kE:=S.n'
 obtain ⟨b7,rfl,L,h_⟩:=aL.open H
 have ol:=L.one
 have os:=S.one
 have ai:=S.len
 have hle:=S.le
 rw [List.length_map] at ai hle
 refine Sz rfl (df ?_)
 unfold CM
 obtain ⟨aa,au,aN,ck⟩:=fA h (cG t b7)
 obtain ⟨ae,aC,bf,fr⟩:=fA aa z4
 have dx:=ck.ext bf
 have cr:=aN.next
 have gr:=bf.next
 have uv:=ck.lt
 have Ae:=fr.lt
 have fB:=aN.trans bf
 have s3:=jI.new (Old h) ae
 have bT:Ext ae (ae.new (.mp [] 0)):=(Ext.refl ae).new _
 have w_:(ae.new (.mp [] 0)).next=ae.next+1:=rfl
 simp +contextual only [show ∀g:af,qk none g=.val (.map (aq g.next)) (g.new (.mp [] 0)) from fun g=>rfl,ol.1,ol.2.1,os.1,os.2.1,au,aC,ai,↓aw,aH,simprocAttr]
 generalize ae.new (.mp [] 0)=aI at *
 have mE:∀{ab:af} (E:Ext h ab) (z:Int),(∃w,V.tuple [.agg z4,.int .i64 z]=.tuple [.agg (cG jd w),.int .i64 z]∧dZ (ab.set (aq aa.next) (.bb z4 0 false)) (eT h.next (ab.set (aq aa.next) (.bb z4 0 false)).next) jd.l w∧jd.s.length≤top)∧Ext h (ab.set (aq aa.next) (.bb z4 0 false)):=fun E z=>⟨⟨_,rfl,dZ.nil _ _,Nat.zero_le _⟩,E.set cr _⟩
 refine gE (fun r g=>r 0=dF∧r 3=.ptr (aq h.next) 0∧r 4=.ptr (aq aa.next) 0∧r 6=.map (aq ae.next)∧r 13=dF∧r 14=.int .i64 s.length∧∃i:Nat,r 7=.int .i64 (hS s i)∧r 15=.int .i64 i∧i≤s.length∧Has g h.next (cG t b7)∧Has g aa.next z4∧jI (Old h) g (aq ae.next) (s.take i)∧Ext h g∧aI.next≤g.next∧
  (∀n,hS s i<n→dj n (s.take i)=none)∧sH s=mq (hS s i) (s.drop i)) (fun r g=>s.length - (r 15).toN) ?_ ?_
 · exact ⟨by simp only [↓aw,b4,simprocAttr],by simp only [↓aw,b4,simprocAttr],by simp only [↓aw,b4,simprocAttr],by simp only [↓aw,b4,simprocAttr],by simp only [↓aw,b4,simprocAttr],by simp only [↓aw,b4,simprocAttr],0,by simp only [↓aw,b4,simprocAttr]<;>rfl,by simp only [↓aw,b4,simprocAttr]<;>rfl,by omega,dx.ext bT,fr.ext bT,s3,fB.trans bT,Nat.le_refl _,fun n _=>rfl,rfl⟩
 rintro r g ⟨bk,bS,cP,dw,mj,ml,i,hd,jx,aD,A,R,s4,E,aE,Kr,ax⟩
 unfold Iw
 by_cases aP:i<s.length
 · have g0:((i:Int) < (s.length:Int))=True:=eq_true (by omega)
   obtain ⟨b,off,wl,cH,X,iV,jt,aaQ⟩:=dV.hR (kE.ext E) (k:=.i64) aP
   have d5:=aaQ g (Ext.refl g)
   have ez:=jc aP (by unfold top at hle;omega)
   obtain ⟨ae2,eW,gw,E2⟩:=aL.open X
   have du:=gw.one
   obtain rfl:wl=ae2:=by simpa using eW
   have bm:=aQ _ (List.getElem_mem aP)
   rw [Ol aP] at ax
   have sk:hS s (i+1)=s[i].1:=by rw [hS,List.getElem?_eq_getElem aP]
   obtain ⟨g1,et,bs,Z⟩:=ht g afp (.int .i64 s[i].1::cG s[i].2 wl)
   have ck:=A.ext bs
   have nv:=R.ext bs
   have eA:=E.trans bs
   by_cases bE:s[i].1≤hS s i
   · have gY:gd s t=(jd,2):=by unfold gd;rw [ax,decide_eq_false (by omega)];simp
     rw [gY]
     simp +contextual only [bk,bS,cP,dw,hd,mj,ml,jx,g0,cH,d5,et,Z.g,nv.g,du.1,du.2.1,eq_true bE,↓aw,aH,simprocAttr]
     exact mE eA 2
   by_cases bR:1048575<s[i].1
   · have gY:gd s t=(jd,2):=by unfold gd;rw [ax,decide_eq_false (p:=s[i].1≤1048575) (by omega)];simp
     rw [gY]
     simp +contextual only [bk,bS,cP,dw,hd,mj,ml,jx,g0,cH,d5,et,Z.g,nv.g,du.1,du.2.1,eq_false bE,eq_true bR,↓aw,aH,simprocAttr]
     exact mE eA 2
   simp +contextual only [bk,bS,cP,dw,hd,mj,ml,jx,g0,cH,d5,et,Z.g,nv.g,du.1,du.2.1,eq_false bE,eq_false bR,↓aw,aH,simprocAttr]
   refine cF (Df s[i].2 bm _ g1 ((X.ext bs).fH fun _ _=>trivial)) ?_
   rintro x g2 ⟨rfl,ch⟩
   have dx:=ck.ext ch
   have fr:=nv.ext ch
   have s8:=Z.ext ch
   have bX:=eA.trans ch
   by_cases c3:s[i].2.check=0
   · rw [decide_eq_true c3,decide_eq_true (show hS s i<s[i].1 by omega),decide_eq_true (show s[i].1≤1048575 by omega),←sk] at ax
     have cT:=Kr s[i].1 (by omega)
     have pb:=bs.next
     have me:=ch.next
     obtain ⟨g3,sK,u5,u6,OA⟩:=((s4.ext bs).ext ch).nm s[i].1 (t:=s[i].2) ((X.ext bs).ext ch) (fun q=>by unfold Old at q;rw [c7] at q;omega)
     rw [M' cT] at u5
     have gu:=dx.mod u6 (fun q=>by have:=eZ q;omega)
     have hs:=fr.mod u6 (fun q=>by have:=eZ q;omega)
     have fp:=bX.lz u6 fun b q=>by rw [show b=aq ae.next from q,c7];omega
     simp +contextual only [bk,bS,cP,dw,hd,mj,ml,jx,s8.g,du.1,du.2.1,eq_true c3,decide_true,decide_false,kB.eq,sK,fY,ez,↓aw,aH,simprocAttr]
     refine ⟨⟨i+1,by rw [sk],rfl,aP,gu,hs,?_,fp,by omega,fun n aV=>?_,by simpa using ax⟩,by omega⟩
     · rw [List.take_succ_eq_append_getElem aP];exact u5
     · rw [sk] at aV
       rw [List.take_succ_eq_append_getElem aP]
       exact L5 (k:=s[i].1) (t:=s[i].2) (Kr n (by omega)) (show n≠s[i].1 by omega)
   · have gY:gd s t=(jd,2):=by unfold gd;rw [ax,decide_eq_false c3];simp
     rw [gY]
     simp +contextual only [bk,bS,cP,dw,hd,mj,ml,jx,fr.g,eq_false c3,decide_true,decide_false,↓aw,aH,simprocAttr]
     exact mE bX 2
 · have g0:((i:Int) < (s.length:Int))=False:=eq_false (by omega)
   rw [List.drop_eq_nil_of_le (by omega),mq] at ax
   rw [List.take_of_length_le (by omega)] at s4
   simp +contextual only [bk,bS,cP,dw,hd,mj,ml,jx,g0,A.g,ol.1,ol.2.1,↓aw,aH,simprocAttr]
   refine cF (Df t aA _ g ((hh.ext E).fH fun _ _=>trivial)) ?_
   rintro x g1 ⟨rfl,bs⟩
   have ck:=A.ext bs
   have nv:=R.ext bs
   have eA:=E.trans bs
   have pb:=bs.next
   have J':∀{m:Nat} (b:aO),Old h b→h.next≤m→b≠aq m:=fun b q hm z=>by unfold Old at q;rw [z,c7] at q;omega
   by_cases bR:t.check=0
   · have gY:=Qp ax bR
     obtain ⟨g2,f_,ch,nq⟩:=ht g1 [.int .i64 0] [.int .i64 4096]
     have dx:=ck.ext ch
     have fr:=nv.ext ch
     have bX:=eA.trans ch
     have me:=ch.next
     have l7:=nq.lt
     have Pz:=((s4.ext bs).ext ch).mod (dI:=Fr g1.next) (Mod.refl (fun _=>False) g2) (fun z=>z) fun b q _=>⟨fun z=>z,J' b q (by omega)⟩
     have r0:∀n u,dj n s=some u→u.size≤900000000:=fun n u q=>by have:=(vV (A_ ax n u q).1).2.1;omega
     simp +contextual only [bk,bS,cP,dw,hd,mj,ml,jx,f_,dx.g,nq.g,ol.1,ol.2.1,eq_true bR,decide_true,decide_false,↓aw,aH,simprocAttr]
     refine cF (Nn s r0 t.size t (Nat.le_refl _) aA 4096 (aq ae.next) g1.next _ g2 (by omega) (by omega) (fun q=>by have:=eZ q;omega) ((hh.ext bX).fH fun b q=>J' b q (by omega)) Pz nq) ?_
     rintro x g3 ⟨u,rfl,U,r',qS,m3⟩
     have xm:=m3.next
     have hs:=fr.mod m3 (fun q=>by have:=eZ q;omega)
     have fp:=bX.lz m3 fun b q=>by rw [show b=aq g1.next from q,c7];omega
     have ev:=U.one
     have b5:=@adY s t
     rw [gY]
     generalize agc:t.fZ s 4096=pu at *
     obtain ⟨p,ρ⟩:=pu
     simp only at *
     obtain ⟨g4,y4,va,Bj⟩:=ht g3 z4 (cG p u)
     have h3:=qS.ext va
     have j9:=hs.ext va
     have jB:=fp.trans va
     have Mq:=va.next
     have f1:(g3.next=aa.next)=False:=eq_false (by omega)
     have Vg:∀{rE:af},Ext g4 rE→dZ (rE.set (aq aa.next) (.bb (cG p u) 0 false)) (eT h.next (rE.set (aq aa.next) (.bb (cG p u) 0 false)).next) p.l u:=fun {rE} oj=>by
      have FW:=oj.next
      refine ((U.ext (va.trans oj)).mod ((Mod.refl (fun x=>x=aq aa.next) _).set (fun _=>rfl) _) fun b q z=>?_).fH fun b q=>?_
      · rw [show b=aq aa.next from z] at q;unfold eT at q;rw [c7] at q;omega
      · unfold eT at q ⊢;rw [k2];omega
     by_cases dh:ρ<0
     · rw [if_pos dh]
       simp +contextual only [bk,bS,cP,dw,hd,mj,ml,jx,y4,Bj.g,h3.g,j9.g,ev.1,ev.2.1,eq_true dh,decide_true,decide_false,↓aw,aH,simprocAttr]
       exact mE jB 3
     · rw [if_neg dh]
       have XD:=b5 dh
       simp +contextual only [bk,bS,cP,dw,hd,mj,ml,jx,y4,Bj.g,h3.g,j9.g,ev.1,ev.2.1,eq_false dh,decide_true,decide_false,↓aw,aH,simprocAttr]
       have PE:bV Any g4 p.enc (cG p u):=by
        rw [qw]
        exact .i (.i (.s r' (((U.ext va).fx fun _ _=>trivial).cons .nil)))
       refine cF (Df p (by omega) _ g4 PE) ?_
       rintro x g5 ⟨rfl,oj⟩
       have kD:=j9.ext oj
       have Hu:=Bj.ext oj
       have qV:=jB.trans oj
       by_cases c5:p.check=0
       · rw [if_pos c5]
         simp +contextual only [bk,bS,cP,dw,hd,mj,ml,jx,kD.g,Hu.g,ev.1,ev.2.1,eq_true c5,decide_true,decide_false,f1,↓aw,aH,simprocAttr]
         exact ⟨⟨_,rfl,Vg oj,r'⟩,qV.set cr _⟩
       · rw [if_neg c5]
         simp +contextual only [bk,bS,cP,dw,hd,mj,ml,jx,kD.g,Hu.g,ev.1,ev.2.1,eq_false c5,decide_true,decide_false,f1,↓aw,aH,simprocAttr]
         exact mE qV 3
   · have gY:gd s t=(jd,2):=by unfold gd;rw [if_neg (fun q=>bR q.2)]
     rw [gY]
     simp +contextual only [bk,bS,cP,dw,hd,mj,ml,jx,nv.g,eq_false bR,decide_true,decide_false,↓aw,aH,simprocAttr]
     exact mE eA 2
end Go.Proofs.YthemdhlheglhoaaGreatDoor
namespace Go.Proofs.YthemdhlheglhoaaGreatDoor
open Go a6
set_option maxHeartbeats 4000000 in
theorem abi (s:dV) (aV:s.length≤1048576) (m:Int) (dF:V) (h:af) (S:cZ Any h 5 (s.map iu) dF):bI Tryz.prog 21 [dF,.int .i64 m] h fun x ab=>(∃b,x=.bool b)∧Ext h ab:=by
 have kE:=S.n'
 have ai:=S.len
 have hle:=S.le
 have os:=S.one
 rw [List.length_map] at ai hle
 refine St rfl (df ?_)
 unfold c21
 simp +contextual only [os.1,os.2.1,↓aw,aH,simprocAttr]
 refine gE (fun r g=>r 0=dF∧r 1=.int .i64 m∧∃(i:Nat) (w:V),r 5=w∧r 6=.int .i64 i∧i≤s.length∧gb h.next (Old h) g 4 (((s.take i).map Prod.snd).map aL.enc) w∧Ext h g) (fun r g=>s.length - (r 6).toN) ?_ ?_
 · exact ⟨by simp only [↓aw,b4,simprocAttr],by simp only [↓aw,b4,simprocAttr],0,.b6,by simp only [↓aw,b4,simprocAttr],by simp only [↓aw,b4,simprocAttr]<;>rfl,by omega,gb.nil _ _ _ _,Ext.refl h⟩
 rintro r g ⟨bk,bw,i,w,dK,dw,aD,W,E⟩
 unfold Iu
 have du:=W.one
 by_cases aP:i<s.length
 · have g0:((i:Int) < (s.length:Int))=True:=eq_true (by omega)
   obtain ⟨b,off,b7,cH,X,iV,jt,_⟩:=dV.hR kE (k:=.i64) aP
   have d4:=jt g E
   have ez:=jc aP (by unfold top at hle;omega)
   obtain ⟨u7,eW,gw,E2⟩:=aL.open X
   have ol:=gw.one
   obtain rfl:b7=u7:=by simpa using eW
   have FV:=E.next
   have vD:bV (fun b=>Old h b∧¬w.a8 b) g s[i].2.enc (cG s[i].2 b7):=(X.ext E).fH fun b q=>⟨q,fun z=>by have:=W.base z;unfold Old at q;omega⟩
   obtain ⟨eQ,g3,bW,b3,dv,iF,nb⟩:=W.add vD (by omega) (by omega) (by rw [List.length_map,List.length_map,List.length_take];unfold top;omega) rfl
   have qt:=b3.one
   have fp:Ext h g3:=E.lz dv fun b q=>W.base q
   simp +contextual only [bk,bw,dK,dw,ai,g0,cH,d4,ol.1,ol.2.1,du.1,du.2.1,bW,qt.1,qt.2.1,ez,↓aw,aH,simprocAttr]
   refine ⟨⟨i+1,rfl,aP,?_,fp⟩,by omega⟩
   rw [List.take_succ_eq_append_getElem aP,List.map_append,List.map_append]
   exact b3
 · have g0:((i:Int) < (s.length:Int))=False:=eq_false (by omega)
   rw [List.take_of_length_le (by omega)] at W
   simp +contextual only [bk,bw,dK,dw,ai,g0,du.1,du.2.1,↓aw,aH,simprocAttr]
   refine cF (LD (s.map Prod.snd) m w g (W.fx (by rw [List.length_map,List.length_map];exact hle) (fun _ _=>trivial) fun _ _=>trivial)) ?_
   rintro x g2 ⟨⟨y,rfl⟩,rfl⟩
   simp +contextual only [↓aw,aH,simprocAttr]
   exact ⟨⟨_,rfl⟩,E⟩
set_option maxHeartbeats 4000000 in
theorem Us (s:dV) (aV:s.length≤1048576) (aQ:∀p ∈ s,p.2.size≤900000000) (dF:V) (h:af) (S:cZ Any h 5 (s.map iu) dF):bI Tryz.prog 22 [dF] h fun x ab=>cZ (fK h) ab 5 (s.map iu) x∧Ext h ab:=by
 have kE:=S.n'
 have ai:=S.len
 have hle:=S.le
 have os:=S.one
 rw [List.length_map] at ai hle
 refine Sw rfl (df ?_)
 unfold CL
 simp +contextual only [os.1,os.2.1,↓aw,aH,simprocAttr]
 refine gE (fun r g=>r 0=dF∧∃(i:Nat) (w:V),r 3=w∧r 4=.int .i64 i∧i≤s.length∧gb h.next (fK h) g 5 ((s.take i).map iu) w∧Ext h g) (fun r g=>s.length - (r 4).toN) ?_ ?_
 · exact ⟨by simp only [↓aw,b4,simprocAttr],0,.b6,by simp only [↓aw,b4,simprocAttr],by simp only [↓aw,b4,simprocAttr]<;>rfl,by omega,gb.nil _ _ _ _,Ext.refl h⟩
 rintro r g ⟨bk,i,w,bS,cP,aD,W,E⟩
 unfold Iv
 have du:=W.one
 have FV:=E.next
 by_cases aP:i<s.length
 · have g0:((i:Int) < (s.length:Int))=True:=eq_true (by omega)
   obtain ⟨b,off,b7,cH,X,iV,jt,_⟩:=dV.hR kE (k:=.i64) aP
   have d4:=jt g E
   have ez:=jc aP (by unfold top at hle;omega)
   obtain ⟨u7,eW,gw,E2⟩:=aL.open X
   have ol:=gw.one
   obtain rfl:b7=u7:=by simpa using eW
   have bm:=aQ _ (List.getElem_mem aP)
   obtain ⟨g1,et,bs,Ph⟩:=Ac (F:=Any) (size:=4) (ds:=s[i].2.enc) (cs:=cG s[i].2 b7) rfl ((X.ext E).fH fun _ _=>trivial) trivial
   simp +contextual only [bk,bS,cP,ai,g0,cH,d4,ol.1,ol.2.1,et,↓aw,aH,simprocAttr]
   refine cF (Dj (c2 [s[i].2]+1) [s[i].2] (by omega) (by simp only [c2];omega) _ g1 Ph) ?_
   rintro x g2 ⟨C,ch⟩
   have yi:=(W.ext bs).ext ch
   have bX:=(E.trans bs).trans ch
   have pb:=bs.next
   have me:=ch.next
   have d0:=iV g2 bX
   have sr:=C.one
   obtain ⟨cf,Ar,ul,mV,Y,vI,z7⟩:=aL.hR C (k:=.i64) (i:=0) (by simp)
   have tj:=z7 g2 (Ext.refl g2)
   simp only [List.getElem_cons_zero] at Y vI tj
   have fl:=vI.one
   have Yn:iU 4 x (.int .i64 0)=some (.ptr cf Ar):=by simpa using mV
   simp only [Nat.zero_mul,Nat.add_zero] at tj
   have vD:bV (fun b=>fK h b∧¬w.a8 b) g2 (iu s[i]) (.int .i64 s[i].1::cG s[i].2 ul):=.i (Y.fH fun b q=>by
    unfold fK at q ⊢
    exact ⟨by omega,fun z=>by have:=W.FY z;unfold Old at this;omega⟩)
   obtain ⟨eQ,g3,bW,b3,dv,iF,nb⟩:=yi.add vD (by omega) (by omega) (by rw [List.length_map,List.length_take];unfold top;omega) rfl
   have qt:=b3.one
   have fp:Ext h g3:=bX.lz dv fun b q=>yi.base q
   have oM:=iV g3 fp
   have I4:=iV (g2.new (.bb (.int .i64 s[i].1::cG s[i].2 ul) 0 false)) (bX.new _)
   rw [gO] at I4
   have Dr:=z7 (g2.new (.bb (.int .i64 s[i].1::cG s[i].2 ul) 0 false)) ((Ext.refl g2).new _)
   rw [gO] at Dr
   simp only [Nat.zero_mul,Nat.add_zero,List.getElem_cons_zero] at Dr
   simp +contextual only [bk,bS,cP,cH,Yn,I4,Dr,d0,oM,tj,sr.1,sr.2.1,fl.1,fl.2.1,du.1,du.2.1,bW,qt.1,qt.2.1,ez,↓aw,aH,simprocAttr]
   refine ⟨⟨i+1,rfl,aP,?_,fp⟩,by omega⟩
   rw [List.take_succ_eq_append_getElem aP,List.map_append]
   exact b3
 · have g0:((i:Int) < (s.length:Int))=False:=eq_false (by omega)
   rw [List.take_of_length_le (by omega)] at W
   simp +contextual only [bk,bS,cP,ai,g0,du.1,du.2.1,↓aw,aH,simprocAttr]
   exact ⟨W.fx (by rw [List.length_map];exact hle) (fun b q=>q) fun b q=>q,E⟩
set_option maxHeartbeats 4000000 in
theorem aec (s:dV) (dF G4:V) (h:af) (S:cZ Any h 5 (s.map iu) dF) (T:cZ Any h 5 (s.map iu) G4):bI Tryz.prog 15 [dF,G4] h fun x ab=>x=.bool true∧Ext h ab:=by
 have ai:=S.len
 have hm:=T.len
 have hle:=S.le
 have os:=S.one
 have MJ:=T.one
 rw [List.length_map] at ai hm hle
 refine Sg rfl (df ?_)
 unfold CB
 simp +contextual only [os.1,os.2.1,MJ.1,MJ.2.1,ai,hm,decide_true,decide_false,↓aw,aH,simprocAttr]
 refine gE (fun r g=>r 0=dF∧r 1=G4∧∃i:Nat,r 5=.int .i64 i∧i≤s.length∧Ext h g) (fun r g=>s.length - (r 5).toN) ?_ ?_
 · exact ⟨by simp only [↓aw,b4,simprocAttr],by simp only [↓aw,b4,simprocAttr],0,by simp only [↓aw,b4,simprocAttr]<;>rfl,by omega,Ext.refl h⟩
 rintro r g ⟨bk,bw,i,dK,aD,E⟩
 unfold Is
 by_cases aP:i<s.length
 · have g0:((i:Int) < (s.length:Int))=True:=eq_true (by omega)
   obtain ⟨b,off,b7,cH,X,iV,jt,_⟩:=dV.hR S (k:=.i64) aP
   obtain ⟨cf,Ar,aeW,mV,q9,LL,LR,_⟩:=dV.hR T (k:=.i64) aP
   have d0:=iV g E
   have d4:=jt g E
   have I3:=LL g E
   have d42:=LR g E
   have ez:=jc aP (by unfold top at hle;omega)
   simp +contextual only [bk,bw,dK,ai,g0,cH,mV,d0,d4,I3,d42,decide_true,decide_false,↓aw,aH,simprocAttr]
   refine cF (NT s[i].2 _ _ g (X.ext E) (q9.ext E)) ?_
   rintro x g2 ⟨rfl,ch⟩
   have bX:=E.trans ch
   have oM:=iV g2 bX
   have rm:=jt g2 bX
   have Uu:=LL g2 bX
   have Uv:=LR g2 bX
   simp +contextual only [bk,bw,dK,cH,mV,d0,d4,I3,d42,oM,rm,Uu,Uv,ez,decide_true,decide_false,↓aw,aH,simprocAttr]
   exact ⟨⟨i+1,rfl,aP,bX⟩,by omega⟩
 · have g0:((i:Int) < (s.length:Int))=False:=eq_false (by omega)
   simp +contextual only [bk,bw,dK,ai,g0,↓aw,aH,simprocAttr]
   exact E
end Go.Proofs.YthemdhlheglhoaaGreatDoor
namespace Go.Proofs.YthemdhlheglhoaaGreatDoor
open Go a6 Go.RowKit
set_option maxRecDepth 100000 in
theorem QI:G_ ctx 100000 11 []=true:=by kernel_rfl
theorem QH (h:af):e7 Tryz.prog 11 [] h (.bool true) h:=
 Ua (by kernel_rfl) (fun E x q=>by subst q;simp [Rel]) ⟨_,Tryz.func11,by kernel_rfl⟩ (fun w hw=>aeJ (C:=ctx) follows dc hw acO (by kernel_rfl) (by kernel_rfl) QI) h
theorem B8 (h:af):bI Tryz.prog 11 [] h fun x ab=>x=.bool true∧ab=h:=⟨_,_,QH h,rfl,rfl⟩
end Go.Proofs.YthemdhlheglhoaaGreatDoor
namespace Go.Proofs.YthemdhlheglhoaaGreatDoor
open Go a6
set_option maxHeartbeats 16000000 in
theorem Qn (s:dV) (aV:s.length≤1048576) (aQ:∀p ∈ s,p.2.size≤1048576) (t:aL) (aA:t.size≤1048576) (dF:V) (ad:List V) (h:af) (S:cZ Any h 5 (s.map iu) dF) (H:bV Any h t.enc ad):
 bI Tryz.prog 5 [dF,.agg ad] h fun x _=>x=.bool true:=by
 have hh:=H.n'
 have kE:=S.n'
 obtain ⟨b7,rfl,L,h_⟩:=aL.open H
 have ol:=L.one
 have os:=S.one
 refine S_ rfl (df ?_)
 unfold c5
 obtain ⟨aa,au,aN,ck⟩:=fA h (cG t b7)
 simp +contextual only [ol.1,ol.2.1,os.1,os.2.1,au,↓aw,aH,simprocAttr]
 refine cF (abi s aV 300 dF aa (S.ext aN)) ?_
 rintro x ae ⟨⟨ct,rfl⟩,bf⟩
 have dx:=ck.ext bf
 have bX:=aN.trans bf
 have uv:=ck.lt
 have cr:=aN.next
 have gr:=bf.next
 cases ct with
 | true=>
   simp +contextual only [↓aw,aH,simprocAttr]
   refine cF (B8 _) ?_
   rintro x aI ⟨rfl,rfl⟩
   simp +contextual only [↓aw,aH,simprocAttr]
 | false=>
 obtain ⟨aI,aM,bT,Pk⟩:=Ac (F:=Any) (size:=4) (ds:=t.enc) (cs:=cG t b7) rfl (H.ext bX) trivial
 have gu:=dx.ext bT
 have fp:=bX.trans bT
 have n3:=bT.next
 simp +contextual only [dx.g,gu.g,aM,ol.1,ol.2.1,↓aw,aH,simprocAttr]
 refine cF (LD [t] 300 _ aI Pk) ?_
 rintro x DQ ⟨⟨cf,rfl⟩,rfl⟩
 cases cf with
 | true=>
   simp +contextual only [↓aw,aH,simprocAttr]
   refine cF (B8 _) ?_
   rintro x aI ⟨rfl,rfl⟩
   simp +contextual only [↓aw,aH,simprocAttr]
 | false=>
 obtain ⟨bo,bG,dA,Pl⟩:=Ac (F:=Any) (size:=4) (ds:=t.enc) (cs:=cG t b7) rfl (H.ext fp) trivial
 have jB:=fp.trans dA
 have n4:=dA.next
 simp +contextual only [gu.g,bG,ol.1,ol.2.1,↓aw,aH,simprocAttr]
 refine cF (Dj (c2 [t]+1) [t] (by omega) (by simp only [c2];omega) _ bo Pl) ?_
 rintro oj g2 ⟨C,iM⟩
 have n5:=iM.next
 have qV:=jB.trans iM
 simp +contextual only [↓aw,aH,simprocAttr]
 refine cF (Us s aV (fun p ag=>by have:=aQ p ag;omega) dF g2 (S.ext qV)) ?_
 rintro OW g3 ⟨Bi,gN⟩
 have n6:=gN.next
 have Hx:=qV.trans gN
 have Bg:=C.ext gN
 have sr:=Bg.one
 have Mv:=Bi.one
 obtain ⟨gx,ab0,ul,Yo,Y,vI,z7⟩:=aL.hR Bg (k:=.i64) (i:=0) (by simp)
 have tj:=z7 g3 (Ext.refl g3)
 have Yp:iU 4 oj (.int .i64 0)=some (.ptr gx ab0):=by simpa using Yo
 simp only [Nat.zero_mul,Nat.add_zero,List.getElem_cons_zero] at tj Y vI
 have fl:=vI.one
 have Hl:=(((gu.ext dA).ext iM).ext gN)
 simp +contextual only [sr.1,sr.2.1,Mv.1,Mv.2.1,Yp,tj,fl.1,fl.2.1,↓aw,aH,simprocAttr]
 refine cF (Qo s (fun p ag=>by have:=aQ p ag;omega) t (by omega) OW _ g3 (Bi.fH fun _ _=>trivial) (Y.fH fun _ _=>trivial)) ?_
 rintro x g4 ⟨⟨w,rfl,W,K5⟩,rq⟩
 have n7:=rq.next
 have du:=W.one
 generalize jM:gd s t=A at *
 obtain ⟨p,ρ⟩:=A
 simp only at *
 obtain ⟨g5,xT,v8,pz⟩:=ht g4 z4 (cG p w)
 have n8:=v8.next
 have l7:=pz.lt
 have pC:=(Hx.trans rq).trans v8
 have O4:=(Hl.ext rq).ext v8
 simp +contextual only [xT,O4.g,ol.1,ol.2.1,os.1,os.2.1,du.1,du.2.1,↓aw,aH,simprocAttr]
 refine cF (ade s (fun p ag=>by have:=aQ p ag;omega) t (by omega) (Old h) dF _ g5 (fun b q=>pC.bO q) (kE.ext pC) (hh.ext pC)) ?_
 rintro x g6 ⟨⟨cs,rfl,Bh⟩,yR⟩
 rw [jM] at Bh ⊢
 simp only at *
 obtain ⟨bM,rfl,ot,o5⟩:=aL.open Bh
 have MN:=ot.one
 have n9:=yR.next
 obtain ⟨g7,Hh,v7,O_⟩:=ht g6 z4 (cG p bM)
 have n10:=v7.next
 have xX:=(pz.ext yR).ext v7
 simp +contextual only [Hh,xX.g,O_.g,du.1,du.2.1,MN.1,MN.2.1,↓aw,aH,simprocAttr]
 have HM:=((W.ext v8).ext yR).ext v7
 have vA:bV Any g7 p.enc (cG p w):=by
  rw [qw]
  exact .i (.i (.s K5 ((HM.fx fun _ _=>trivial).cons .nil)))
 refine cF (NT p _ _ g7 vA ((Bh.ext v7).fH fun _ _=>trivial)) ?_
 rintro x g8 ⟨rfl,yQ⟩
 have n11:=yQ.next
 have O6:=xX.ext yQ
 obtain ⟨g9,afm,fB,PT⟩:=aba (h:=g8) (T:=eT g3.next g4.next) (t:=p) (w:=w) (HM.ext yQ) (fun b q=>by unfold eT at q;unfold Old;omega) K5
 have n12:=fB.next
 simp +contextual only [O6.g,afm,du.1,du.2.1,decide_true,decide_false,↓aw,aH,simprocAttr]
 refine cF (ML _ [p] (Nat.le_refl _) _ _ g9 PT) ?_
 rintro x g10 m
 have n13:=m.next
 have hm:∀b,(eT g3.next g4.next b∨b=aq g8.next)→g3.next≤ei b:=fun b q=>by
  rcases q with q | q
  · exact q.1
  · rw [q,c7];omega
 have pR:Ext g3 g10:=(((((rq.trans v8).trans yR).trans v7).trans yQ).trans fB).lz m hm
 have Hw:=Hx.trans pR
 have O3:=Hl.ext pR
 obtain ⟨g11,afk,pS,Pj⟩:=Ac (F:=Any) (size:=4) (ds:=t.enc) (cs:=cG t b7) rfl (H.ext Hw) trivial
 simp +contextual only [O3.g,afk,ol.1,ol.2.1,sr.1,sr.2.1,decide_true,decide_false,↓aw,aH,simprocAttr]
 refine cF (adI [t] oj _ g11 (((Bg.ext pR).ext pS).fH fun _ _=>trivial) Pj) ?_
 rintro x g12 ⟨rfl,oN⟩
 have Pa:=(Hw.trans pS).trans oN
 simp +contextual only [↓aw,aH,simprocAttr]
 refine cF (aec s OW dF g12 ((((Bi.ext pR).ext pS).ext oN).fH fun _ _=>trivial) (S.ext Pa)) ?_
 rintro x g13 ⟨rfl,afN⟩
 simp +contextual only [↓aw,aH,simprocAttr]
 refine cF (B8 _) ?_
 rintro x g14 ⟨rfl,rfl⟩
 simp +contextual only [↓aw,aH,simprocAttr]
end Go.Proofs.YthemdhlheglhoaaGreatDoor
